import Derived.Test.YtoeefamnglbakaaY2
namespace Go.Proofs.Ytoeefamnglbakaa
open Go.RowKit Go.Shelf Go.Proofs.YtoeefamnglbakaaW.PrintWords Go.Proofs.YtoeefamnglbakaaW.PrintLast Go.Proofs.YtoeefamnglbakaaW.PrintMore
set_option linter.unusedVariables false
set_option linter.unusedSimpArgs false
attribute [local go_sem] t3 ts enc2 Oper.semAt_some
theorem Fr.own_lt {w W : World} {v : Value} {xs : List Int} (h : Fr w W v xs) {k : Nat} (hk : v.ownBlock = some k) : w.heap.size ≤ k ∧ k < W.heap.size := by
  have own := Kd.own_of_R (h1 := fun _ => rfl) (enc := Value.int .u8) h.1
  obtain ⟨cells, hc⟩ := own_typed own k hk
  refine ⟨?_, (Array.getElem?_eq_some_iff.1 hc).1⟩
  rcases own.2 with ⟨rfl, _⟩ | ⟨g, c, cur, rfl, hg, _⟩
  · simp [Value.ownBlock] at hk
  · have : g = k := by simpa [Value.ownBlock] using hk
    omega
theorem Fr.apart {w1 w2 w3 w4 : World} {x y : Value} {xs ys : List Int} (hx : Fr w1 w2 x xs) (hy : Fr w3 w4 y ys) (h : w2.heap.size ≤ w3.heap.size) : ∀ k, x.ownBlock = some k → some k ≠ y.ownBlock := fun k hk e => by
  have := (hx.own_lt hk).2
  have := (hy.own_lt e.symm).1
  omega
theorem Fr.apart' {w1 w2 w3 w4 : World} {x y : Value} {xs ys : List Int} (hx : Fr w1 w2 x xs) (hy : Fr w3 w4 y ys) (h : w2.heap.size ≤ w3.heap.size) : ∀ k, y.ownBlock = some k → some k ≠ x.ownBlock := fun k hk e => hx.apart hy h k e.symm hk.symm
theorem Fr.over {w W W' : World} {x y : Value} {ys : List Int} (h : Fr w W y ys) (g : W.grownBy W' x.ownBlock) (hb : Below w.heap.size w W') (ne : ∀ k, x.ownBlock = some k → some k ≠ y.ownBlock) : Fr w W' y ys :=
  ⟨Kd.R_grown2 h.1 rfl g ne, hb⟩
theorem Fr.empty (W : World) : Fr W (W.alloc (.cells #[] 5)) (.slice (some ⟨W.heap.size, 0, none⟩) 0 0) [] := by
  refine ⟨Kd.R_of_own (h1 := fun _ => rfl) (enc := Value.int .u8) ⟨rfl, .inr ⟨W.heap.size, 0, #[], rfl, Nat.le_refl _, World.alloc_heap_new W _, Nat.le_refl _, Nat.zero_le _, rfl, rfl⟩⟩ (fun _ _ => trivial), (Below.refl _ W).alloc (Nat.le_refl _) _⟩
section
variable {ops : Array Oper} {rest : List Oper} {o : Oper} {a : Act} {Q : Exit → Act → World → Prop}
theorem appE {W : World} {z : Nat} {s x : Operand} {ys : List Int} {A : Option Addr} {c : Nat} (hgd : o.guard = none) (ho : o.op = .call { callee := .builtin .append, args := #[s, x], argTypes := #[22, 22] })
    (hs : a.eval s = .slice (some ⟨z, 0, none⟩) 0 0) (hx : a.eval x = .slice A ys.length c) (HR : Kd.C (Kd.int .u8) W A ys.length ys) (hl : ys.length ≤ 140737488355328) (hz : W.heap.size = z)
    (h : ∀ v1 w1, Fr W w1 v1 ys → wpList Try.prog ops Q rest (a.put o.dst v1) w1) : wpList Try.prog ops Q (o :: rest) a (W.alloc (.cells #[] 5)) := by
  subst hz
  refine appR hgd ho hs hx (Fr.empty W) (Kd.C_below HR ((Below.refl _ W).alloc (Nat.le_refl _) _)) (by simpa using hl) ?_
  intro v1 w1 H _
  exact h v1 w1 (by simpa using H)
end
theorem R_own {W : World} {n : Nat} {v : Value} {xs : List Int} (h : Kd.R (Kd.int .u8) 5 W n (fun _ => True) v xs) {k : Nat} (hk : v.ownBlock = some k) : n ≤ k ∧ k < W.heap.size ∧ ∃ cells, W.heap[k]? = some (.cells cells 5 (0, 0)) := by
  have own := Kd.own_of_R (h1 := fun _ => rfl) (enc := Value.int .u8) h
  obtain ⟨cells, hc⟩ := own_typed own k hk
  refine ⟨?_, (Array.getElem?_eq_some_iff.1 hc).1, cells, hc⟩
  rcases own.2 with ⟨rfl, _⟩ | ⟨g, c, cur, rfl, hg, _⟩
  · simp [Value.ownBlock] at hk
  · have : g = k := by simpa [Value.ownBlock] using hk
    omega
theorem R_turns {A B : World} {n b : Nat} {v : Value} {xs : List Int} (h : Kd.R (Kd.int .u8) 5 A n (fun _ => True) v xs) (t : Turns b A B) : Kd.R (Kd.int .u8) 5 B n (fun _ => True) v xs := by
  obtain ⟨l, o, o', hl, ho, hc, rfl⟩ := t
  have own := Kd.own_of_R (h1 := fun _ => rfl) (enc := Value.int .u8) h
  refine Kd.R_of_own (own_move own fun k hk => ?_) h.1
  obtain ⟨cells, hcell⟩ := own_typed own k hk
  exact World.putObj_heap_other (fun e => by subst e; rw [ho] at hcell; cases hcell; cases hc)
theorem R_but {W W' : World} {n q : Nat} {v : Value} {xs : List Int} (h : Kd.R (Kd.int .u8) 5 W n (fun _ => True) v xs) (g : W.grownBy W' (some q)) (ne : v.ownBlock ≠ some q) : Kd.R (Kd.int .u8) 5 W' n (fun _ => True) v xs :=
  Kd.R_grown2 h rfl g (fun k hk e => ne (by rw [← e, hk]))
theorem R_C {W : World} {n c : Nat} {A : Option Addr} {xs : List Int} (h : Kd.R (Kd.int .u8) 5 W n (fun _ => True) (.slice A xs.length c) xs) : Kd.C (Kd.int .u8) W A xs.length xs := by
  obtain ⟨A0, c0, e, _, k⟩ := Kd.R_reads h
  injection e with e _ _
  subst e
  exact k
/-- between two rounds: how many; nothing else that was there has turned -/
def OI (F : List Int) (q : Nat) (w18 : World) (k : Nat) (W : World) : Prop :=
  (W.cell? ⟨q, 0, none⟩ = some (.int .i64 (k : Int)) ∧ W.frozen? ⟨q, 0, none⟩ = false) ∧ (k ≤ 2 ∧ (F = [] → k = 0)) ∧ w18.grownBy W (some q)
theorem OI.step {F : List Int} {q : Nat} {w18 A B : World} {k : Nat} (h : OI F q w18 k A) (t : Turns w18.heap.size A B ∨ Below A.heap.size A B) : OI F q w18 k B := by
  obtain ⟨⟨h1, h2⟩, h3, h4⟩ := h
  rcases t with t | t
  · refine ⟨⟨cells_turns t h1, frozen_turns t h1 h2⟩, h3, ?_⟩
    obtain ⟨l, o, o', hl, ho, hc, rfl⟩ := t
    exact grown_then h4 (grownBy_putObj' A l o') (fun b e => by cases e; exact .inr hl)
  · exact ⟨⟨(t.cell (cells_lt h1)).trans h1, (t.frozen (cells_lt h1)).trans h2⟩, h3, grown_then h4 (grown_of_below t none) (fun b e => by cases e)⟩
theorem own_end (D4 b : Nat) (tmps : Array Value) (w W : World) (hB : Below w.heap.size w W) (c : W.cell? ⟨b, 0, none⟩ = some (.bool false)) (k4 : W.heap[D4]? = some (.deferred (some []))) (h4 : w.heap.size ≤ D4) (hb : w.heap.size ≤ b) (ht : tmps[4]? = some (.pointer (some ⟨b, 0, none⟩))) :
    bodyPostM Fence.wide 9 Try.prog Try.f11 (fun e w' => e = .returned (.bool true) ∧ Below w.heap.size w w') Exit.ret { tmps := tmps, defers := [{ target := .collected D4, args := #[] }] } (W.setCell ⟨b, 0, none⟩ (.bool true)) := by
  have c1 : (W.setCell ⟨b, 0, none⟩ (.bool true)).cell? ⟨b, 0, none⟩ = some (.bool true) := World.cell?_setCell_same' _ _ _ (by rw [c]; rfl)
  have q4 := (KeepsOthers.setCell W ⟨b, 0, none⟩ (.bool true)).same _ _ k4 rfl
  replace hB := hB.setCell (p := ⟨b, 0, none⟩) hb (.bool true)
  generalize W.setCell ⟨b, 0, none⟩ (.bool true) = V at *
  have t4 : Turns w.heap.size V (V.putObj D4 (.deferred none)) := ⟨_, _, _, h4, q4, rfl, rfl⟩
  have c2 := cells_turns t4 c1
  refine ⟨by simp, .inl ⟨_, _, rfl, run_takeDeferred q4, ?_⟩⟩
  refine ⟨.bool true, ?_, rfl, hB.trans (below_turns (Nat.le_refl _) t4)⟩
  simp [results, Try.f11, go_sem, c2, ht]
set_option maxHeartbeats 8000000 in
set_option maxRecDepth 100000 in
theorem WireOwn_calls (A : Option Addr) (c : Nat) (l : List Int) (s : ByteArray) (w : World) (hr : Kd.C (Kd.int .u8) w A l.length l) (hc : l.length ≤ c) (hb : bytesOK l) (hmx : l.length ≤ 140737488351232) (hs : s.size ≤ 140737488351232) :
    Calls Try.prog 11 #[.slice A l.length c, .string s] w fun e w' => e = .returned (.bool true) ∧ Below w.heap.size w w' := by
  have hr := Aside0.mk hr
  have hb := Aside0.mk hb
  refine (callsIn_wide (n := 9)).1 ?_
  refine callsIn_of_wp_marks Try.func11 rfl trivial ?_ rfl
  refine wpIn_wide.2 ?_
  simp only [Try.ntmps11, List.size_toArray, List.length_cons, List.length_nil, Nat.reduceAdd, Nat.reduceSub, Array.replicate_succ, Array.replicate_zero, List.push_toArray, List.append_toArray, List.nil_append, List.cons_append]
  have hB1 := (Below.refl w.heap.size w).alloc (Nat.le_refl _) (.cells #[.bool false] 4)
  have hr1 := Kd.C_below hr.out hB1
  go_wp2_with (at_builtin; refine appE (ys := l) rfl rfl rfl rfl hr1 (by omega) (by simp) ?_; intro vw w2 Hw; obtain ⟨Aw, cw, rfl, hcw, kw⟩ := Hw.reads; clear kw)
  have hB2 := Below_trans hB1 Hw.2
  have c20 : w2.cell? ⟨w.heap.size, 0, none⟩ = some (.bool false) := (Hw.2.cell (by simp)).trans (by simp [go_sem])
  have f20 : w2.frozen? ⟨w.heap.size, 0, none⟩ = false := (Hw.2.frozen (by simp)).trans (by simp [go_sem])
  obtain ⟨w3, hw3⟩ : ∃ w3, w3 = w2.alloc (.cells #[.slice Aw l.length cw] 22) := ⟨_, rfl⟩
  have hB3' : Below w2.heap.size w2 w3 := by rw [hw3]; exact (Below.refl _ w2).alloc (Nat.le_refl _) _
  have hB3 := Below_trans hB2 hB3'
  have c30 := (hB3'.cell (cells_lt c20)).trans c20
  have f30 := (hB3'.frozen (cells_lt c20)).trans f20
  have c31 : w3.cell? ⟨w2.heap.size, 0, none⟩ = some (.slice Aw l.length cw) := by rw [hw3]; simp [go_sem]
  have hw3s : w3.heap.size = w2.heap.size + 1 := by rw [hw3]; simp
  have kw3 : Kd.C (Kd.int .u8) w3 Aw l.length l := by
    obtain ⟨A0, c0, e, _, k⟩ := (Hw.later hB3').reads
    injection e with e _ _
    subst e
    exact k
  have hwF : Fr w w3 (.slice Aw l.length cw) l := (Hw.later hB3').of_later hB1
  have hr3 := Kd.C_below hr.out hB3
  rw [← hw3]
  clear hw3 Hw hr1 hB1 hB2 c20 f20 hB3'
  have hsz : (fr l).1.length ≤ 1048584 := by
    unfold fr
    split
    · simp
    · simp [w4]; omega
  have hFok := fr_ok l hb.out
  have hFT : l.length ≤ 1048576 ∧ (fr l).1 = w4 l.length ++ w4 (crc l) ++ l ∨ (fr l).1 = [] := by
    unfold fr
    split
    · exact .inr rfl
    · exact .inl ⟨by omega, rfl⟩
  -- f, g
  refine (Frame_calls A c l w3 hr3 hb.out hmx).mono ?_
  rintro e w4 ⟨vf, rfl, Hf⟩
  go_wp2_with fail
  refine (Frame_calls A c l w4 (Kd.C_below hr3 Hf.2) hb.out hmx).mono ?_
  rintro e w5 ⟨vg, rfl, Hg⟩
  generalize (fr l).2 = ef
  generalize hF : (fr l).1 = F at *
  -- t, u
  go_wp2_with fail
  refine (Text_calls s w5 hs).mono ?_
  rintro e w6 ⟨vt, rfl, Ht⟩
  go_wp2_with fail
  refine (Text_calls s w6 hs).mono ?_
  rintro e w7 ⟨vu, rfl, Hu⟩
  have hTok := text_ok s
  have hTl : (text s).length ≤ 140737488351242 := by
    unfold text
    have := ub_len10 s.size (by omega)
    simp only [List.length_append, bytesOf, List.length_map]
    have : s.data.toList.length = s.size := by simp
    omega
  generalize text s = T at *
  -- h, v
  obtain ⟨Af, cf, rfl, hcf, kf⟩ := Hf.reads
  obtain ⟨At, ct, rfl, hct, kt⟩ := Ht.reads
  have kf7 := Kd.C_below kf (Below_trans Hg.2 (Below_trans Ht.2 Hu.2))
  clear kf
  have kt8 := fun w8 (h : Below w7.heap.size w7 w8) => Kd.C_below kt (Below_trans Hu.2 h)
  clear kt
  go_wp2_with (first | (at_builtin; refine appE (ys := F) rfl rfl rfl rfl kf7 (by omega) (by simp) ?_; intro vh w8 Hh) | (at_builtin; refine appE (ys := T) rfl rfl rfl rfl (kt8 _ Hh.2) (by omega) (by simp) ?_; intro vv w9 Hv))
  have b34 := Hf.2
  have b45 := Hg.2
  have b56 := Ht.2
  have b67 := Hu.2
  have b78 := Hh.2
  have b89 := Hv.2
  have b79 := Below_trans b78 b89
  have b69 := Below_trans b67 b79
  have b59 := Below_trans b56 b69
  have b35 := Below_trans b34 b45
  have b36 := Below_trans b35 b56
  have b37 := Below_trans b36 b67
  have b38 := Below_trans b37 b78
  have s34 := b34.size
  have s45 := b45.size
  have s56 := b56.size
  have s67 := b67.size
  have s78 := b78.size
  have f9 := Hf.later (Below_trans b45 b59)
  have g9 := (Hg.later b59).of_later b34
  have t9 := (Ht.later b69).of_later b35
  have u9 := (Hu.later b79).of_later b36
  have h9 := (Hh.later b89).of_later b37
  have v9 := Hv.of_later b38
  have nfg := Hf.apart Hg (Nat.le_refl _)
  have nft := Hf.apart Ht s45
  have nfu := Hf.apart Hu (by omega)
  have nfh := Hf.apart Hh (by omega)
  have nfv := Hf.apart Hv (by omega)
  have ntg := Hg.apart' Ht (Nat.le_refl _)
  have ntu := Ht.apart Hu (Nat.le_refl _)
  have nth := Ht.apart Hh s67
  have ntv := Ht.apart Hv (by omega)
  clear Hf Hg Ht Hu Hh Hv b34 b45 b56 b67 b78 b89 b79 b69 b59 b35 b36 b37 b38 kf7 s34 s45 s56 s67 s78
  refine (scribble_calls f9 hFok (by omega)).mono ?_
  rintro e w10 ⟨⟨r1, rfl⟩, S1, G1⟩
  have g10 := g9.over G1 S1 nfg
  have t10 := t9.over G1 S1 nft
  have u10 := u9.over G1 S1 nfu
  have h10 := h9.over G1 S1 nfh
  have v10 := v9.over G1 S1 nfv
  clear f9 g9 t9 u9 h9 v9 nfg nft nfu nfh nfv S1 G1
  go_wp2_with fail
  refine (scribble_calls t10 hTok (by omega)).mono ?_
  rintro e w11 ⟨⟨r2, rfl⟩, S2, G2⟩
  have g11 := g10.over G2 S2 ntg
  have u11 := u10.over G2 S2 ntu
  have h11 := h10.over G2 S2 nth
  have v11 := v10.over G2 S2 ntv
  clear g10 t10 u10 h10 v10 ntg ntu nth ntv G2
  go_wp2_with fail
  refine (live_calls w11).mono ?_
  rintro e w12 ⟨rfl, B12⟩
  have g12 := g11.later B12
  have h12 := h11.later B12
  have hB12 := Below_trans S2 B12
  have E1 := Equal_fr g12 h12 hFok hFok
  have E2 := Equal_fr (u11.later B12) (v11.later B12) hTok hTok
  have E3 := Equal_calls A Aw c cw l l w12 (Kd.C_below hr3 hB12) (Kd.C_below kw3 hB12) hb.out hb.out
  rw [decide_eq_true rfl] at E1 E2 E3
  have c120 := (hB12.cell (cells_lt c30)).trans c30
  have f120 := (hB12.frozen (cells_lt c30)).trans f30
  have c121 := (hB12.cell (cells_lt c31)).trans c31
  have kw12 := Kd.C_below kw3 hB12
  obtain ⟨Ah, ch, rfl, hch, kh⟩ := h12.reads
  clear g11 u11 h11 v11 B12 S2 h12 kh
  go_wp2_with fail
  refine E1.mono ?_
  rintro e w' ⟨rfl, rfl⟩
  go_wp2_with fail
  refine E2.mono ?_
  rintro e w' ⟨rfl, rfl⟩
  go_wp2_with fail
  refine E3.mono ?_
  rintro e w' ⟨rfl, rfl⟩
  obtain ⟨Ag, cg, rfl, hcg, kg⟩ := g12.reads
  go_wp2_with (first | (at_builtin; refine appE (ys := F) rfl rfl rfl rfl kg (by omega) (by simp) ?_; intro v0 w13 H0) | (at_builtin; refine appR rfl rfl rfl rfl H0 (Kd.C_below kg H0.2) (by omega) ?_; intro v2 w14 H2 _))
  have hFF : bytesOK (F ++ F) := bytesOK_append hFok hFok
  have hFFl : (F ++ F).length ≤ 2097168 := by rw [List.length_append]; omega
  have FB := own_two l F hb.out hF hFT
  clear hF hFT
  obtain ⟨D, hD⟩ : ∃ D, D = F ++ F := ⟨_, rfl⟩
  rw [← hD] at H2 FB hFF hFFl
  replace hD := Aside0.mk hD
  obtain ⟨A2, c2, rfl, hc2, k2⟩ := H2.reads
  refine (TakeFrame_calls A2 c2 D 0 w14 k2 hc2 hFF (by omega)).mono ?_
  rintro e w15 ⟨vc, rfl, Hc⟩
  have hcok := tf_ok D 0 hFF
  have hcl := tf_len D 0
  generalize tf D 0 = rc at *
  go_wp2_with fail
  refine (scribble_calls Hc hcok (by omega)).mono ?_
  rintro e w16 ⟨⟨r3, rfl⟩, S3, G3⟩
  have B16 := Below_trans H2.2 S3
  have c160 := (B16.cell (cells_lt c120)).trans c120
  have f160 := (B16.frozen (cells_lt c120)).trans f120
  have c161 := (B16.cell (cells_lt c121)).trans c121
  have kw16 := Kd.C_below kw12 B16
  have g16 := g12.later B16
  have H16 := H2.later S3
  have hB16 := Below_trans hB3 (Below_trans hB12 B16)
  have B1216 := B16
  have q16 : w12.heap.size ≤ w16.heap.size := B16.size
  clear Hc G3 S3 B16 c120 f120 c121 hcok hcl E1 E2 E3 kg k2 H0 kw12
  obtain ⟨w17, hw17⟩ : ∃ w17, w17 = w16.alloc (.cells #[.int .i64 0] 3) := ⟨_, rfl⟩
  have B17 : Below w16.heap.size w16 w17 := by rw [hw17]; exact (Below.refl _ w16).alloc (Nat.le_refl _) _
  have s17 : w17.heap.size = w16.heap.size + 1 := by rw [hw17]; simp
  have n17 : w17.cell? ⟨w16.heap.size, 0, none⟩ = some (.int .i64 0) := by rw [hw17]; simp [go_sem]
  have m17 : w17.frozen? ⟨w16.heap.size, 0, none⟩ = false := by rw [hw17]; simp [go_sem]
  obtain ⟨Aq, cq, e17, hq17, k17⟩ := (H16.later B17).reads
  injection e17 with e17 _ e18
  subst e17 e18
  go_wp2_with fail
  rw [← hw17]
  clear hw17
  refine (Frames_calls2 A2 c2 D w17 k17 hc2 hFF (by omega)).mono ?_
  rintro e w18 ⟨B, A', c', rfl, hB, hBlt, hbox, R', hc', B18⟩
  have n18 := (B18.cell (cells_lt n17)).trans n17
  have m18 := (B18.frozen (cells_lt n17)).trans m17
  have B1618 := Below_trans B17 B18
  have s18 := B18.size
  go_wp2_with fail
  have hq3 : w3.heap.size ≤ w16.heap.size := Nat.le_trans hB12.size q16
  have c180 := (B1618.cell (cells_lt c160)).trans c160
  have f180 := (B1618.frozen (cells_lt c160)).trans f160
  have c181 := (B1618.cell (cells_lt c161)).trans c161
  have l180 := cells_lt c160
  have l181 := cells_lt c161
  have hwF18 := hwF.later (Below_trans hB12 (Below_trans B1216 B1618))
  have nw : (Value.slice Aw l.length cw).ownBlock ≠ some w16.heap.size := fun e => by have := (hwF.own_lt e).2; omega
  have ng : (Value.slice Ag F.length cg).ownBlock ≠ some w16.heap.size := fun e => by have := (g16.own_lt e).2; omega
  have nt : (Value.slice A2 D.length c2).ownBlock ≠ some w16.heap.size := fun e => by have := (H16.own_lt e).2; omega
  have nr : (Value.slice A' D.length c').ownBlock ≠ some w16.heap.size := fun e => by have := (R_own R' e).1; omega
  have g18 := (g16.later B1618).1
  have t18 := (H16.later B1618).1
  have hB18 := Below_trans hB16 B1618
  have h180 : OI F w16.heap.size w18 0 w18 := ⟨⟨n18, m18⟩, ⟨by omega, fun _ => rfl⟩, grown_refl _ _⟩
  have hqB : w16.heap.size ≠ B := by omega
  clear hwF hB3 hB12 hB16 B1216 kw16 kw3 c30 f30 c31 hr3 g12 g16 H2 H16 k17 B17 n17 m17 B18 n18 m18 hw3s c160 f160 c161
  refine (wpIn_wide (n := 9)).1 ?_
  refine range_law2 (n := 9) (α := Int × Value) (encs := enc2) rfl (enters_of Try.func39 (by kernel_rfl) rfl) (fun _ => rfl)
    (Frames2 _ w18.heap.size B A' c' D hc' hFF (by omega)) (fun k x P Q h t => ⟨h.1, h.2.1, h.2.2.1, Nat.le_trans h.2.2.2.1 (below_turns (Nat.zero_le _) t).size, R_turns h.2.2.2.2 t⟩) (by omega)
    (OI F w16.heap.size w18) (fun _ _ => False) (fun k P Q h t => h.step t) (fun _ _ _ h _ => h)
    (fun k P h => ⟨h.2.2.size, (World.cell?_of_block (a := ⟨B, 0, none⟩) (h.2.2.block B hBlt (fun e => by injection e with e; exact hqB e.symm))).trans hbox, R_C (R_but R' h.2.2 nr)⟩) h180 ?a1 ?assign ?body ?done ?stop
  case assign =>
    intro lp x W K hK
    simp only [enc2]
    gi_wp2
    exact hK
  case stop =>
    intro D c W _ h
    exact h.elim
  case body =>
    rintro lp k ⟨x1, v⟩ W ⟨⟨p1, p2⟩, ⟨hk2, hk0⟩, hg⟩ ⟨e1, hat, he, hsz, R⟩
    simp only at e1 he R
    subst e1
    obtain ⟨hFn, hk2', hl⟩ := (FB k hk2 hk0).1 he
    rw [hl] at R
    have cW1 := (World.cell?_of_block (a := ⟨w2.heap.size, 0, none⟩) (hg.block w2.heap.size (Nat.lt_of_lt_of_le l181 B1618.size) (fun e => by injection e with e; simp only at l181; omega))).trans c181
    have kwW := R_C (R_but hwF18.1 hg nw)
    obtain ⟨A5, c5, rfl, hc5, k5⟩ := Kd.R_reads R
    have E := Equal_calls A5 Aw c5 cw l l W k5 kwW hb.out hb.out
    rw [decide_eq_true rfl] at E
    have SC := scribble_R R hsz hb.out (by omega)
    clear FB
    gi_wp2_with fail
    refine ⟨trivial, (CallsIn.inRound lp (callsIn_wide.2 E)).mono ?_⟩
    rintro e W5 ⟨rfl, rfl⟩
    gi_wp2_with fail
    refine ⟨trivial, (CallsIn.inRound lp (callsIn_wide.2 SC)).mono ?_⟩
    rintro e W6 ⟨⟨r6, rfl⟩, G6⟩
    have hne : ∀ b, (Value.slice A5 l.length c5).ownBlock = some b → w18.heap.size ≤ b ∧ b ≠ w16.heap.size := fun b e => by
      have := (R_own R e).1
      have := B1618.size
      have := l180
      omega
    have hp1 : W6.cell? ⟨w16.heap.size, 0, none⟩ = some (.int .i64 (k : Int)) := (World.cell?_of_block (a := ⟨w16.heap.size, 0, none⟩) (G6.block w16.heap.size (cells_lt p1) (fun e => (hne _ e.symm).2 rfl))).trans p1
    have hp2 : W6.frozen? ⟨w16.heap.size, 0, none⟩ = false := (World.frozen?_of_block (a := ⟨w16.heap.size, 0, none⟩) (G6.block w16.heap.size (cells_lt p1) (fun e => (hne _ e.symm).2 rfl))).trans p2
    have KO : KeepsOthers W W6 := .of_grownBy G6 (fun j o e ho => by
      obtain ⟨_, _, cells, hcl⟩ := R_own R e
      rw [hcl] at ho
      cases ho
      rfl)
    have hg6 : w18.grownBy W6 (some w16.heap.size) := grown_then hg G6 (fun b e => .inr (hne b e).1)
    gi_wp2
    refine ⟨KO.trans (.setCell _ _ _), ⟨World.cell?_setCell_same' _ _ _ (by rw [hp1]; rfl), by rw [World.frozen?_setCell]; exact hp2⟩, ⟨by omega, fun h => absurd h hFn⟩, grown_then hg6 (grownBy_setCell' W6 _ _) (fun b e => .inl e)⟩
  rintro D4 k W hD4 ⟨hat, he⟩ ⟨⟨p1, p2⟩, ⟨hk2, hk0⟩, hg⟩ hK4
  have hk := (FB k hk2 hk0).2 he
  have ne0 : w.heap.size ≠ w16.heap.size := by simp only at l180; omega
  have cW0 := (World.cell?_of_block (a := ⟨w.heap.size, 0, none⟩) (hg.block w.heap.size (Nat.lt_of_lt_of_le l180 B1618.size) (fun e => by injection e with e; exact ne0 e))).trans c180
  have fW0 := (World.frozen?_of_block (a := ⟨w.heap.size, 0, none⟩) (hg.block w.heap.size (Nat.lt_of_lt_of_le l180 B1618.size) (fun e => by injection e with e; exact ne0 e))).trans f180
  have kg := R_C (R_but g18 hg ng)
  have kt := R_C (R_but t18 hg nt)
  have hBW : Below w.heap.size w W := ⟨hg.os.trans hB18.os, hg.tape.trans hB18.tape, hg.output.trans hB18.output, Nat.le_trans hB18.size hg.size, fun j hj => (hg.block j (Nat.lt_of_lt_of_le hj hB18.size) (fun e => by injection e with e; simp only at l180; omega)).trans (hB18.block j hj)⟩
  have hDl : D.length = F.length + F.length := by rw [hD.out, List.length_append]
  obtain ⟨i0, hi0, _, hsz0, _⟩ := info_parts info5
  have T1 := print_take_of (P := Try.prog) (Value.int .u8) (0 : Int) 22 5 .i64 Try.underlying22 hi0 hsz0 A2 c2 D (F.length : Int) (by omega) (by omega) hc2
  obtain ⟨A3, d1, d2, _⟩ := print_drop_of (P := Try.prog) (Value.int .u8) (0 : Int) 22 5 .i64 Try.underlying22 hi0 hsz0 A2 c2 D (F.length : Int) (by omega) (by omega) hc2
  have e1 : D.take (F.length : Int).toNat = F := by rw [hD.out]; simp
  have e2 : D.drop (F.length : Int).toNat = F := by rw [hD.out]; simp
  rw [e1] at T1
  rw [e2] at d1 d2
  obtain ⟨t1, t2, _⟩ := T1
  have E4 := Equal_calls A2 Ag c2 cg F F W (Kd.C_of_reads (h1 := fun _ => rfl) (t2 W (Kd.reads_of_C kt))) kg hFok hFok
  have E5 := Equal_calls A3 Ag (c2 - (F.length : Int).toNat) cg F F W (Kd.C_of_reads (h1 := fun _ => rfl) (d2 W (Kd.reads_of_C kt))) kg hFok hFok
  rw [decide_eq_true rfl] at E4 E5
  have hD4' : w.heap.size ≤ D4 := by simp only at l180; omega
  have hlo : (F.length : Int) ≤ D.length := by omega
  clear e1 e2 FB hg hat he t2 d2 g18 t18 hwF18 c180 f180 c181 h180 R' hbox hB18
  rcases hk with ⟨hF0, rfl⟩ | ⟨hF1, rfl⟩
  · have hl0 : F.length = 0 := by rw [hF0]; rfl
    have hl1 : (F.length : Int) ≤ 0 := by omega
    have hD0 : D = F := by rw [hD.out, hF0]; rfl
    have E5 := Equal_calls A2 Ag c2 cg D F W kt kg hFF hFok
    rw [decide_eq_true hD0] at E5
    rw [hl0] at E4 E5
    clear hF0 hl0 hD0 hD kg kt hDl
    go_wp2_with fail
    refine E4.mono ?_
    rintro e w' ⟨rfl, rfl⟩
    go_wp2_with fail
    refine E5.mono ?_
    rintro e w' ⟨rfl, rfl⟩
    go_wp2
    exact own_end D4 w.heap.size _ w W hBW cW0 hK4 hD4' (Nat.le_refl _) rfl
    exact absurd (List.eq_nil_of_length_eq_zero (by omega)) ‹¬F = []›
  · have hl1 : (0 : Int) < F.length := by have := List.length_pos_iff.2 hF1; omega
    clear hF1 hD kg kt hDl
    go_wp2_with fail
    refine E4.mono ?_
    rintro e w' ⟨rfl, rfl⟩
    go_wp2_with fail
    refine E5.mono ?_
    rintro e w' ⟨rfl, rfl⟩
    go_wp2
    exact own_end D4 w.heap.size _ w W hBW cW0 hK4 hD4' (Nat.le_refl _) rfl
end Go.Proofs.Ytoeefamnglbakaa
