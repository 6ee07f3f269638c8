import Derived.Test.YtoeefamnglbakaaR
namespace Go.Proofs.Ytoeefamnglbakaa
open Go.RowKit Go.Shelf Go.Proofs.YtoeefamnglbakaaW.PrintWords Go.Proofs.YtoeefamnglbakaaW.PrintLast Go.Proofs.YtoeefamnglbakaaW.PrintMore
set_option linter.unusedVariables false
set_option linter.unusedSimpArgs false
attribute [local go_sem] t3 ts Oper.semAt_some enc2
theorem goes_end (D4 D5 b : Nat) (tmps : Array Value) (w W : World) (hB : Below w.heap.size w W) (c : W.cell? ⟨b, 0, none⟩ = some (.bool false)) (k4 : W.heap[D4]? = some (.deferred (some []))) (k5 : W.heap[D5]? = some (.deferred (some []))) (hne : D4 ≠ D5) (h4 : w.heap.size ≤ D4) (h5 : w.heap.size ≤ D5) (hb : w.heap.size ≤ b) (ht : tmps[4]? = some (.pointer (some ⟨b, 0, none⟩))) :
    bodyPostM Fence.wide 9 Try.prog Try.f8 (fun e w' => e = .returned (.bool true) ∧ Below w.heap.size w w') Exit.ret { tmps := tmps, defers := [{ target := .collected D5, args := #[] }, { target := .collected D4, args := #[] }] } (W.setCell ⟨b, 0, none⟩ (.bool true)) := by
  have c1 : (W.setCell ⟨b, 0, none⟩ (.bool true)).cell? ⟨b, 0, none⟩ = some (.bool true) := World.cell?_setCell_same' _ _ _ (by rw [c]; rfl)
  have q4 := (KeepsOthers.setCell W ⟨b, 0, none⟩ (.bool true)).same _ _ k4 rfl
  have q5 := (KeepsOthers.setCell W ⟨b, 0, none⟩ (.bool true)).same _ _ k5 rfl
  replace hB := hB.setCell (p := ⟨b, 0, none⟩) hb (.bool true)
  generalize W.setCell ⟨b, 0, none⟩ (.bool true) = V at *
  have t5 : Turns w.heap.size V (V.putObj D5 (.deferred none)) := ⟨_, _, _, h5, q5, rfl, rfl⟩
  have r4 : (V.putObj D5 (.deferred none)).heap[D4]? = some (.deferred (some [])) := (World.putObj_heap_other (by omega)).trans q4
  have t4 : Turns w.heap.size (V.putObj D5 (.deferred none)) ((V.putObj D5 (.deferred none)).putObj D4 (.deferred none)) := ⟨_, _, _, h4, r4, rfl, rfl⟩
  have c2 := cells_turns t4 (cells_turns t5 c1)
  refine ⟨by simp, .inl ⟨_, _, rfl, run_takeDeferred q5, ?_⟩⟩
  refine ⟨by simp, .inl ⟨_, _, rfl, run_takeDeferred r4, ?_⟩⟩
  refine ⟨.bool true, ?_, rfl, (hB.trans (below_turns (Nat.le_refl _) t5)).trans (below_turns (Nat.le_refl _) t4)⟩
  simp [results, Try.f8, go_sem, c2, ht]
theorem range_brk {P : Program} {α : Type} {n : Nat} {g : Operand} {ps : Array Tmp} {assign body : Code} {Q : Exit → Act → World → Prop} {a : Act} {w : World} {gf : Nat} {lb : Array Value}
    {encs : α → Array Value} {R : Nat → α → World → Prop} {S : Nat → Prop} {n0 : Nat} (hg : a.eval g = .func (.func gf) #[] lb) (eg : ∀ args w, (callFunc gf args).run P w = .ok (.enter gf args) w) (hps : ∀ x, (encs x).size = ps.size)
    (hn : n0 ≤ w.heap.size) {w0 : World} (hw : Below w0.heap.size w0 w) (hit : Iter (n - 1) P gf lb encs R S n0 w0) (hR : ∀ k x A B, R k x A → Turns w.heap.size A B → R k x B) (h1 : 1 ≤ n)
    (I : Nat → World → Prop) (id : Nat) (X : Nat → Prop) (hI : ∀ k A B, I k A → (Turns w.heap.size A B ∨ Below A.heap.size A B) → I k B) (h0 : I 0 w) (a₁ : α → Act)
    (hassign : ∀ (l : Nat) (x : α) (W : World) (K : Act → World → Prop), K (a₁ x) W →
      assign.wpIn (Wd.inRound l) (n - 1 - 1) P (Exit.then K (fun _ _ _ => False)) { tmps := (ps.zip (encs x)).foldl (fun t (p, v) => t.setIfInBounds p v) a.tmps, defers := [] } W)
    (hbody : ∀ (l : Nat) (k : Nat) (x : α) (W : World), I k W → R k x W → body.wpIn (Wd.inRound l) (n - 1 - 1) P (LeftAt n0 (I (k + 1)) (fun c W => c = .exit id ∧ ∃ k, X k ∧ I k W) W) (a₁ x) W)
    (hx : ∀ a' W, Q .normal a' W → (Code.exit id).wpIn Wd n P Q a' W)
    (hend : ∀ (D k : Nat) (W : World), w.heap.size ≤ D → (S k ∨ X k) → I k W → W.heap[D]? = some (.deferred (some [])) → Q .normal { a with defers := { target := .collected D, args := #[] } :: a.defers } W) :
    (Code.rangeFunc g ps assign body).wpIn Wd n P Q a w := by
  refine range_law hg eg hps hn hw hit hR h1 I (fun c W => c = .exit id ∧ ∃ k, X k ∧ I k W) hI ?_ h0 a₁ hassign hbody (fun D k W hD hS => hend D k W hD (.inl hS)) ?_
  · rintro c A B ⟨e, k, hX, hi⟩ t
    exact ⟨e, k, hX, hI _ _ _ hi (.inl t)⟩
  · rintro D c W hD ⟨rfl, k, hX, hi⟩ hK
    exact hx _ _ (hend D k W hD (.inr hX) hi hK)
/-- between two rounds: how far, how many -/
def GI (l : List Int) (n1 : Nat) (w3 : World) (k : Nat) (W : World) : Prop :=
  (W.cell? ⟨n1, 0, none⟩ = some (.int .i64 (pos l k)) ∧ W.frozen? ⟨n1, 0, none⟩ = false) ∧ (W.cell? ⟨n1 + 1, 0, none⟩ = some (.int .i64 (k : Int)) ∧ W.frozen? ⟨n1 + 1, 0, none⟩ = false) ∧ At l k ∧ Below w3.heap.size w3 W
theorem GI.step {l : List Int} {n1 b : Nat} {w3 : World} {k : Nat} {A B : World} (hb : w3.heap.size ≤ b) (h : GI l n1 w3 k A) (t : Turns b A B ∨ Below A.heap.size A B) : GI l n1 w3 k B := by
  obtain ⟨⟨h1, h2⟩, ⟨h3, h4⟩, h5, h6⟩ := h
  rcases t with t | t
  · exact ⟨⟨cells_turns t h1, frozen_turns t h1 h2⟩, ⟨cells_turns t h3, frozen_turns t h3 h4⟩, h5, h6.trans (below_turns hb t)⟩
  · exact ⟨⟨(t.cell (cells_lt h1)).trans h1, (t.frozen (cells_lt h1)).trans h2⟩, ⟨(t.cell (cells_lt h3)).trans h3, (t.frozen (cells_lt h3)).trans h4⟩, h5, Below_trans h6 t⟩
theorem GI.put {l : List Int} {n1 : Nat} {w3 : World} {k : Nat} {W : World} (h1 : W.cell? ⟨n1, 0, none⟩ = some (.int .i64 (pos l k))) (h2 : W.frozen? ⟨n1, 0, none⟩ = false) (h3 : W.cell? ⟨n1 + 1, 0, none⟩ = some (.int .i64 (k : Int))) (h4 : W.frozen? ⟨n1 + 1, 0, none⟩ = false)
    (hat : At l (k + 1)) (hn : w3.heap.size ≤ n1) (hB : Below w3.heap.size w3 W) : GI l n1 w3 (k + 1) ((W.setCell ⟨n1, 0, none⟩ (.int .i64 (pos l (k + 1)))).setCell ⟨n1 + 1, 0, none⟩ (.int .i64 ((k : Int) + 1))) := by
  refine ⟨⟨?_, ?_⟩, ⟨?_, ?_⟩, hat, (hB.setCell (p := ⟨n1, 0, none⟩) hn _).setCell (p := ⟨n1 + 1, 0, none⟩) (Nat.le_succ_of_le hn) _⟩
  · rw [World.cell?_setCell_far _ _ _ _ (by simp)]
    exact World.cell?_setCell_same' _ _ _ (by rw [h1]; rfl)
  · rw [World.frozen?_setCell, World.frozen?_setCell]; exact h2
  · refine World.cell?_setCell_same' _ _ _ ?_
    rw [World.cell?_setCell_far _ _ _ _ (by simp), h3]; rfl
  · rw [World.frozen?_setCell, World.frozen?_setCell]; exact h4
set_option maxHeartbeats 8000000 in
set_option maxRecDepth 100000 in
theorem WireGoes_calls (A : Option Addr) (c : Nat) (l : List Int) (stop : Int) (w : World) (hr : Kd.C (Kd.int .u8) w A l.length l) (hc : l.length ≤ c) (hb : bytesOK l) (hmx : l.length ≤ 140737488351232) :
    Calls Try.prog 8 #[.slice A l.length c, .int .i64 stop] w fun e w' => e = .returned (.bool true) ∧ Below w.heap.size w w' := by
  have hr := Aside0.mk hr
  have hb := Aside0.mk hb
  obtain ⟨w1, hw1⟩ : ∃ w1, w1 = ((w.alloc (.cells #[.slice A l.length c] 22)).alloc (.cells #[.int .i64 stop] 3)).alloc (.cells #[.bool false] 4) := ⟨_, rfl⟩
  have hB1 : Below w.heap.size w w1 := by rw [hw1]; exact (((Below.refl _ w).alloc (Nat.le_refl _) _).alloc (by simp) _).alloc (by simp; omega) _
  have hs1 : w1.heap.size = w.heap.size + 3 := by rw [hw1]; simp
  have h10 : w1.cell? ⟨w.heap.size, 0, none⟩ = some (.slice A l.length c) := by rw [hw1]; simp [go_sem]
  have h11 : w1.cell? ⟨w.heap.size + 1, 0, none⟩ = some (.int .i64 stop) := by rw [hw1]; simp [go_sem]
  have h12 : w1.cell? ⟨w.heap.size + 1 + 1, 0, none⟩ = some (.bool false) := by rw [hw1]; simp [go_sem]
  have f12 : w1.frozen? ⟨w.heap.size + 1 + 1, 0, none⟩ = false := by rw [hw1]; simp [go_sem]
  refine (callsIn_wide (n := 9)).1 ?_
  refine callsIn_of_wp_marks Try.func8 rfl trivial ?_ rfl
  simp only [Try.ntmps8, List.size_toArray, List.length_cons, List.length_nil, Nat.reduceAdd, Nat.reduceSub, Array.replicate_succ, Array.replicate_zero, List.push_toArray, List.append_toArray, List.nil_append, List.cons_append]
  gi_wp2_with fail
  rw [← hw1]
  refine ⟨trivial, (callsIn_wide.2 (live_calls w1)).mono ?_⟩
  rintro e w2 ⟨rfl, B2⟩
  have hs2 := B2.size
  have h20 := (B2.cell (p := ⟨w.heap.size, 0, none⟩) (by show w.heap.size < _; omega)).trans h10
  have h21 := (B2.cell (p := ⟨w.heap.size + 1, 0, none⟩) (by show w.heap.size + 1 < _; omega)).trans h11
  have h22 := (B2.cell (p := ⟨w.heap.size + 1 + 1, 0, none⟩) (by show w.heap.size + 1 + 1 < _; omega)).trans h12
  have f22 := (B2.frozen (p := ⟨w.heap.size + 1 + 1, 0, none⟩) (by show w.heap.size + 1 + 1 < _; omega)).trans f12
  replace hB1 := Below_trans hB1 B2
  clear h10 h11 h12 f12 B2 hw1
  gi_wp2_with fail
  refine ⟨trivial, (callsIn_wide.2 (Frames_calls A c l w2 (Kd.C_below hr.out hB1) hc hb.out hmx)).mono ?_⟩
  rintro e w3 ⟨B, A', c', rfl, hB, hBlt, hbox, C', hc', B3⟩
  have hs3 := B3.size
  have h30 := (B3.cell (p := ⟨w.heap.size, 0, none⟩) (by show w.heap.size < _; omega)).trans h20
  have h31 := (B3.cell (p := ⟨w.heap.size + 1, 0, none⟩) (by show w.heap.size + 1 < _; omega)).trans h21
  have h32 := (B3.cell (p := ⟨w.heap.size + 1 + 1, 0, none⟩) (by show w.heap.size + 1 + 1 < _; omega)).trans h22
  have f32 := (B3.frozen (p := ⟨w.heap.size + 1 + 1, 0, none⟩) (by show w.heap.size + 1 + 1 < _; omega)).trans f22
  replace hB1 := Below_trans hB1 B3
  replace hs3 : w.heap.size + 3 ≤ w3.heap.size := by omega
  clear h20 h21 h22 f22 B3 hs2 hs1 hB w2 w1
  replace hbox := Aside0.mk hbox
  replace C' := Aside0.mk C'
  gi_wp2
  refine wpIn_loop_rounds 3 ?_
  rw [roundsIn_succ]
  gi_wp2_with fail
  have hBa := Below.refl w3.heap.size w3
  obtain ⟨wb, hwb⟩ : ∃ wb, wb = (w3.alloc (.cells #[.int .i64 0] 3)).alloc (.cells #[.int .i64 0] 3) := ⟨_, rfl⟩
  rw [← hwb]
  have hsb : wb.heap.size = w3.heap.size + 2 := by rw [hwb]; simp
  have hsa := hBa.size
  have hg0 : GI l w3.heap.size w3 0 wb := by
    rw [hwb]
    refine ⟨⟨?_, ?_⟩, ⟨?_, ?_⟩, At.zero l, (hBa.alloc hBa.size _).alloc (by simp; try omega) _⟩ <;> simp [go_sem, pos]
  clear hwb
  refine range_brk (n := 9) (α := Int × Value) (w0 := w3) (encs := enc2) rfl (enters_of Try.func39 (by kernel_rfl) rfl) (fun _ => rfl) (by omega) hg0.2.2.2
    (Frames1 _ B A' c' l w3 hBlt hbox.out C'.out hc' hb.out hmx) (fun k x P Q h t => ⟨h.1, h.2.1, h.2.2.1, h.2.2.2.turns (by omega) t⟩) (by omega)
    (GI l w3.heap.size w3) 2 (fun k => (k : Int) = stop) (fun k P Q h t => h.step (by omega) t) hg0 ?a1 ?assign ?body ?brk ?done
  case assign =>
    intro lp x W K hK
    simp only [enc2]
    gi_wp2
    exact hK
  case body =>
    rintro lp k ⟨x1, v⟩ W hG ⟨e1, hat, he, H⟩
    simp only at e1 he H
    subst e1
    obtain ⟨⟨p1, p2⟩, ⟨q1, q2⟩, _, BW⟩ := hG
    have g30 := (BW.cell (cells_lt h30)).trans h30
    have g31 := (BW.cell (cells_lt h31)).trans h31
    gi_wp2_with fail
    refine ⟨trivial, (CallsIn.inRound lp (callsIn_wide.2 (refTakeFrame_calls A c l (pos l k) W (Kd.C_below hr.out (Below_trans hB1 BW)) hc hb.out hmx))).mono ?_⟩
    rintro e W4 ⟨v4, rfl, H4⟩
    have g40 := (H4.2.cell (cells_lt g30)).trans g30
    have g41 := (H4.2.cell (cells_lt g31)).trans g31
    have p41 := (H4.2.cell (cells_lt p1)).trans p1
    have p42 := (H4.2.frozen (cells_lt p1)).trans p2
    have q41 := (H4.2.cell (cells_lt q1)).trans q1
    have q42 := (H4.2.frozen (cells_lt q1)).trans q2
    rw [he]
    have hnx := hat.next hb.out he
    have hst := tf_size l _ hb.out he
    have hps : pos l k + (tf l (pos l k)).2.1 = pos l (k + 1) := rfl
    have hok := tf_ok l (pos l k) hb.out
    have hnx' := hnx
    unfold At at hnx'
    have EQ := Equal_fr (H.later H4.2) H4 hok hok
    rw [decide_eq_true rfl] at EQ
    have hG5 := Aside0.mk (GI.put p41 p42 q41 q42 hnx hsa (Below_trans BW H4.2))
    have hW4 : ∀ u u' : Value, KeepsOthers W ((W4.setCell ⟨w3.heap.size, 0, none⟩ u).setCell ⟨w3.heap.size + 1, 0, none⟩ u') ∧ Below w3.heap.size W ((W4.setCell ⟨w3.heap.size, 0, none⟩ u).setCell ⟨w3.heap.size + 1, 0, none⟩ u') := fun u u' =>
      ⟨((keeps_below H4.2).trans (.setCell _ _ _)).trans (.setCell _ _ _), ((H4.2.mono BW.size).setCell (p := ⟨w3.heap.size, 0, none⟩) hsa u).setCell (p := ⟨w3.heap.size + 1, 0, none⟩) (Nat.le_succ_of_le hsa) u'⟩
    generalize (tf l (pos l k)).2.1 = sz at *
    clear he hat H hnx
    generalize hp' : pos l (k + 1) = pn at *
    gi_wp2_with fail
    refine ⟨trivial, (CallsIn.inRound lp (callsIn_wide.2 EQ)).mono ?_⟩
    rintro e W5 ⟨rfl, rfl⟩
    by_cases hst : (k : Int) + 1 = stop
    · gi_wp2
      have hG6 := hG5.out
      rw [hst] at hG6
      exact ⟨(hW4 _ _).1, rfl, k + 1, by omega, hG6⟩
    · have hst' : ((k : Int) + 1 == stop) = false := by simpa using hst
      gi_wp2
      exact ⟨(hW4 _ _).1, (hW4 _ _).2, hG5.out⟩
  case brk =>
    intro a' W h
    refine wpIn_exit ?_
    rw [Exit.inBlock, if_pos rfl]
    exact h
  rintro D4 k W hD4 hSX ⟨⟨p1, p2⟩, ⟨q1, q2⟩, hat, BW⟩ hK4
  have hE4 : w.heap.size ≤ D4 := by omega
  have g30 := (BW.cell (cells_lt h30)).trans h30
  have g31 := (BW.cell (cells_lt h31)).trans h31
  gi_wp2_with fail
  refine ⟨trivial, (callsIn_wide.2 (refTakeFrame_calls A c l (pos l k) W (Kd.C_below hr.out (Below_trans hB1 BW)) hc hb.out hmx)).mono ?_⟩
  rintro e w4 ⟨v4, rfl, H4⟩
  have g41 := (H4.2.cell (cells_lt g31)).trans g31
  have q41 := (H4.2.cell (cells_lt q1)).trans q1
  have B4 := BW.trans (H4.2.mono BW.size)
  have hG4 := Aside0.mk ((keeps_below H4.2).same _ _ hK4 rfl)
  have hT : ((k : Int) != stop) = false ∨ ((k : Int) != stop) = true ∧ ((tf l (pos l k)).2.2 == 0) = false := by
    rcases hSX with ⟨_, h⟩ | h
    · by_cases hs : (k : Int) = stop
      · exact .inl (by simpa using hs)
      · exact .inr ⟨by simpa using hs, by simpa using h⟩
    · exact .inl (by simpa using h)
  generalize tf l (pos l k) = r at *
  clear hSX BW g30 p1 p2 q1 q2 H4 hat hK4 hg0
  rcases hT with hT | ⟨hT, hT2⟩
  · gi_wp2
    rw [roundsIn_succ]
    gi_wp2_with fail
    replace f32 := (B4.frozen (cells_lt h32)).trans f32
    replace h30 := (B4.cell (cells_lt h30)).trans h30
    replace h31 := (B4.cell (cells_lt h31)).trans h31
    replace h32 := (B4.cell (cells_lt h32)).trans h32
    replace hB1 := Below_trans hB1 B4
    replace hs3 := Nat.le_trans hs3 B4.size
    replace hbox := Aside0.mk ((B4.cell (p := ⟨B, 0, none⟩) hBlt).trans hbox.out)
    replace C' := Aside0.mk (Kd.C_below C'.out B4)
    replace hBlt := Nat.lt_of_lt_of_le hBlt B4.size
    replace hBa := Below.refl w4.heap.size w4
    clear B4 g31 g41 q41
    obtain ⟨wb, hwb⟩ : ∃ wb, wb = (w4.alloc (.cells #[.int .i64 0] 3)).alloc (.cells #[.int .i64 0] 3) := ⟨_, rfl⟩
    rw [← hwb]
    have hsb : wb.heap.size = w4.heap.size + 2 := by rw [hwb]; simp
    have hsa := hBa.size
    have hg0 : GI l w4.heap.size w4 0 wb := by
      rw [hwb]
      refine ⟨⟨?_, ?_⟩, ⟨?_, ?_⟩, At.zero l, (hBa.alloc hBa.size _).alloc (by simp; try omega) _⟩ <;> simp [go_sem, pos]
    clear hwb
    refine range_brk (n := 9) (α := Int × Value) (w0 := w4) (encs := enc2) rfl (enters_of Try.func39 (by kernel_rfl) rfl) (fun _ => rfl) (by omega) hg0.2.2.2
      (Frames1 _ B A' c' l w4 hBlt hbox.out C'.out hc' hb.out hmx) (fun k x P Q h t => ⟨h.1, h.2.1, h.2.2.1, h.2.2.2.turns (by omega) t⟩) (by omega)
      (GI l w4.heap.size w4) 2 (fun k => (k : Int) = stop) (fun k P Q h t => h.step (by omega) t) hg0 ?a1A ?assignA ?bodyA ?brkA ?doneA
    case assignA =>
      intro lp x W K hK
      simp only [enc2]
      gi_wp2
      exact hK
    case bodyA =>
      rintro lp k ⟨x1, v⟩ W hG ⟨e1, hat, he, H⟩
      simp only at e1 he H
      subst e1
      obtain ⟨⟨p1, p2⟩, ⟨q1, q2⟩, _, BW⟩ := hG
      have g30 := (BW.cell (cells_lt h30)).trans h30
      have g31 := (BW.cell (cells_lt h31)).trans h31
      gi_wp2_with fail
      refine ⟨trivial, (CallsIn.inRound lp (callsIn_wide.2 (refTakeFrame_calls A c l (pos l k) W (Kd.C_below hr.out (Below_trans hB1 BW)) hc hb.out hmx))).mono ?_⟩
      rintro e W4 ⟨v4, rfl, H4⟩
      have g40 := (H4.2.cell (cells_lt g30)).trans g30
      have g41 := (H4.2.cell (cells_lt g31)).trans g31
      have p41 := (H4.2.cell (cells_lt p1)).trans p1
      have p42 := (H4.2.frozen (cells_lt p1)).trans p2
      have q41 := (H4.2.cell (cells_lt q1)).trans q1
      have q42 := (H4.2.frozen (cells_lt q1)).trans q2
      rw [he]
      have hnx := hat.next hb.out he
      have hst := tf_size l _ hb.out he
      have hps : pos l k + (tf l (pos l k)).2.1 = pos l (k + 1) := rfl
      have hok := tf_ok l (pos l k) hb.out
      have hnx' := hnx
      unfold At at hnx'
      have EQ := Equal_fr (H.later H4.2) H4 hok hok
      rw [decide_eq_true rfl] at EQ
      have hG5 := Aside0.mk (GI.put p41 p42 q41 q42 hnx hsa (Below_trans BW H4.2))
      have hW4 : ∀ u u' : Value, KeepsOthers W ((W4.setCell ⟨w4.heap.size, 0, none⟩ u).setCell ⟨w4.heap.size + 1, 0, none⟩ u') ∧ Below w4.heap.size W ((W4.setCell ⟨w4.heap.size, 0, none⟩ u).setCell ⟨w4.heap.size + 1, 0, none⟩ u') := fun u u' =>
        ⟨((keeps_below H4.2).trans (.setCell _ _ _)).trans (.setCell _ _ _), ((H4.2.mono BW.size).setCell (p := ⟨w4.heap.size, 0, none⟩) hsa u).setCell (p := ⟨w4.heap.size + 1, 0, none⟩) (Nat.le_succ_of_le hsa) u'⟩
      generalize (tf l (pos l k)).2.1 = sz at *
      clear he hat H hnx
      generalize hp' : pos l (k + 1) = pn at *
      gi_wp2_with fail
      refine ⟨trivial, (CallsIn.inRound lp (callsIn_wide.2 EQ)).mono ?_⟩
      rintro e W5 ⟨rfl, rfl⟩
      by_cases hst : (k : Int) + 1 = stop
      · gi_wp2
        have hG6 := hG5.out
        rw [hst] at hG6
        exact ⟨(hW4 _ _).1, rfl, k + 1, by omega, hG6⟩
      · have hst' : ((k : Int) + 1 == stop) = false := by simpa using hst
        gi_wp2
        exact ⟨(hW4 _ _).1, (hW4 _ _).2, hG5.out⟩
    case brkA =>
      intro a' W h
      refine wpIn_exit ?_
      rw [Exit.inBlock, if_pos rfl]
      exact h
    rintro D5 k W hD5 hSX ⟨⟨p1, p2⟩, ⟨q1, q2⟩, hat, BW⟩ hK5
    have hE5 : w.heap.size ≤ D5 := by omega
    have g30 := (BW.cell (cells_lt h30)).trans h30
    have g31 := (BW.cell (cells_lt h31)).trans h31
    gi_wp2_with fail
    refine ⟨trivial, (callsIn_wide.2 (refTakeFrame_calls A c l (pos l k) W (Kd.C_below hr.out (Below_trans hB1 BW)) hc hb.out hmx)).mono ?_⟩
    rintro e w5 ⟨v4, rfl, H4⟩
    have g41 := (H4.2.cell (cells_lt g31)).trans g31
    have q41 := (H4.2.cell (cells_lt q1)).trans q1
    have B5 := BW.trans (H4.2.mono BW.size)
    have hG5x := Aside0.mk ((keeps_below H4.2).same _ _ hK5 rfl)
    have hT : ((k : Int) != stop) = false ∨ ((k : Int) != stop) = true ∧ ((tf l (pos l k)).2.2 == 0) = false := by
      rcases hSX with ⟨_, h⟩ | h
      · by_cases hs : (k : Int) = stop
        · exact .inl (by simpa using hs)
        · exact .inr ⟨by simpa using hs, by simpa using h⟩
      · exact .inl (by simpa using h)
    generalize tf l (pos l k) = r5 at hT ⊢
    clear hSX BW g30 p1 p2 q1 q2 H4 hat hK5 hg0
    rcases hT with hT | ⟨hT, hT2⟩
    · gi_wp2
      rw [roundsIn_succ]
      gi_wp2_with fail
      refine ⟨trivial, (callsIn_wide.2 (live_calls w5)).mono ?_⟩
      rintro e w6 ⟨rfl, B6⟩
      have hd4 := (Array.getElem?_eq_some_iff.1 hG4.out).1
      have hd5 := (Array.getElem?_eq_some_iff.1 hG5x.out).1
      have k4 := ((B6.block D4 (Nat.lt_of_lt_of_le hd4 B5.size)).trans (B5.block D4 hd4)).trans hG4.out
      have k5 := (B6.block D5 hd5).trans hG5x.out
      have c6 := ((B6.cell (cells_lt ((B5.cell (cells_lt h32)).trans h32))).trans (B5.cell (cells_lt h32))).trans h32
      have f6 := ((B6.frozen (cells_lt ((B5.cell (cells_lt h32)).trans h32))).trans (B5.frozen (cells_lt h32))).trans f32
      have hB6 := Below_trans (Below_trans hB1 B5) B6
      clear hG4 hG5x h30 h31 h32 f32
      gi_wp2
      exact goes_end D4 D5 (w.heap.size + 1 + 1) _ w w6 hB6 c6 k4 k5 (by omega) (by omega) (by omega) (by omega) rfl
    · gi_wp2
      rw [roundsIn_succ]
      gi_wp2_with fail
      refine ⟨trivial, (callsIn_wide.2 (live_calls w5)).mono ?_⟩
      rintro e w6 ⟨rfl, B6⟩
      have hd4 := (Array.getElem?_eq_some_iff.1 hG4.out).1
      have hd5 := (Array.getElem?_eq_some_iff.1 hG5x.out).1
      have k4 := ((B6.block D4 (Nat.lt_of_lt_of_le hd4 B5.size)).trans (B5.block D4 hd4)).trans hG4.out
      have k5 := (B6.block D5 hd5).trans hG5x.out
      have c6 := ((B6.cell (cells_lt ((B5.cell (cells_lt h32)).trans h32))).trans (B5.cell (cells_lt h32))).trans h32
      have f6 := ((B6.frozen (cells_lt ((B5.cell (cells_lt h32)).trans h32))).trans (B5.frozen (cells_lt h32))).trans f32
      have hB6 := Below_trans (Below_trans hB1 B5) B6
      clear hG4 hG5x h30 h31 h32 f32
      gi_wp2
      exact goes_end D4 D5 (w.heap.size + 1 + 1) _ w w6 hB6 c6 k4 k5 (by omega) (by omega) (by omega) (by omega) rfl
  · gi_wp2
    rw [roundsIn_succ]
    gi_wp2_with fail
    replace f32 := (B4.frozen (cells_lt h32)).trans f32
    replace h30 := (B4.cell (cells_lt h30)).trans h30
    replace h31 := (B4.cell (cells_lt h31)).trans h31
    replace h32 := (B4.cell (cells_lt h32)).trans h32
    replace hB1 := Below_trans hB1 B4
    replace hs3 := Nat.le_trans hs3 B4.size
    replace hbox := Aside0.mk ((B4.cell (p := ⟨B, 0, none⟩) hBlt).trans hbox.out)
    replace C' := Aside0.mk (Kd.C_below C'.out B4)
    replace hBlt := Nat.lt_of_lt_of_le hBlt B4.size
    replace hBa := Below.refl w4.heap.size w4
    clear B4 g31 g41 q41
    obtain ⟨wb, hwb⟩ : ∃ wb, wb = (w4.alloc (.cells #[.int .i64 0] 3)).alloc (.cells #[.int .i64 0] 3) := ⟨_, rfl⟩
    rw [← hwb]
    have hsb : wb.heap.size = w4.heap.size + 2 := by rw [hwb]; simp
    have hsa := hBa.size
    have hg0 : GI l w4.heap.size w4 0 wb := by
      rw [hwb]
      refine ⟨⟨?_, ?_⟩, ⟨?_, ?_⟩, At.zero l, (hBa.alloc hBa.size _).alloc (by simp; try omega) _⟩ <;> simp [go_sem, pos]
    clear hwb
    refine range_brk (n := 9) (α := Int × Value) (w0 := w4) (encs := enc2) rfl (enters_of Try.func39 (by kernel_rfl) rfl) (fun _ => rfl) (by omega) hg0.2.2.2
      (Frames1 _ B A' c' l w4 hBlt hbox.out C'.out hc' hb.out hmx) (fun k x P Q h t => ⟨h.1, h.2.1, h.2.2.1, h.2.2.2.turns (by omega) t⟩) (by omega)
      (GI l w4.heap.size w4) 2 (fun k => (k : Int) = stop) (fun k P Q h t => h.step (by omega) t) hg0 ?a1B ?assignB ?bodyB ?brkB ?doneB
    case assignB =>
      intro lp x W K hK
      simp only [enc2]
      gi_wp2
      exact hK
    case bodyB =>
      rintro lp k ⟨x1, v⟩ W hG ⟨e1, hat, he, H⟩
      simp only at e1 he H
      subst e1
      obtain ⟨⟨p1, p2⟩, ⟨q1, q2⟩, _, BW⟩ := hG
      have g30 := (BW.cell (cells_lt h30)).trans h30
      have g31 := (BW.cell (cells_lt h31)).trans h31
      gi_wp2_with fail
      refine ⟨trivial, (CallsIn.inRound lp (callsIn_wide.2 (refTakeFrame_calls A c l (pos l k) W (Kd.C_below hr.out (Below_trans hB1 BW)) hc hb.out hmx))).mono ?_⟩
      rintro e W4 ⟨v4, rfl, H4⟩
      have g40 := (H4.2.cell (cells_lt g30)).trans g30
      have g41 := (H4.2.cell (cells_lt g31)).trans g31
      have p41 := (H4.2.cell (cells_lt p1)).trans p1
      have p42 := (H4.2.frozen (cells_lt p1)).trans p2
      have q41 := (H4.2.cell (cells_lt q1)).trans q1
      have q42 := (H4.2.frozen (cells_lt q1)).trans q2
      rw [he]
      have hnx := hat.next hb.out he
      have hst := tf_size l _ hb.out he
      have hps : pos l k + (tf l (pos l k)).2.1 = pos l (k + 1) := rfl
      have hok := tf_ok l (pos l k) hb.out
      have hnx' := hnx
      unfold At at hnx'
      have EQ := Equal_fr (H.later H4.2) H4 hok hok
      rw [decide_eq_true rfl] at EQ
      have hG5 := Aside0.mk (GI.put p41 p42 q41 q42 hnx hsa (Below_trans BW H4.2))
      have hW4 : ∀ u u' : Value, KeepsOthers W ((W4.setCell ⟨w4.heap.size, 0, none⟩ u).setCell ⟨w4.heap.size + 1, 0, none⟩ u') ∧ Below w4.heap.size W ((W4.setCell ⟨w4.heap.size, 0, none⟩ u).setCell ⟨w4.heap.size + 1, 0, none⟩ u') := fun u u' =>
        ⟨((keeps_below H4.2).trans (.setCell _ _ _)).trans (.setCell _ _ _), ((H4.2.mono BW.size).setCell (p := ⟨w4.heap.size, 0, none⟩) hsa u).setCell (p := ⟨w4.heap.size + 1, 0, none⟩) (Nat.le_succ_of_le hsa) u'⟩
      generalize (tf l (pos l k)).2.1 = sz at *
      clear he hat H hnx
      generalize hp' : pos l (k + 1) = pn at *
      gi_wp2_with fail
      refine ⟨trivial, (CallsIn.inRound lp (callsIn_wide.2 EQ)).mono ?_⟩
      rintro e W5 ⟨rfl, rfl⟩
      by_cases hst : (k : Int) + 1 = stop
      · gi_wp2
        have hG6 := hG5.out
        rw [hst] at hG6
        exact ⟨(hW4 _ _).1, rfl, k + 1, by omega, hG6⟩
      · have hst' : ((k : Int) + 1 == stop) = false := by simpa using hst
        gi_wp2
        exact ⟨(hW4 _ _).1, (hW4 _ _).2, hG5.out⟩
    case brkB =>
      intro a' W h
      refine wpIn_exit ?_
      rw [Exit.inBlock, if_pos rfl]
      exact h
    rintro D5 k W hD5 hSX ⟨⟨p1, p2⟩, ⟨q1, q2⟩, hat, BW⟩ hK5
    have hE5 : w.heap.size ≤ D5 := by omega
    have g30 := (BW.cell (cells_lt h30)).trans h30
    have g31 := (BW.cell (cells_lt h31)).trans h31
    gi_wp2_with fail
    refine ⟨trivial, (callsIn_wide.2 (refTakeFrame_calls A c l (pos l k) W (Kd.C_below hr.out (Below_trans hB1 BW)) hc hb.out hmx)).mono ?_⟩
    rintro e w5 ⟨v4, rfl, H4⟩
    have g41 := (H4.2.cell (cells_lt g31)).trans g31
    have q41 := (H4.2.cell (cells_lt q1)).trans q1
    have B5 := BW.trans (H4.2.mono BW.size)
    have hG5x := Aside0.mk ((keeps_below H4.2).same _ _ hK5 rfl)
    have hT : ((k : Int) != stop) = false ∨ ((k : Int) != stop) = true ∧ ((tf l (pos l k)).2.2 == 0) = false := by
      rcases hSX with ⟨_, h⟩ | h
      · by_cases hs : (k : Int) = stop
        · exact .inl (by simpa using hs)
        · exact .inr ⟨by simpa using hs, by simpa using h⟩
      · exact .inl (by simpa using h)
    generalize tf l (pos l k) = r5 at hT ⊢
    clear hSX BW g30 p1 p2 q1 q2 H4 hat hK5 hg0
    rcases hT with hT | ⟨hT, hT2⟩
    · gi_wp2
      rw [roundsIn_succ]
      gi_wp2_with fail
      refine ⟨trivial, (callsIn_wide.2 (live_calls w5)).mono ?_⟩
      rintro e w6 ⟨rfl, B6⟩
      have hd4 := (Array.getElem?_eq_some_iff.1 hG4.out).1
      have hd5 := (Array.getElem?_eq_some_iff.1 hG5x.out).1
      have k4 := ((B6.block D4 (Nat.lt_of_lt_of_le hd4 B5.size)).trans (B5.block D4 hd4)).trans hG4.out
      have k5 := (B6.block D5 hd5).trans hG5x.out
      have c6 := ((B6.cell (cells_lt ((B5.cell (cells_lt h32)).trans h32))).trans (B5.cell (cells_lt h32))).trans h32
      have f6 := ((B6.frozen (cells_lt ((B5.cell (cells_lt h32)).trans h32))).trans (B5.frozen (cells_lt h32))).trans f32
      have hB6 := Below_trans (Below_trans hB1 B5) B6
      clear hG4 hG5x h30 h31 h32 f32
      gi_wp2
      exact goes_end D4 D5 (w.heap.size + 1 + 1) _ w w6 hB6 c6 k4 k5 (by omega) (by omega) (by omega) (by omega) rfl
    · gi_wp2
      rw [roundsIn_succ]
      gi_wp2_with fail
      refine ⟨trivial, (callsIn_wide.2 (live_calls w5)).mono ?_⟩
      rintro e w6 ⟨rfl, B6⟩
      have hd4 := (Array.getElem?_eq_some_iff.1 hG4.out).1
      have hd5 := (Array.getElem?_eq_some_iff.1 hG5x.out).1
      have k4 := ((B6.block D4 (Nat.lt_of_lt_of_le hd4 B5.size)).trans (B5.block D4 hd4)).trans hG4.out
      have k5 := (B6.block D5 hd5).trans hG5x.out
      have c6 := ((B6.cell (cells_lt ((B5.cell (cells_lt h32)).trans h32))).trans (B5.cell (cells_lt h32))).trans h32
      have f6 := ((B6.frozen (cells_lt ((B5.cell (cells_lt h32)).trans h32))).trans (B5.frozen (cells_lt h32))).trans f32
      have hB6 := Below_trans (Below_trans hB1 B5) B6
      clear hG4 hG5x h30 h31 h32 f32
      gi_wp2
      exact goes_end D4 D5 (w.heap.size + 1 + 1) _ w w6 hB6 c6 k4 k5 (by omega) (by omega) (by omega) (by omega) rfl
end Go.Proofs.Ytoeefamnglbakaa
