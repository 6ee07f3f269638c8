import Derived.Test.YteikmnokmcnmcaaME
namespace Go.Proofs.Yteikmnokmcnmcaa
open Go.RowKit Go.Maps Go.Sort Go.Lib Go.Proofs.YteikmnokmcnmcaaW.PrintWords Go.Proofs.YteikmnokmcnmcaaW.PrintLast Go.Proofs.YteikmnokmcnmcaaW.PrintMore
set_option linter.unusedVariables false
set_option linter.unusedSimpArgs false
set_option linter.unusedSectionVars false
/-! ### Txns, Contains, without, inner -/
def TJ (w : World) (b r : Nat) (L : List (Pl × Sv)) (v : Value) (wr : World) : Prop :=
  ∃ vis rem : List (Pl × Sv), (vis ++ rem).Perm L ∧ RngN wr b r L.length L rem ∧ w.heap.size ≤ r ∧ dI.R 2 wr w.heap.size (fun k => r < k) v (vis.map (·.1.1)) ∧ Below w.heap.size w wr
set_option maxHeartbeats 8000000 in
set_option maxRecDepth 100000 in
theorem Txns_calls (base p b : Nat) (most many : Int) (L : List (Pl × Sv)) (R : Pl → List Rd) (w : World) (h : Mr w base p b most many L R) (hL : L.length ≤ 65536) :
    Calls Try.prog 22 #[.pointer (some ⟨p, 0, none⟩)] w fun e w' => ∃ v, e = .returned v ∧ dI.R 2 w' w.heap.size (fun _ => True) v (rise (L.map (·.1.1))) ∧ Below w.heap.size w w' := by
  obtain ⟨c0, c1, c2⟩ := h.cell
  have N := none_calls p b w c1
  have hblt : b < w.heap.size := h.tab.lt
  obtain ⟨w2, hrun, hRg, hg2, hs2⟩ := Tab.range (t := 53) keyP Try.underlying53 (h.tab : TabN w b L.length L)
  go_enter Try.func22, Try.ntmps22
  go_wp2_with fail
  refine N.mono ?_
  rintro e w' ⟨rfl, rfl⟩
  go_wp2_with fail
  go_loopw [3] (fun v wr => TJ w b w.heap.size L v wr) (fun _ wr => wr.rangeLeft b w.heap.size)
  case atStart =>
    exact ⟨[], L, List.Perm.refl _, hRg, Nat.le_refl _, Kd.R_nil _ _ _ _ _, (Below.refl _ w).grown hg2 (Nat.le_refl _) (by simp)⟩
  case round =>
    obtain ⟨vis, rem, hp, hr, hle, hv, hB⟩ := hrel
    have hlenp := hp.length_eq
    rw [List.length_append] at hlenp
    rcases hr.next keyP valS 0 with ⟨hnil, hrun1⟩ | ⟨a, sv, w3, hmem, hok, hrun1, hr3, hlt, hg3, hs3, hent⟩
    · subst hnil
      rw [List.append_nil] at hp
      have hbase0 := Kd.R_base hv
      have S := rising_calls wr w.heap.size _ u3 _ hv (by rw [List.length_map]; omega)
      rw [rise_congr (fun x => (hp.map _).mem_iff)] at S
      go_wp2_with fail
      refine S.mono ?_
      rintro e w4 ⟨v4, rfl, H4, G4, e4⟩
      go_wp2
      go_ret
      exact ⟨_, rfl, ⟨fun _ _ => trivial, H4.2⟩, hB.grown G4 hB.size (fun k hk => hbase0 k hk)⟩
    · unfold mkP at hrun1 hent
      have hB3 : Below w.heap.size w w3 := hB.grown hg3 hB.size (fun k e => by injection e with e; omega)
      have hv3 : dI.R 2 w3 w.heap.size (fun k => w.heap.size < k) u3 (vis.map (·.1.1)) := Kd.R_grown hv hg3 (fun k hk e => by injection e with e; omega)
      obtain ⟨W, hW⟩ : ∃ W, W = w3.alloc (.cells #[.int .i64 a.1, .string a.2] 62) := ⟨_, rfl⟩
      have BA : Below w3.heap.size w3 W := by rw [hW]; exact (Below.refl _ w3).alloc (Nat.le_refl _) _
      have hrl : w.heap.size < wr.heap.size := hr.lt
      have hop : W.heap[wr.heap.size]? = some (.cells #[.int .i64 a.1, .string a.2] 62 (0, 0)) := by rw [hW, ← hs3]; exact heap_alloc_new w3 _
      have p0 := cell_of_row W _ 0 _ 62 (0, 0) hop
      have BW := below_then hB3 hB3.size BA
      have hvW : dI.R 2 W w.heap.size (fun k => w.heap.size < k) u3 (vis.map (·.1.1)) := Kd.R_below hv3 BA
      obtain ⟨hrW, elW⟩ := hr3.kept (grown_of_below BA none) (by simp) (by simp)
      have hbase0 := Kd.R_base hvW
      have hlen : (vis.map (·.1.1)).length ≤ 65536 := by rw [List.length_map]; omega
      have fin : ∀ v1 w6, dI.R 2 w6 w.heap.size (fun k => w.heap.size < k) v1 (vis.map (·.1.1) ++ [a.1]) → Below w.heap.size w w6 → W.grownBy w6 u3.ownBlock → TJ w b w.heap.size L v1 w6 ∧ w6.rangeLeft b w.heap.size < wr.rangeLeft b w.heap.size := by
        intro v1 w6 H6 B6 G6
        obtain ⟨hr7, el2⟩ := hrW.kept G6 (fun e => by have := hbase0 _ e.symm; omega) (fun e => by have := hvW.1 _ e.symm; omega)
        refine ⟨⟨vis ++ [(a, sv)], _, perm_next hr.apart hp hmem, hr7, Nat.le_refl _, ?_, B6⟩, by rw [el2, elW]; exact hlt⟩
        rw [List.map_append]
        exact H6
      have hWs : w.heap.size < W.heap.size := by have := (Array.getElem?_eq_some_iff.1 hop).1; omega
      replace h := Aside0.mk h
      go_upto_region 7 with (fail)
      rw [← hW]
      clear hW
      go_wp2_with (at_builtin; refine appI (v := u3) rfl rfl rfl rfl hvW BW hlen rfl (fun k hk => by omega) ?_; intro v1 w6 H6 B6 G6)
      exact fin _ _ H6 B6 G6
theorem Txns_S (base p : Nat) (most : Int) (S : St) (w : World) (h : MrS w base p most S) :
    Calls Try.prog 22 #[.pointer (some ⟨p, 0, none⟩)] w fun e w' => ∃ v, e = .returned v ∧ dI.R 2 w' w.heap.size (fun _ => True) v (rise (S.K.map (·.1))) ∧ Below w.heap.size w w' := by
  obtain ⟨⟨b, L, M, hk, hbb⟩, hI, hn, h3, h4⟩ := h
  have hL : L.length ≤ 65536 := by
    have h1 : L.length = S.K.length := by rw [← hk, List.length_map]
    have := hI.card
    omega
  have O := Txns_calls base p b most S.n L S.R w M hL
  rw [show L.map (·.1.1) = S.K.map (·.1) by rw [← hk, List.map_map]; rfl] at O
  exact O
/-- a row of whole numbers -/
abbrev RowI (w : World) (base : Nat) (v : Value) (xs : List Int) : Prop := Lo encI 1 2 w base v xs
theorem RowI.at {w : World} {base g n c : Nat} {xs : List Int} (h : RowI w base (.slice (some ⟨g, 0, none⟩) n c) xs) (j : Nat) (x : Int) (hj : xs[j]? = some x) : w.cell? ⟨g, j, none⟩ = some (.int .i64 x) := by
  have H := h.cell (fun _ => rfl) rfl j x hj 0 _ rfl
  simpa using H
def idxI (t : Int) (xs : List Int) : Int := if xs.findIdx (· == t) < xs.length then (xs.findIdx (· == t) : Int) else -1
theorem idxI_any (t : Int) (xs : List Int) : decide (0 ≤ idxI t xs) = xs.any (· == t) := by
  unfold idxI
  cases h : xs.any (· == t) with
  | true =>
    rw [if_pos (List.findIdx_lt_length.2 (by simpa using h))]
    simp
  | false =>
    rw [if_neg (by
      rw [List.findIdx_lt_length]
      rintro ⟨x, hx, h2⟩
      have : xs.any (· == t) = true := List.any_eq_true.2 ⟨x, hx, h2⟩
      rw [h] at this; cases this)]
    simp
def IJ (w : World) (t : Int) (xs : List Int) (v : Value) (wr : World) : Prop := ∃ j : Nat, j ≤ xs.length ∧ v = .int .i64 (j : Int) ∧ wr = w ∧ (∀ i (hi : i < xs.length), i < j → (xs[i] == t) = false)
set_option maxHeartbeats 4000000 in
set_option maxRecDepth 100000 in
theorem Index_calls (base : Nat) (v : Value) (xs : List Int) (t : Int) (w : World) (h : RowI w base v xs) (hl : xs.length ≤ 65536) :
    Calls Try.prog 46 #[v, .int .i64 t] w fun e w' => e = .returned (.int .i64 (idxI t xs)) ∧ w = w' := by
  obtain ⟨A, c, rfl, hlc, hA⟩ := h.slice
  go_enter Try.func46, Try.ntmps46
  go_wp2_with fail
  go_loopw [8] (fun iv wr => IJ w t xs iv wr) (fun iv _ => xs.length - (intOf iv).toNat)
  case atStart => exact ⟨0, Nat.zero_le _, rfl, rfl, fun i _ hi => by omega⟩
  case round =>
    obtain ⟨j, hj, rfl, rfl, hn⟩ := hrel
    by_cases hjl : j < xs.length
    · obtain ⟨g, rfl, _⟩ := hA (by omega)
      have y0 := RowI.at h j xs[j] (List.getElem?_eq_getElem hjl)
      cases hq : xs[j] == t with
      | true =>
        have hfin : idxI t xs = (j : Int) := by
          have e : xs.findIdx (· == t) = j := (List.findIdx_eq hjl).2 ⟨hq, fun k hk => by have := hn k (by omega) hk; simpa using this⟩
          unfold idxI
          rw [e, if_pos hjl]
        have hq' : (t == xs[j]) = true := by rw [beq_iff_eq] at hq ⊢; exact hq.symm
        generalize xs[j] = x at y0 hq'
        clear h hn hq
        go_wp2
        go_ret
        exact ⟨by rw [hfin]; rfl, rfl⟩
      | false =>
        have hq' : (t == xs[j]) = false := by rw [beq_eq_false_iff_ne] at hq ⊢; exact fun e => hq e.symm
        have fin : IJ wr t xs (.int .i64 ((j : Int) + 1)) wr := by
          refine ⟨j + 1, by omega, by simp, rfl, fun i hi hij => ?_⟩
          rcases Nat.lt_or_ge i j with h1 | h1
          · exact hn i hi h1
          · obtain rfl : i = j := by omega
            exact hq
        generalize xs[j] = x at y0 hq'
        clear h hn hq
        go_wp2
        refine ⟨fin, ?_⟩
        simp [intOf]
        omega
    · obtain rfl : j = xs.length := by omega
      have hfin : idxI t xs = -1 := by
        unfold idxI
        rw [if_neg]
        rw [List.findIdx_lt_length]
        rintro ⟨x, hx, h2⟩
        obtain ⟨i, hi, rfl⟩ := List.getElem_of_mem hx
        have := hn i hi hi
        rw [h2] at this; cases this
      clear h hn
      go_wp2
      go_ret
      exact ⟨by rw [hfin]; rfl, rfl⟩
set_option maxRecDepth 100000 in
theorem Contains_calls (base : Nat) (v : Value) (xs : List Int) (t : Int) (w : World) (h : RowI w base v xs) (hl : xs.length ≤ 65536) :
    Calls Try.prog 21 #[v, .int .i64 t] w fun e w' => e = .returned (.bool (xs.any (· == t))) ∧ w = w' := by
  have I := Index_calls base v xs t w h hl
  have hd := idxI_any t xs
  generalize idxI t xs = d at I hd
  clear h
  go_enter Try.func21, Try.ntmps21
  go_wp2_with fail
  refine I.mono ?_
  rintro e w' ⟨rfl, rfl⟩
  go_wp2
  go_ret
  exact ⟨by rw [← hd]; first | rfl | (congr 2; exact decide_eq_decide.2 (by omega)), rfl⟩
end Go.Proofs.Yteikmnokmcnmcaa
namespace Go.Proofs.Yteikmnokmcnmcaa
open Go.ChangeShapes Go.WideShapes Go.ChangeAt Go.RowKit Go.Sort Go.Maps Go.Proofs.YteikmnokmcnmcaaW.PrintWords Go.Proofs.YteikmnokmcnmcaaW.PrintLast Go.Proofs.YteikmnokmcnmcaaW.PrintMore
set_option linter.unusedVariables false
set_option linter.unusedSimpArgs false
set_option linter.unusedSectionVars false
/-! ### without, inner -/
theorem info41 : (Try.prog.info? 41).map (fun i => (i.zero, i.size, i.bytes)) = some (some (.agg #[.int .i64 0, .int .i64 0, .string ByteArray.empty, .int .i64 0, .string ByteArray.empty, .string ByteArray.empty, .string ByteArray.empty]), 7, 88) := by kernel_rfl
theorem info9 : (Try.prog.info? 9).map (fun i => (i.zero, i.size, i.bytes)) = some (some (.string ByteArray.empty), 1, 16) := by kernel_rfl
abbrev RowO (w : World) (base : Nat) (v : Value) (xs : List Sop) : Prop := Lo encO 7 41 w base v xs
theorem RowO.at {w : World} {base g n c : Nat} {xs : List Sop} (h : RowO w base (.slice (some ⟨g, 0, none⟩) n c) xs) (j : Nat) (o : Sop) (hj : xs[j]? = some o) :
    w.cell? ⟨g, j * 7, none⟩ = some (.int .i64 o.kind) ∧ w.cell? ⟨g, j * 7 + 1, none⟩ = some (.int .i64 o.txn) ∧ w.cell? ⟨g, j * 7 + 2, none⟩ = some (.string o.x.t) ∧ w.cell? ⟨g, j * 7 + 3, none⟩ = some (.int .i64 o.x.k) ∧ w.cell? ⟨g, j * 7 + 4, none⟩ = some (.string o.x.f) ∧ w.cell? ⟨g, j * 7 + 5, none⟩ = some (.string o.x.u) ∧ w.cell? ⟨g, j * 7 + 6, none⟩ = some (.string o.key) := by
  have H := h.cell (fun _ => rfl) rfl j o hj
  exact ⟨by simpa using H 0 _ rfl, H 1 _ rfl, H 2 _ rfl, H 3 _ rfl, H 4 _ rfl, H 5 _ rfl, H 6 _ rfl⟩
theorem appO {W : World} {base : Nat} {v : Value} {xs : List Sop} (h : dOp.R 41 W base (fun _ => True) v xs) (o : Sop) (hl : (xs.length + 1) * 88 ≤ 140737488355328) (hb : base ≤ W.heap.size) :
    ∃ v' w', (Builtin.append_ #[34, 34] 34 #[v, .slice (some ⟨W.heap.size, 0, none⟩) 1 1]).run Try.prog (W.alloc (.cells #[.int .i64 o.kind, .int .i64 o.txn, .string o.x.t, .int .i64 o.x.k, .string o.x.f, .string o.x.u, .string o.key] 41)) = .ok v' w' ∧ dOp.R 41 w' base (fun _ => True) v' (xs ++ [o]) ∧ W.grownBy w' v.ownBlock :=
  flat_app h 34 34 _ 88 Try.underlying34 info41 rfl (by decide) (by decide) o hl hb
def WJ (w : World) (base : Nat) (u : Value) (xs : List Sop) (t : Int) (vi v5 : Value) (wr : World) : Prop :=
  ∃ k : Nat, k ≤ xs.length ∧ vi = .int .i64 (k : Int) ∧ RowO wr base u xs ∧ dOp.R 41 wr w.heap.size (fun _ => True) v5 ((xs.take k).filter (fun o => o.txn != t)) ∧ Below w.heap.size w wr
set_option maxHeartbeats 8000000 in
set_option maxRecDepth 100000 in
theorem without_calls (base : Nat) (u : Value) (xs : List Sop) (t : Int) (w : World) (h : RowO w base u xs) (hl : xs.length * 88 ≤ 140737488355328) :
    Calls Try.prog 19 #[u, .int .i64 t] w fun e w' => ∃ v, e = .returned v ∧ dOp.R 41 w' w.heap.size (fun _ => True) v (xs.filter (fun o => o.txn != t)) ∧ Below w.heap.size w w' := by
  obtain ⟨A, c, rfl, hlc, hA⟩ := h.slice
  have hAl := fun b hb => (h.typed b hb).2.1
  go_enter Try.func19, Try.ntmps19
  go_wp2_with fail
  go_loopw [5, 10] (fun v5 vi wr => WJ w base (.slice A xs.length c) xs t vi v5 wr) (fun _ vi _ => xs.length - (intOf vi).toNat)
  case atStart => exact ⟨0, Nat.zero_le _, rfl, h, Kd.R_nil _ _ _ _ _, Below.refl _ _⟩
  case round =>
    clear h
    obtain ⟨k, hk, rfl, hrow, hv, hB⟩ := hrel
    by_cases hlt : k < xs.length
    · obtain ⟨g, rfl, _⟩ := hA (by omega)
      have htk : xs.take (k + 1) = xs.take k ++ [xs[k]] := List.take_succ_eq_append_getElem hlt
      obtain ⟨q0, q1, q2, q3, q4, q5, q6⟩ := RowO.at hrow k xs[k] (List.getElem?_eq_getElem hlt)
      generalize xs[k] = o at q0 q1 q2 q3 q4 q5 q6 htk
      obtain ⟨W, hW⟩ : ∃ W, W = wr.alloc (.cells #[.int .i64 o.kind, .int .i64 o.txn, .string o.x.t, .int .i64 o.x.k, .string o.x.f, .string o.x.u, .string o.key] 41) := ⟨_, rfl⟩
      have B4 : Below wr.heap.size wr W := by rw [hW]; exact (Below.refl _ wr).alloc (Nat.le_refl _) _
      have ob4 : W.heap[wr.heap.size]? = some (boxO o) := by rw [hW]; exact heap_alloc_new wr _
      obtain ⟨r0, r1, r2, r3, r4, r5, r6⟩ := op_cells ob4
      have B14 := below_then hB hB.size B4
      have hrowW : RowO W base (.slice (some ⟨g, 0, none⟩) xs.length c) xs := hrow.grown (grown_of_below B4 none) (by simp)
      have hvW : dOp.R 41 W w.heap.size (fun _ => True) u5 ((xs.take k).filter (fun o => o.txn != t)) := Kd.R_below hv B4
      cases hne : (o.txn != t) with
      | true =>
        obtain ⟨v', w', hrun, hv', hg'⟩ := appO hvW o (by
          have := List.length_filter_le (fun o => o.txn != t) (xs.take k)
          have h8 : (xs.take k).length = k := by rw [List.length_take]; omega
          omega) B14.size
        have hbase := Kd.R_base hvW
        have fin : WJ w base (.slice (some ⟨g, 0, none⟩) xs.length c) xs t (.int .i64 ((k : Int) + 1)) v' w' := by
          refine ⟨k + 1, by omega, by simp, hrowW.grown hg' (fun b hb e => ?_), ?_, B14.grown hg' B14.size hbase⟩
          · have h1 := hbase b hb
            have h2 := hAl b e
            omega
          · rw [htk, List.filter_append]
            simpa [hne] using hv'
        replace fin := Aside0.mk fin
        go_upto_region 5 with (fail)
        rw [← hW]
        clear hW
        go_wp2_with (at_builtin; refine app_list rfl rfl rfl rfl hrun ?_)
        refine ⟨fin.out, ?_⟩
        simp [intOf]
        omega
      | false =>
        have fin : WJ w base (.slice (some ⟨g, 0, none⟩) xs.length c) xs t (.int .i64 ((k : Int) + 1)) u5 W := by
          refine ⟨k + 1, by omega, by simp, hrowW, ?_, B14⟩
          rw [htk, List.filter_append]
          simpa [hne] using hvW
        replace fin := Aside0.mk fin
        go_upto_region 5 with (fail)
        rw [← hW]
        clear hW
        go_wp2
        refine ⟨fin.out, ?_⟩
        simp [intOf]
        omega
    · obtain rfl : k = xs.length := by omega
      rw [List.take_length] at hv
      go_wp2
      go_ret
      exact ⟨_, rfl, hv, hB⟩
/-- the keys of a note that are asked -/
def innerP (x : Rd) (key : ByteArray) : List ByteArray :=
  if x.k = 1 then [x.f]
  else if x.k = 2 then (if !Op.bytesLess key.toList x.f.toList && (x.u.toList.isEmpty || Op.bytesLess key.toList x.u.toList) then [x.f, key] else [x.f])
  else [key, ⟨#[]⟩]
def encS (s : ByteArray) : List Value := [.string s]
theorem encS_one (x : ByteArray) : ∀ u ∈ encS x, u.oneCell' = true := fun u hu => by simp [encS] at hu; rw [hu]; rfl
def dS : Kd ByteArray := Kd.flat encS 1 (fun _ => rfl) encS_one
abbrev RowS (w : World) (base : Nat) (v : Value) (xs : List ByteArray) : Prop := Lo encS 1 9 w base v xs
theorem rowS_new {w : World} {base : Nat} (xs : List ByteArray) (cs : Array Value) (hcs : cs.toList = xs.map Value.string) (hl : xs.length ≤ 65536) (hb : base ≤ w.heap.size) : dS.R 9 (w.alloc (.cells cs 9)) base (fun _ => True) (.slice (some ⟨w.heap.size, 0, none⟩) xs.length xs.length) xs := by
  refine ⟨fun _ _ => trivial, cs.toList, ⟨by rw [hcs]; simp [dS, Kd.flat], .inr ⟨w.heap.size, xs.length, cs, rfl, hb, heap_alloc_new w _, Nat.le_refl _, by simp only [maxLen]; omega, ?_, ?_⟩⟩, ?_⟩
  · have : cs.size = cs.toList.length := by simp
    rw [this, hcs]
    simp [dS, Kd.flat]
  · rw [List.take_of_length_le]
    rw [hcs]
    simp [dS, Kd.flat]
  · rw [hcs]
    refine ⟨by simp [dS, Kd.flat], fun j x hj => ?_⟩
    obtain ⟨hj', rfl⟩ := List.getElem?_eq_some_iff.1 hj
    show (List.drop (j * 1) (xs.map Value.string)).take 1 = [Value.string xs[j]]
    rw [Nat.mul_one, List.drop_eq_getElem_cons (by simpa using hj')]
    simp
set_option maxHeartbeats 4000000 in
set_option maxRecDepth 100000 in
theorem inner_calls (x : Rd) (key : ByteArray) (w : World) : Calls Try.prog 20 #[mkR x, .string key] w fun e w' => ∃ v, e = .returned v ∧ dS.R 9 w' w.heap.size (fun _ => True) v (innerP x key) ∧ Below w.heap.size w w' := by
  obtain ⟨w1, hw1⟩ : ∃ w1, w1 = w.alloc (.cells #[.string x.t, .int .i64 x.k, .string x.f, .string x.u] 23) := ⟨_, rfl⟩
  have B1 : Below w.heap.size w w1 := by rw [hw1]; exact boxed w x
  have ob : w1.heap[w.heap.size]? = some (boxR x) := by rw [hw1]; exact heap_alloc_new w _
  obtain ⟨b0, b1, b2, b3⟩ := rd_cells ob
  have one1 := fun s : ByteArray => rowS_new (w := w1) (base := w.heap.size) [s] #[.string s] rfl (by simp) B1.size
  have BB := fun o => B1.alloc B1.size o
  unfold innerP
  by_cases k1 : x.k = 1
  · rw [if_pos k1]
    rw [k1] at b1
    replace k1 := Aside0.mk k1
    have R1 := one1 x.f
    go_enter Try.func20, Try.ntmps20
    go_upto_region 1 with (fail)
    rw [← hw1]
    clear hw1
    go_wp2
    go_ret
    exact ⟨_, rfl, R1, BB _⟩
  by_cases k2 : x.k = 2
  · rw [if_neg k1, if_pos k2]
    rw [k2] at b1
    have R1 := one1 x.f
    have RA := flat_app R1 49 49 _ 16 Try.underlying49 info9 rfl (by decide) (by decide) key (by simp) (Nat.le_trans B1.size (by simp))
    obtain ⟨v', w', hrun, hv', hg'⟩ := RA
    obtain ⟨W2, hW2⟩ : ∃ W2, W2 = w1.alloc (.cells #[.string x.f] 9) := ⟨_, rfl⟩
    have B2 : Below w.heap.size w W2 := by rw [hW2]; exact BB _
    have ob2 : W2.heap[w.heap.size]? = some (boxR x) := by rw [hW2]; exact (Below.heap_alloc _ _ _ (Array.getElem?_eq_some_iff.1 ob).1).trans ob
    obtain ⟨_, _, d2, d3⟩ := rd_cells ob2
    rw [← hW2] at R1 hrun hg'
    have hrun' : (Builtin.append_ #[49, 49] 49 #[.slice (some ⟨w1.heap.size, 0, none⟩) 1 1, .slice (some ⟨W2.heap.size, 0, none⟩) 1 1]).run Try.prog (W2.alloc (.cells #[.string key] 9)) = .ok v' w' := hrun
    have B3 : Below w.heap.size w w' := B2.grown hg' B2.size (Kd.R_base R1)
    have hv2 : dS.R 9 w' w.heap.size (fun _ => True) v' [x.f, key] := hv'
    have hle := leq_less x.f.toList key.toList
    have k2' : x.k = 2 := k2
    replace k2 := Aside0.mk k2
    clear k2' hrun hv' one1 BB ob
    replace k1 := Aside0.mk k1
    replace R1 := Aside0.mk R1
    replace hv2 := Aside0.mk hv2
    go_enter Try.func20, Try.ntmps20
    go_upto_region 1 with (fail)
    rw [← hw1]
    clear hw1
    go_upto_region 6 with (fail)
    rw [← hW2]
    clear hW2
    go_wp2_with (at_builtin; refine app_list rfl rfl rfl rfl hrun' ?_)
    all_goals
      go_ret
      first
        | exact ⟨_, rfl, R1.out, B2⟩
        | exact ⟨_, rfl, hv2.out, B3⟩
        | exact ⟨_, rfl, by rw [if_pos (by simp_all)]; exact hv2.out, B3⟩
        | exact ⟨_, rfl, by rw [if_neg (by simp_all)]; exact R1.out, B2⟩
        | (exfalso; clear hle; simp_all)
  · rw [if_neg k1, if_neg k2]
    have e1 : (x.k == 1) = false := by simpa using k1
    have e2 : (x.k == 2) = false := by simpa using k2
    replace k1 := Aside0.mk k1
    replace k2 := Aside0.mk k2
    have R2 := rowS_new (w := w1) (base := w.heap.size) [key, ⟨#[]⟩] #[.string key, .string ⟨#[]⟩] rfl (by simp) B1.size
    go_enter Try.func20, Try.ntmps20
    go_upto_region 1 with (fail)
    rw [← hw1]
    clear hw1
    go_wp2
    go_ret
    exact ⟨_, rfl, R2, BB _⟩
end Go.Proofs.Yteikmnokmcnmcaa
namespace Go.Proofs.Yteikmnokmcnmcaa
open Go.RowKit Go.Maps Go.Sort Go.Lib Go.Proofs.YteikmnokmcnmcaaW.PrintWords Go.Proofs.YteikmnokmcnmcaaW.PrintLast Go.Proofs.YteikmnokmcnmcaaW.PrintMore
set_option linter.unusedVariables false
set_option linter.unusedSimpArgs false
set_option linter.unusedSectionVars false
/-! ### Drop -/
section
variable {P : Program} {α β : Type} [DecidableEq α] {k : TypeId} {mk : α → Value} {ok : α → Prop} {R : Value → Option (DataW Unit × List MemPlace)} {cd : β → DataW Unit}
theorem Rng.drop {t e : TypeId} (K : KeyAs P k mk ok) (ht : P.underlying t = some (.map k e)) {w : World} {b r n : Nat} {L rem : List (α × β)} (h : Rng P k mk ok R cd w b r n L rem) {a : α} (ha : ok a) (ty : TypeId) :
    ∃ w', (Builtin.delete_ #[t, k] ty #[.map (some b), mk a]).run P w = .ok (.tuple #[]) w' ∧ Rng P k mk ok R cd w' b r n (L.filter (fun p => p.1 ≠ a)) (rem.filter (fun p => p.1 ≠ a)) ∧ w'.rangeLeft b r ≤ w.rangeLeft b r ∧ w.mapTurned w' b := by
  obtain ⟨D, left, h1, h2, h3, h4, h5⟩ := h
  obtain ⟨kl, hk⟩ := K.lit a ha
  obtain ⟨w', cnt', hrun, h6, hle, hturn⟩ := h1.drop K.keyed ht hk ty
  have e2 := h6.left_eq
  refine ⟨w', hrun, ⟨D.del kl, _, by rw [e2]; exact h6, h2.del K (h1.owns.tidy K.keyed) hk, h3.filter _, fun p hp => ?_, fun a' kl' hk' => ?_⟩, by rw [e2]; exact hle, hturn⟩
  · obtain ⟨hp1, hp2⟩ := List.mem_filter.1 hp
    exact List.mem_filter.2 ⟨h4 p hp1, hp2⟩
  · by_cases e3 : a' = a
    · subst e3
      have : kl' = kl := (same_key K hk' hk).2 rfl
      subst this
      rw [WideAt.sameKey_self (K.keyed.key hk)]
      simp
    · have hne : kl' ≠ kl := fun e' => e3 ((same_key K hk' hk).1 e')
      rw [sameKey_ne hne]
      simp only [Bool.not_false, Bool.and_true]
      rw [h5 a' kl' hk']
      simp [e3]
end
set_option maxHeartbeats 1000000 in
set_option maxRecDepth 100000 in
theorem closure45_no (q : Pl) (u : Value) (bt bp : Nat) (t : Int) (w : World) (h1 : w.heap[bt]? = some (.cells #[.int .i64 t] 2 (0, 0))) (hne : q.1 ≠ t) :
    Calls Try.prog 45 #[.agg #[.int .i64 q.1, .string q.2], u, .pointer (some ⟨bt, 0, none⟩), .pointer (some ⟨bp, 0, none⟩)] w fun e w' => e = .returned (.bool false) ∧ Below w.heap.size w w' := by
  obtain ⟨w1, hw1⟩ : ∃ w1, w1 = w.alloc (.cells #[.int .i64 q.1, .string q.2] 62) := ⟨_, rfl⟩
  have B1 : Below w.heap.size w w1 := by rw [hw1]; exact (Below.refl _ w).alloc (Nat.le_refl _) _
  have o1 : w1.heap[w.heap.size]? = some (boxP q) := by rw [hw1]; exact heap_alloc_new w _
  have c0 := cell_of_row w1 _ 0 _ 62 (0, 0) o1
  have d0 := cell_of_row w1 bt 0 _ 2 (0, 0) (blk_below h1 B1)
  have hne' : (q.1 != t) = true := by simpa using hne
  clear o1 hne
  go_enter Try.func45, Try.ntmps45
  go_upto_region 1 with (fail)
  rw [← hw1]
  clear hw1
  go_wp2
  go_ret
  exact ⟨rfl, B1⟩
set_option maxHeartbeats 1000000 in
set_option maxRecDepth 100000 in
theorem closure45_yes (q : Pl) (A : Option Addr) (n c : Nat) (bt bp p b : Nat) (t most many : Int) (w : World) (h1 : w.heap[bt]? = some (.cells #[.int .i64 t] 2 (0, 0))) (h2 : w.heap[bp]? = some (.cells #[.pointer (some ⟨p, 0, none⟩)] 26 (0, 0)))
    (h3 : w.heap[p]? = some (.cells #[.int .i64 most, .map (some b), .int .i64 many] 55 (0, 0))) (he : q.1 = t) (hn : n ≤ 65536) (hm : 0 ≤ many) (hm2 : many ≤ 65536) :
    Calls Try.prog 45 #[.agg #[.int .i64 q.1, .string q.2], .slice A n c, .pointer (some ⟨bt, 0, none⟩), .pointer (some ⟨bp, 0, none⟩)] w fun e w' => e = .returned (.bool true) ∧ w.grownBy w' (some p) ∧ w'.heap[p]? = some (.cells #[.int .i64 most, .map (some b), .int .i64 (many - n)] 55 (0, 0)) := by
  obtain ⟨w1, hw1⟩ : ∃ w1, w1 = w.alloc (.cells #[.int .i64 q.1, .string q.2] 62) := ⟨_, rfl⟩
  have B1 : Below w.heap.size w w1 := by rw [hw1]; exact (Below.refl _ w).alloc (Nat.le_refl _) _
  have o1 : w1.heap[w.heap.size]? = some (boxP q) := by rw [hw1]; exact heap_alloc_new w _
  have c0 := cell_of_row w1 _ 0 _ 62 (0, 0) o1
  have d0 := cell_of_row w1 bt 0 _ 2 (0, 0) (blk_below h1 B1)
  have f0 := cell_of_row w1 bp 0 _ 26 (0, 0) (blk_below h2 B1)
  have op := blk_below h3 B1
  have m2 := cell_of_row w1 p 2 _ 55 (0, 0) op
  have fz := blk_fz op 2
  have hne' : (q.1 != t) = false := by simpa using he
  have fin := blk_set op 2 (.int .i64 (many - n))
  have G := grown_set w1 p 2 (.int .i64 (many - n))
  clear o1 he op
  replace fin := Aside0.mk fin
  replace G := Aside0.mk G
  go_enter Try.func45, Try.ntmps45
  go_upto_region 1 with (fail)
  rw [← hw1]
  clear hw1
  go_wp2
  go_ret
  exact ⟨rfl, trans_grown (grown_of_below B1 _) G.out, fin.out⟩
theorem sumR_del (R : Pl → List Rd) (a : Pl) (sv : Sv) : ∀ L : List (Pl × Sv), L.Pairwise (fun p p' => p.1 ≠ p'.1) → (a, sv) ∈ L → sumR (L.filter (fun p => p.1 ≠ a)) R + (R a).length = sumR L R
  | [], _, h => by cases h
  | e :: L, hp, h => by
    rw [List.pairwise_cons] at hp
    by_cases he : e.1 = a
    · have hf : L.filter (fun p => p.1 ≠ a) = L := List.filter_eq_self.2 (fun p hp' => by simpa using fun e2 => hp.1 p hp' (he.trans e2.symm))
      rw [List.filter_cons, if_neg (by simp [he]), hf]
      simp [sumR, he]
      omega
    · have hm : (a, sv) ∈ L := by
        rcases List.mem_cons.1 h with h | h
        · exact absurd (by rw [← h]) he
        · exact h
      have ih := sumR_del R a sv L hp.2 hm
      rw [List.filter_cons, if_pos (by simp [he])]
      simp only [sumR, List.map_cons, List.sum_cons] at ih ⊢
      omega
/-- what a step leaves that changes block p and whatever is no cells -/
structure But (base p : Nat) (w w' : World) : Prop where
  below : Below base w w'
  size : w.heap.size ≤ w'.heap.size
  cells : ∀ k c e s, k ≠ p → w.heap[k]? = some (.cells c e s) → w'.heap[k]? = some (.cells c e s)
theorem But.refl (base p : Nat) (w : World) : But base p w w := ⟨Below.refl _ _, Nat.le_refl _, fun _ _ _ _ _ h => h⟩
theorem But.grown {base p : Nat} {w w1 w2 : World} (h : But base p w w1) (hb : base ≤ w1.heap.size) (g : w1.grownBy w2 none) : But base p w w2 := ⟨h.below.grown g hb (by simp), Nat.le_trans h.size g.size, fun k c e s hk hw => (g.block k (Array.getElem?_eq_some_iff.1 (h.cells k c e s hk hw)).1 (by simp)).trans (h.cells k c e s hk hw)⟩
theorem But.atP {base p : Nat} {w w1 w2 : World} (h : But base p w w1) (hb : base ≤ w1.heap.size) (hp : base ≤ p) (g : w1.grownBy w2 (some p)) : But base p w w2 := ⟨h.below.grown g hb (fun k e => by injection e with e; omega), Nat.le_trans h.size g.size, fun k c e s hk hw => (g.block k (Array.getElem?_eq_some_iff.1 (h.cells k c e s hk hw)).1 (by simpa using hk)).trans (h.cells k c e s hk hw)⟩
theorem But.atMap {base p b : Nat} {w w1 w2 : World} (h : But base p w w1) (hb : base ≤ w1.heap.size) (hp : base ≤ b) (g : w1.mapTurned w2 b) : But base p w w2 := by
  have g' := turned_grown g
  obtain ⟨es, clock, _, _, hm, _⟩ := g
  exact ⟨h.below.grown g' hb (fun k e => by injection e with e; omega), Nat.le_trans h.size g'.size, fun k c e s hk hw => by
    have h1 := h.cells k c e s hk hw
    refine (g'.block k (Array.getElem?_eq_some_iff.1 h1).1 (fun e2 => ?_)).trans h1
    injection e2 with e2
    subst e2
    rw [hm] at h1
    cases h1⟩
end Go.Proofs.Yteikmnokmcnmcaa
namespace Go.Proofs.Yteikmnokmcnmcaa
open Go.RowKit Go.Maps Go.Sort Go.Lib Go.Proofs.YteikmnokmcnmcaaW.PrintWords Go.Proofs.YteikmnokmcnmcaaW.PrintLast Go.Proofs.YteikmnokmcnmcaaW.PrintMore
set_option linter.unusedVariables false
set_option linter.unusedSimpArgs false
set_option linter.unusedSectionVars false
/-! ### maps.DeleteFunc, Drop -/
def DJ (base p b r : Nat) (most t : Int) (L : List (Pl × Sv)) (R : Pl → List Rd) (w wr : World) : Prop :=
  ∃ (vis rem : List (Pl × Sv)) (D : List Pl), (vis ++ rem).Perm L ∧ RngN wr b r L.length (L.filter (fun e => !inK D e.1)) rem ∧ (∀ a ∈ D, a.1 = t) ∧ (∀ e ∈ vis, e.1.1 = t → e.1 ∈ D) ∧ (∀ a ∈ D, a ∈ vis.map (·.1)) ∧ But base p w wr ∧
    wr.heap[p]? = some (.cells #[.int .i64 most, .map (some b), .int .i64 (sumR (L.filter (fun e => !inK D e.1)) R : Nat)] 55 (0, 0))
theorem sumR_filter (R : Pl → List Rd) (c : Pl × Sv → Bool) : ∀ L : List (Pl × Sv), sumR (L.filter c) R ≤ sumR L R
  | [] => Nat.le_refl _
  | e :: L => by
    have ih := sumR_filter R c L
    rw [List.filter_cons]
    split
    · simp only [sumR, List.map_cons, List.sum_cons] at ih ⊢; omega
    · simp only [sumR, List.map_cons, List.sum_cons] at ih ⊢; omega
theorem enters45 : ∀ args w, (callFunc 45 args).run Try.prog w = .ok (.enter 45 args) w := enters_of Try.func45 (by kernel_rfl) rfl
set_option maxHeartbeats 8000000 in
set_option maxRecDepth 100000 in
theorem DeleteFunc44 (base p b bt bp : Nat) (most t : Int) (L : List (Pl × Sv)) (R : Pl → List Rd) (w : World) (h1 : w.heap[bt]? = some (.cells #[.int .i64 t] 2 (0, 0))) (h2 : w.heap[bp]? = some (.cells #[.pointer (some ⟨p, 0, none⟩)] 26 (0, 0)))
    (h3 : w.heap[p]? = some (.cells #[.int .i64 most, .map (some b), .int .i64 (sumR L R : Nat)] 55 (0, 0))) (T : TabN w b L.length L) (hrows : ∀ e ∈ L, RowR w base (mvS e.2) (R e.1)) (hsum : sumR L R ≤ 65536) (hp : base ≤ p) (hb : base ≤ b) :
    Calls Try.prog 44 #[.map (some b), .func (.func 45) #[] #[.pointer (some ⟨bt, 0, none⟩), .pointer (some ⟨bp, 0, none⟩)]] w fun e w' => e = .returned (.tuple #[]) ∧ But base p w w' ∧ TabN w' b (L.filter (fun e => e.1.1 != t)).length (L.filter (fun e => e.1.1 != t)) ∧
      w'.heap[p]? = some (.cells #[.int .i64 most, .map (some b), .int .i64 (sumR (L.filter (fun e => e.1.1 != t)) R : Nat)] 55 (0, 0)) := by
  have tidy := T.tidy
  have hpw : p < w.heap.size := (Array.getElem?_eq_some_iff.1 h3).1
  have hbw : base ≤ w.heap.size := by omega
  have hbp : b ≠ p := by
    rintro rfl
    obtain ⟨es, clock, hm⟩ := T.isMap
    rw [hm] at h3
    cases h3
  have hbtp : bt ≠ p := by rintro rfl; rw [h1] at h3; injection h3 with h3; injection h3 with _ h3; cases h3
  have hbpp : bp ≠ p := by rintro rfl; rw [h2] at h3; injection h3 with h3; injection h3 with _ h3; cases h3
  obtain ⟨w2, hrun, hRg, hg2, hs2⟩ := Tab.range (t := 53) keyP Try.underlying53 T
  have J0 : DJ base p b w.heap.size most t L R w w2 := by
    have e0 : L.filter (fun e => !inK [] e.1) = L := List.filter_eq_self.2 (fun e _ => by simp [inK])
    refine ⟨[], L, [], List.Perm.refl _, by rw [e0]; exact hRg, by simp, by simp, by simp, (But.refl _ _ _).grown hbw hg2, ?_⟩
    rw [e0]
    exact (hg2.block p hpw (by simp)).trans h3
  clear hRg T
  go_enter Try.func44, Try.ntmps44
  go_wp2_with fail
  go_loopw [4] (fun _ wr => DJ base p b w.heap.size most t L R w wr) (fun _ wr => wr.rangeLeft b w.heap.size)
  case atStart => exact J0
  case round =>
    clear J0 hs2 hg2 hrun
    obtain ⟨vis, rem, D, hpm, hr, hD1, hD2, hD3, hbut, hcp⟩ := hrel
    rcases hr.next keyP valS 0 with ⟨hnil, hrun1⟩ | ⟨a, sv, w3, hmem, hok, hrun1, hr3, hlt, hg3, hs3, hent⟩
    · subst hnil
      rw [List.append_nil] at hpm
      have ef : L.filter (fun e => !inK D e.1) = L.filter (fun e => e.1.1 != t) := by
        refine List.filter_congr fun e he => ?_
        have hv : e ∈ vis := hpm.mem_iff.2 he
        by_cases ht : e.1.1 = t
        · have h4 := inK_iff.2 (hD2 e hv ht)
          simp [ht, h4]
        · have h4 : inK D e.1 = false := by
            cases h5 : inK D e.1 with
            | false => rfl
            | true => exact absurd (hD1 _ (inK_iff.1 h5)) ht
          simp [ht, h4]
      rw [ef] at hr hcp
      have hT := hr.tab.exact
      clear hr
      go_wp2
      go_end0
      exact ⟨rfl, hbut, hT, hcp⟩
    · unfold mkP at hrun1 hent
      have hwr := hr.lt
      obtain ⟨W, hW⟩ : ∃ W, W = w3.alloc (.cells #[.int .i64 a.1, .string a.2] 62) := ⟨_, rfl⟩
      have GA : w3.grownBy W none := by rw [hW]; exact World.grownBy_alloc _ _ _
      have hop : W.heap[wr.heap.size]? = some (.cells #[.int .i64 a.1, .string a.2] 62 (0, 0)) := by rw [hW, ← hs3]; exact heap_alloc_new w3 _
      have p0 := cell_of_row W _ 0 _ 62 (0, 0) hop
      have p1 := cell_of_row W _ 1 _ 62 (0, 0) hop
      have hmL : (a, sv) ∈ L := hpm.mem_iff.1 (List.mem_append_right _ hmem)
      obtain ⟨A, c, hmv, hlc, _⟩ := (hrows _ hmL).slice
      rw [hmv] at hrun1 hent
      have hRa : (R a).length ≤ sumR L R := by
        obtain ⟨l1, l2, e⟩ := List.append_of_mem hmL
        rw [e, sumR_append]
        simp [sumR]
        omega
      have hsD := sumR_filter R (fun e => !inK D e.1) L
      have hrb : w.heap.size ≠ p := by omega
      have but3 : But base p w w3 := ⟨hbut.below.grown hg3 (Nat.le_trans hbw hbut.size) (fun k e => by injection e with e; omega), Nat.le_trans hbut.size hg3.size, fun k c e s hk hw => by
        have h4 := hbut.cells k c e s hk hw
        refine (hg3.block k (Array.getElem?_eq_some_iff.1 h4).1 (fun e2 => ?_)).trans h4
        injection e2 with e2
        have := (Array.getElem?_eq_some_iff.1 hw).1
        omega⟩
      have butW := but3.grown (Nat.le_trans hbw but3.size) GA
      have hc3 : w3.heap[p]? = _ := (hg3.block p (Array.getElem?_eq_some_iff.1 hcp).1 (by simp; omega)).trans hcp
      have hcW : W.heap[p]? = _ := (GA.block p (Array.getElem?_eq_some_iff.1 hc3).1 (by simp)).trans hc3
      obtain ⟨hrW, elW⟩ := hr3.kept GA (by simp) (by simp)
      have t1 := butW.cells bt _ _ _ hbtp h1
      have t2 := butW.cells bp _ _ _ hbpp h2
      have hnd : ∀ e ∈ vis, e.1 ≠ a := by
        intro e he e2
        have hpw := hpm.symm.pairwise_iff (R := fun x y : Pl × Sv => x.1 ≠ y.1) (fun {x y} h => fun e3 => h e3.symm) |>.1 tidy
        exact (List.pairwise_append.1 hpw).2.2 e he (a, sv) hmem e2
      have haD : a ∉ D := fun h => by
        obtain ⟨e, he, e2⟩ := List.mem_map.1 (hD3 a h)
        exact hnd e he e2
      by_cases hyes : a.1 = t
      · have C := closure45_yes a A (R a).length c bt bp p b t most (sumR (L.filter (fun e => !inK D e.1)) R : Nat) W t1 t2 hcW hyes (by omega) (by omega) (by omega)
        have hLc : (a, sv) ∈ L.filter (fun e => !inK D e.1) := by
          refine List.mem_filter.2 ⟨hmL, ?_⟩
          cases h5 : inK D a with
          | false => rfl
          | true => exact absurd (inK_iff.1 h5) haD
        have hdel := sumR_del R a sv _ (tidy.filter (fun e => !inK D e.1)) hLc
        have eD : (L.filter (fun e => !inK D e.1)).filter (fun e => e.1 ≠ a) = L.filter (fun e => !inK (a :: D) e.1) := by
          rw [List.filter_filter]
          refine List.filter_congr fun e _ => ?_
          simp only [inK, List.any_cons, Bool.not_or]
          by_cases h6 : e.1 = a
          · simp [h6]
          · have h7 : ¬ a = e.1 := fun h => h6 h.symm
            simp [h6, h7]
        have eR : (rem.filter (fun e => e.1 ≠ a)).filter (fun e => e.1 ≠ a) = rem.filter (fun e => e.1 ≠ a) := by
          rw [List.filter_filter]; refine List.filter_congr fun e _ => ?_; simp
        have step : ∀ W5, W.grownBy W5 (some p) → W5.heap[p]? = some (.cells #[.int .i64 most, .map (some b), .int .i64 ((sumR (L.filter (fun e => !inK D e.1)) R : Nat) - ((R a).length : Nat))] 55 (0, 0)) → ∃ W6, (Builtin.delete_ #[53, 62] 0 #[.map (some b), .agg #[.int .i64 a.1, .string a.2]]).run Try.prog W5 = .ok (.tuple #[]) W6 ∧ DJ base p b w.heap.size most t L R w W6 ∧ W6.rangeLeft b w.heap.size < wr.rangeLeft b w.heap.size := by
          intro W5 G5 hc5
          obtain ⟨hr5, el5⟩ := hrW.kept G5 (fun e => by injection e with e; exact hbp e) (fun e => by injection e with e; exact hrb e)
          obtain ⟨W6, hrun6, hr6, hle6, hturn6⟩ := hr5.drop (t := 53) keyP Try.underlying53 hok 0
          rw [eD, eR] at hr6
          have but5 := butW.atP (Nat.le_trans hbw butW.size) hp G5
          have but6 := but5.atMap (Nat.le_trans hbw but5.size) hb hturn6
          refine ⟨W6, hrun6, ⟨vis ++ [(a, sv)], _, a :: D, perm_next hr.apart hpm hmem, hr6, ?_, ?_, ?_, but6, ?_⟩, by omega⟩
          · intro q hq
            rcases List.mem_cons.1 hq with rfl | hq
            · exact hyes
            · exact hD1 q hq
          · intro e he ht
            rcases List.mem_append.1 he with he | he
            · exact List.mem_cons_of_mem _ (hD2 e he ht)
            · rw [List.mem_singleton.1 he]; exact List.mem_cons_self
          · intro q hq
            rw [List.map_append]
            rcases List.mem_cons.1 hq with rfl | hq
            · exact List.mem_append_right _ (by simp)
            · exact List.mem_append_left _ (hD3 q hq)
          · have hs : ((sumR (L.filter (fun e => !inK D e.1)) R : Nat) : Int) - ((R a).length : Nat) = ((sumR ((L.filter (fun e => !inK D e.1)).filter (fun p => p.1 ≠ a)) R : Nat) : Int) := by omega
            rw [((turned_grown hturn6).block p (Array.getElem?_eq_some_iff.1 hc5).1 (fun e => by injection e with e; exact hbp e.symm)), hc5, ← eD, hs]
        replace step := Aside0.mk step
        replace hrows := Aside0.mk hrows
        replace hyes := Aside0.mk hyes
        go_upto_region 3 with (fail)
        rw [← hW]
        clear hW
        go_wp2_with fail
        refine C.mono ?_
        rintro e W5 ⟨rfl, G5, hc5⟩
        obtain ⟨W6, hrun6, hJ6, hl6⟩ := step.out W5 G5 hc5
        have s0 := (G5.block _ (Array.getElem?_eq_some_iff.1 hop).1 (by simp; omega)).trans hop
        have s1 := cell_of_row W5 _ 0 _ 62 (0, 0) s0
        have s2 := cell_of_row W5 _ 1 _ 62 (0, 0) s0
        clear s0 hop p0 p1
        replace hJ6 := Aside0.mk hJ6
        go_wp2
        exact ⟨hJ6.out, hl6⟩
      · have C := closure45_no a (.slice A (R a).length c) bt bp t W t1 hyes
        have fin : ∀ W5, Below W.heap.size W W5 → DJ base p b w.heap.size most t L R w W5 ∧ W5.rangeLeft b w.heap.size < wr.rangeLeft b w.heap.size := by
          intro W5 B5
          obtain ⟨hr5, el5⟩ := hrW.kept (grown_of_below B5 none) (by simp) (by simp)
          refine ⟨⟨vis ++ [(a, sv)], _, D, perm_next hr.apart hpm hmem, hr5, hD1, ?_, ?_, butW.grown (Nat.le_trans hbw butW.size) (grown_of_below B5 none), blk_below hcW B5⟩, by omega⟩
          · intro e he ht
            rcases List.mem_append.1 he with he | he
            · exact hD2 e he ht
            · rw [List.mem_singleton.1 he] at ht; exact absurd ht hyes
          · intro q hq
            rw [List.map_append]
            exact List.mem_append_left _ (hD3 q hq)
        replace fin := Aside0.mk fin
        replace hrows := Aside0.mk hrows
        go_upto_region 3 with (fail)
        rw [← hW]
        clear hW
        go_wp2_with fail
        refine C.mono ?_
        rintro e W5 ⟨rfl, B5⟩
        go_wp2
        exact fin.out _ B5
end Go.Proofs.Yteikmnokmcnmcaa
namespace Go.Proofs.Yteikmnokmcnmcaa
open Go.RowKit Go.Maps Go.Sort Go.Lib Go.Proofs.YteikmnokmcnmcaaW.PrintWords Go.Proofs.YteikmnokmcnmcaaW.PrintLast Go.Proofs.YteikmnokmcnmcaaW.PrintMore
set_option linter.unusedVariables false
set_option linter.unusedSimpArgs false
set_option linter.unusedSectionVars false
/-! ### Drop -/
def dropR (R : Pl → List Rd) (t : Int) : Pl → List Rd := fun q => if q.1 = t then [] else R q
def dropS (S : St) (t : Int) : St := ⟨S.K.filter (fun q => q.1 != t), dropR S.R t, (((S.K.filter (fun q => q.1 != t)).map fun q => (dropR S.R t q).length).sum : Nat)⟩
def dropP (S : St) (t : Int) : Int × St := if t < 1 then (1, S) else (0, dropS S t)
theorem dropR_other (R : Pl → List Rd) {t : Int} {q : Pl} (h : q.1 ≠ t) : dropR R t q = R q := by unfold dropR; rw [if_neg h]
theorem dropR_same (R : Pl → List Rd) {t : Int} {q : Pl} (h : q.1 = t) : dropR R t q = [] := by unfold dropR; rw [if_pos h]
theorem dropS_inv {S : St} (h : InvK S) (t : Int) : InvK (dropS S t) where
  nodup := h.nodup.filter _
  off q hq := by
    show dropR S.R t q = []
    by_cases ht : q.1 = t
    · exact dropR_same _ ht
    · rw [dropR_other _ ht]
      refine h.off q fun hK => hq (List.mem_filter.2 ⟨hK, by simpa using ht⟩)
  pos q hq := by
    obtain ⟨h1, h2⟩ := List.mem_filter.1 hq
    show dropR S.R t q ≠ []
    rw [dropR_other _ (by simpa using h2)]
    exact h.pos q h1
  sum := rfl
  tab q y hy := by
    replace hy : y ∈ dropR S.R t q := hy
    unfold dropR at hy
    split at hy
    · cases hy
    · exact h.tab q y hy
  lean q := by
    show (dropR S.R t q).Pairwise LeanR
    unfold dropR
    split
    · exact List.Pairwise.nil
    · exact h.lean q
  size q hq := h.size q (List.mem_filter.1 hq).1
  one q hq := h.one q (List.mem_filter.1 hq).1
theorem sum_filter_le (f : Pl → Nat) (c : Pl → Bool) : ∀ K : List Pl, ((K.filter c).map f).sum ≤ (K.map f).sum
  | [] => Nat.le_refl _
  | q :: K => by
    have ih := sum_filter_le f c K
    rw [List.filter_cons]
    split
    · simp only [List.map_cons, List.sum_cons]; omega
    · simp only [List.map_cons, List.sum_cons]; omega
theorem drop_sum (R : Pl → List Rd) (t : Int) (K : List Pl) : ((K.filter (fun q => q.1 != t)).map fun q => (dropR R t q).length) = ((K.filter (fun q => q.1 != t)).map fun q => (R q).length) := by
  refine List.map_congr_left fun q hq => ?_
  rw [dropR_other _ (by simpa using (List.mem_filter.1 hq).2)]
theorem dropS_le {S : St} (h : InvK S) (t : Int) : (dropS S t).n ≤ S.n := by
  rw [h.sum]
  show ((((S.K.filter (fun q => q.1 != t)).map fun q => (dropR S.R t q).length).sum : Nat) : Int) ≤ _
  rw [drop_sum]
  have := sum_filter_le (fun q => (S.R q).length) (fun q => q.1 != t) S.K
  omega
theorem got_filter (t : Int) (q : Pl) (hq : q.1 ≠ t) : ∀ L : List (Pl × Sv), got (L.filter (fun e => e.1.1 != t)) q = got L q
  | [] => rfl
  | e :: L => by
    have ih := got_filter t q hq L
    rw [List.filter_cons]
    by_cases he : (e.1.1 != t) = true
    · rw [if_pos he]
      unfold got at ih ⊢
      rw [List.find?_cons, List.find?_cons]
      split
      · rfl
      · exact ih
    · rw [if_neg he, ih]
      unfold got
      rw [List.find?_cons]
      have hne : ¬ e.1 = q := fun e2 => he (by rw [e2]; simpa using hq)
      simp [hne]
set_option maxHeartbeats 4000000 in
set_option maxRecDepth 100000 in
theorem Drop_S (base p : Nat) (most : Int) (S : St) (t : Int) (w : World) (h : MrS w base p most S) :
    Calls Try.prog 18 #[.pointer (some ⟨p, 0, none⟩), .int .i64 t] w fun e w' => e = .returned (.int .i64 (dropP S t).1) ∧ MrS w' base p most (dropP S t).2 ∧ But base p w w' := by
  obtain ⟨⟨b, L, M, hk, hbb⟩, hI, hn, h3, h4⟩ := h
  have hpw : p < w.heap.size := (Array.getElem?_eq_some_iff.1 M.cells).1
  have hlow := M.low
  obtain ⟨w1, hw1⟩ : ∃ w1, w1 = (w.alloc (.cells #[.pointer (some ⟨p, 0, none⟩)] 26)).alloc (.cells #[.int .i64 t] 2) := ⟨_, rfl⟩
  have B1 : Below w.heap.size w w1 := by rw [hw1]; exact below_alloc ((Below.refl _ w).alloc (Nat.le_refl _) _) _
  have o0 : w1.heap[w.heap.size]? = some (.cells #[.pointer (some ⟨p, 0, none⟩)] 26 (0, 0)) := by rw [hw1]; exact (Below.heap_alloc _ _ _ (by simp)).trans (heap_alloc_new w _)
  have o1 : w1.heap[w.heap.size + 1]? = some (.cells #[.int .i64 t] 2 (0, 0)) := by
    rw [hw1]
    have := heap_alloc_new (w.alloc (.cells #[.pointer (some ⟨p, 0, none⟩)] 26)) (.cells #[.int .i64 t] 2)
    simpa using this
  have c0 := cell_of_row w1 _ 0 _ 26 (0, 0) o0
  have c1 := cell_of_row w1 _ 0 _ 2 (0, 0) o1
  have M1 := M.kept (grown_of_below B1 none)
  have N := none_calls p b w1 M1.cell.2.1
  have hsum : S.n = ((sumR L S.R : Nat) : Int) := by
    rw [hI.sum]
    unfold sumR
    rw [← hk, List.map_map]
    rfl
  have but1 := (But.refl base p w).grown (by omega) (grown_of_below B1 none)
  by_cases ht : t < 1
  · have e : dropP S t = (1, S) := by unfold dropP; rw [if_pos ht]
    rw [e]
    have ht' : t < 1 := ht
    go_enter Try.func18, Try.ntmps18
    go_upto_region 1 with (fail)
    rw [← hw1]
    clear hw1
    go_wp2_with fail
    refine N.mono ?_
    rintro e w' ⟨rfl, rfl⟩
    go_wp2
    go_ret
    exact ⟨rfl, ⟨⟨b, L, M1, hk, hbb⟩, hI, hn, h3, h4⟩, but1⟩
  · have e : dropP S t = (0, dropS S t) := by unfold dropP; rw [if_neg ht]
    rw [e]
    have hcell := M1.cells
    rw [hsum] at hcell
    have D := DeleteFunc44 base p b (w.heap.size + 1) w.heap.size most t L S.R w1 o1 o0 hcell M1.tab M1.rows (by omega) hlow hbb
    obtain ⟨m0, m1, m2⟩ := M1.cell
    go_enter Try.func18, Try.ntmps18
    go_upto_region 1 with (fail)
    rw [← hw1]
    clear hw1
    go_wp2_with fail
    refine N.mono ?_
    rintro e w' ⟨rfl, rfl⟩
    go_wp2_with fail
    refine D.mono ?_
    rintro e w2 ⟨rfl, but2, T2, cells2⟩
    go_wp2
    go_ret
    have hdl := dropS_le hI t
    have but12 : But base p w w2 := ⟨⟨but2.below.os.trans but1.below.os, but2.below.tape.trans but1.below.tape, but2.below.output.trans but1.below.output, Nat.le_trans but1.below.size but2.below.size, fun k hk => (but2.below.block k hk).trans (but1.below.block k hk)⟩, Nat.le_trans but1.size but2.size, fun k c e s hk hw => but2.cells k c e s hk (but1.cells k c e s hk hw)⟩
    refine ⟨rfl, ⟨⟨b, L.filter (fun e => e.1.1 != t), ⟨?_, T2, hlow, ?_, ?_, ?_⟩, ?_, hbb⟩, dropS_inv hI t, by show (dropS S t).n ≤ most; omega, h3, h4⟩, but12⟩
    · rw [cells2]
      have : (dropS S t).n = ((sumR (L.filter (fun e => e.1.1 != t)) S.R : Nat) : Int) := by
        show ((((S.K.filter (fun q => q.1 != t)).map fun q => (dropR S.R t q).length).sum : Nat) : Int) = _
        rw [drop_sum, ← hk, List.filter_map, List.map_map]
        rfl
      rw [← this]
    · intro e he
      obtain ⟨h5, h6⟩ := List.mem_filter.1 he
      show RowR w2 base (mvS e.2) (dropR S.R t e.1)
      rw [dropR_other _ (by simpa using h6)]
      refine (M1.rows e h5).move fun g hg => ?_
      obtain ⟨_, _, cells, hc⟩ := (M1.rows e h5).typed g hg
      refine (but2.cells g _ _ _ (fun e2 => ?_) hc).trans hc.symm
      subst e2
      rw [hcell] at hc
      injection hc with hc
      injection hc with _ hc
      cases hc
    · intro q hq
      show dropR S.R t q = []
      by_cases h6 : q.1 = t
      · exact dropR_same _ h6
      · rw [dropR_other _ h6]
        rw [got_filter t q h6] at hq
        exact M1.off q hq
    · intro e he y hy
      replace hy : y ∈ dropR S.R t e.1 := hy
      obtain ⟨h5, h6⟩ := List.mem_filter.1 he
      rw [dropR_other _ (by simpa using h6)] at hy
      exact M1.good e h5 y hy
    · show (L.filter (fun e => e.1.1 != t)).map (·.1) = S.K.filter (fun q => q.1 != t)
      rw [← hk, List.filter_map]
      rfl
end Go.Proofs.Yteikmnokmcnmcaa
namespace Go.Proofs.Yteikmnokmcnmcaa
open Go.RowKit Go.Maps Go.Sort Go.Lib Go.Proofs.YteikmnokmcnmcaaW.PrintWords Go.Proofs.YteikmnokmcnmcaaW.PrintLast Go.Proofs.YteikmnokmcnmcaaW.PrintMore
set_option linter.unusedVariables false
set_option linter.unusedSimpArgs false
set_option linter.unusedSectionVars false
/-! ### SireadKeeps, plain -/
theorem cov_refl (a : Rd) : cov a a = true := by
  unfold cov
  rw [less_irrefl, less_irrefl]
  cases (spn a).2.2 <;> rfl
theorem cov_trans {a b c : Rd} (h : cov a b = true) (k : cov b c = true) : cov a c = true := by
  unfold cov at *
  simp only [Bool.and_eq_true, Bool.or_eq_true, Bool.not_eq_true'] at *
  obtain ⟨h1, h2⟩ := h
  obtain ⟨k1, k2⟩ := k
  refine ⟨le_trans' h1 k1, ?_⟩
  rcases h2 with h2 | ⟨h2, h3⟩
  · exact .inl h2
  · rw [h2] at k2
    rcases k2 with k2 | ⟨k2, k3⟩
    · cases k2
    · exact .inr ⟨k2, le_trans' k3 h3⟩
theorem cov_whole (t : ByteArray) (z : Rd) : cov (whole t) z = true := by
  have e : spn (whole t) = (⟨#[]⟩, ⟨#[]⟩, false) := by unfold spn whole; simp
  unfold cov
  rw [e]
  have : (⟨#[]⟩ : ByteArray).toList = [] := by rw [Lib.toList_data]
  simp only [this, less_nil]
  rfl
/-- some note covers what has been noted -/
def Has (R : Pl → List Rd) (o : Sop) : Prop := ∃ y ∈ R (o.txn, o.x.t), cov y o.x = true
theorem Has.left {R : Pl → List Rd} {o : Sop} (h : Has R o) (t : Int) (x : Rd) : Has (put1 R (t, x.t) (left (R (t, x.t)) x)) o := by
  obtain ⟨y, hy, hc⟩ := h
  unfold Has
  by_cases e : (o.txn, o.x.t) = (t, x.t)
  · rw [e] at hy ⊢
    rw [put1_same]
    cases hxy : cov x y with
    | true => exact ⟨x, by unfold Yteikmnokmcnmcaa.left; simp, cov_trans hxy hc⟩
    | false => exact ⟨y, by unfold Yteikmnokmcnmcaa.left; exact List.mem_append_left _ (List.mem_filter.2 ⟨hy, by simp [hxy]⟩), hc⟩
  · rw [put1_other _ _ e]
    exact ⟨y, hy, hc⟩
theorem Has.whole {R : Pl → List Rd} {o : Sop} (h : Has R o) (q : Pl) : Has (put1 R q [Yteikmnokmcnmcaa.whole q.2]) o := by
  obtain ⟨y, hy, hc⟩ := h
  unfold Has
  by_cases e : (o.txn, o.x.t) = q
  · rw [e, put1_same]
    exact ⟨_, List.mem_singleton.2 rfl, cov_whole _ _⟩
  · rw [put1_other _ _ e]
    exact ⟨y, hy, hc⟩
structure KI (S : St) (kept : List Sop) : Prop where
  good : ∀ o ∈ kept, 1 ≤ o.txn ∧ mayB o.x = true ∧ o.OK
  has : ∀ o ∈ kept, Has S.R o
  who : ∀ q ∈ S.K, ∃ o ∈ kept, o.txn = q.1
theorem KI.empty : KI St0 [] := ⟨by simp, by simp, by simp [St0]⟩
theorem KI.note {S : St} {kept : List Sop} (h : KI S kept) (hI : InvK S) {most : Int} (o : Sop) (ho : o.OK) :
    KI (noteP S most o.txn o.x).2 (if (noteP S most o.txn o.x).1 = 0 then kept ++ [o] else kept) := by
  unfold noteP
  split
  · simpa using h
  · rename_i h1
    simp only [not_or, Int.not_lt, Bool.not_eq_false] at h1
    split
    · rename_i h2
      simp only [if_true]
      have hs : Has S.R o := by
        obtain ⟨y, hy, hc⟩ := List.any_eq_true.1 h2
        exact ⟨y, hy, hc⟩
      refine ⟨fun x hx => ?_, fun x hx => ?_, fun q hq => ?_⟩
      · rcases List.mem_append.1 hx with hx | hx
        · exact h.good x hx
        · rw [List.mem_singleton.1 hx]; exact ⟨h1.1, h1.2, ho⟩
      · rcases List.mem_append.1 hx with hx | hx
        · exact h.has x hx
        · rw [List.mem_singleton.1 hx]; exact hs
      · obtain ⟨x, hx, e⟩ := h.who q hq
        exact ⟨x, List.mem_append_left _ hx, e⟩
    · rename_i h2
      split
      · simpa using h
      · rename_i R' n' he
        simp only [if_true]
        have hn := hI.note h1.1 ho.x h1.2 (by simpa using h2)
        have hP : ∀ x ∈ kept ++ [o], Has (put1 S.R (o.txn, o.x.t) (left (S.R (o.txn, o.x.t)) o.x)) x := by
          intro x hx
          rcases List.mem_append.1 hx with hx | hx
          · exact (h.has x hx).left _ _
          · rw [List.mem_singleton.1 hx]
            exact ⟨o.x, by rw [put1_same]; unfold left; simp, cov_refl _⟩
        have hc := coarse_keeps (most := most) (fun R => ∀ x ∈ kept ++ [o], Has R x) (fun R q hR _ x hx => (hR x hx).whole q) _ _ _ R' n' (Nat.le_refl _) hn hP he
        refine ⟨fun x hx => ?_, hc.2.1, fun q hq => ?_⟩
        · rcases List.mem_append.1 hx with hx | hx
          · exact h.good x hx
          · rw [List.mem_singleton.1 hx]; exact ⟨h1.1, h1.2, ho⟩
        · rcases mem_keysK.1 hq with rfl | hq
          · exact ⟨o, List.mem_append_right _ (List.mem_singleton.2 rfl), rfl⟩
          · obtain ⟨x, hx, e⟩ := h.who q hq
            exact ⟨x, List.mem_append_left _ hx, e⟩
theorem KI.drop {S : St} {kept : List Sop} (h : KI S kept) (hI : InvK S) (t : Int) : KI (dropP S t).2 (kept.filter (fun o => o.txn != t)) := by
  unfold dropP
  split
  · rename_i ht
    refine ⟨fun o ho => h.good o (List.mem_filter.1 ho).1, fun o ho => h.has o (List.mem_filter.1 ho).1, fun q hq => ?_⟩
    obtain ⟨o, ho, e⟩ := h.who q hq
    have := hI.one q hq
    exact ⟨o, List.mem_filter.2 ⟨ho, by simp; omega⟩, e⟩
  · rename_i ht
    refine ⟨fun o ho => h.good o (List.mem_filter.1 ho).1, fun o ho => ?_, fun q hq => ?_⟩
    · obtain ⟨h1, h2⟩ := List.mem_filter.1 ho
      obtain ⟨y, hy, hc⟩ := h.has o h1
      refine ⟨y, ?_, hc⟩
      show y ∈ dropR S.R t (o.txn, o.x.t)
      rw [dropR_other _ (by simpa using h2)]
      exact hy
    · obtain ⟨h1, h2⟩ := List.mem_filter.1 hq
      obtain ⟨o, ho, e⟩ := h.who q h1
      exact ⟨o, List.mem_filter.2 ⟨ho, by rw [e]; exact h2⟩, e⟩
theorem inner_holds {x : Rd} (hm : mayB x = true) {key k : ByteArray} (hk : k ∈ innerP x key) : holdB x k = true := by
  unfold innerP at hk
  unfold holdB
  by_cases h1 : x.k = 1
  · rw [if_pos h1] at hk ⊢
    rw [List.mem_singleton.1 hk]
    simp
  · rw [if_neg h1] at hk ⊢
    by_cases h2 : x.k = 2
    · rw [if_pos h2] at hk ⊢
      have hf : (!Op.bytesLess x.f.toList x.f.toList && (x.u.toList == [] || Op.bytesLess x.f.toList x.u.toList)) = true := by
        rw [less_irrefl]
        have : mayB x = (x.u.toList.isEmpty || Op.bytesLess x.f.toList x.u.toList) := by unfold mayB; simp [h2]
        rw [this] at hm
        have e : (x.u.toList == []) = x.u.toList.isEmpty := by cases x.u.toList <;> rfl
        rw [e]
        simpa using hm
      split at hk
      · rename_i hc
        rcases List.mem_cons.1 hk with rfl | hk
        · exact hf
        · rw [List.mem_singleton.1 hk]
          have e : (x.u.toList == []) = x.u.toList.isEmpty := by cases x.u.toList <;> rfl
          rw [e]
          exact hc
      · rw [List.mem_singleton.1 hk]
        exact hf
    · rw [if_neg h2]
theorem KI.reads {S : St} {kept : List Sop} (h : KI S kept) (hI : InvK S) {o : Sop} (ho : o ∈ kept) {key k : ByteArray} (hk : k ∈ innerP o.x key) : (readP S o.x.t k).any (· == o.txn) = true := by
  obtain ⟨y, hy, hc⟩ := h.has o ho
  have hh := cov_holds hc (inner_holds (h.good o ho).2.1 hk)
  have hK : (o.txn, o.x.t) ∈ S.K := by
    by_cases e : (o.txn, o.x.t) ∈ S.K
    · exact e
    · rw [hI.off _ e] at hy; cases hy
  rw [List.any_eq_true]
  refine ⟨o.txn, ?_, by simp⟩
  unfold readP
  rw [(rise_spec _).2]
  refine List.mem_map.2 ⟨(o.txn, o.x.t), List.mem_filter.2 ⟨hK, ?_⟩, rfl⟩
  rw [Bool.and_eq_true]
  exact ⟨by simp, List.any_eq_true.2 ⟨y, hy, hh⟩⟩
theorem readP_len {S : St} (hI : InvK S) (tab key : ByteArray) : ((readP S tab key).length : Int) ≤ S.n := by
  have h1 := rise_length ((S.K.filter (fun q => (q.2.toList == tab.toList) && (S.R q).any (fun y => holdB y key))).map (·.1))
  rw [List.length_map] at h1
  have h2 := List.length_filter_le (fun q => (q.2.toList == tab.toList) && (S.R q).any (fun y => holdB y key)) S.K
  have := hI.card
  unfold readP
  omega
theorem innerP_len (x : Rd) (key : ByteArray) : (innerP x key).length ≤ 2 := by
  unfold innerP
  split
  · simp
  · split
    · split <;> simp
    · simp
/-- what is still to be dropped -/
def Rest (S : St) (kept : List Sop) (j : Nat) : Prop := ∀ q ∈ S.K, ∃ o ∈ kept.drop j, o.txn = q.1
theorem Rest.next {S : St} {kept : List Sop} {j : Nat} (h : Rest S kept j) (hj : j < kept.length) (h1 : 1 ≤ (kept[j]).txn) : Rest (dropP S (kept[j]).txn).2 kept (j + 1) := by
  have e : dropP S (kept[j]).txn = (0, dropS S (kept[j]).txn) := by unfold dropP; rw [if_neg (by omega)]
  rw [e]
  intro q hq
  obtain ⟨h3, h4⟩ := List.mem_filter.1 hq
  obtain ⟨o, ho, e⟩ := h q h3
  rw [List.drop_eq_getElem_cons hj] at ho
  rcases List.mem_cons.1 ho with rfl | ho
  · rw [← e] at h4
    simp at h4
  · exact ⟨o, ho, e⟩
theorem dropP_inv {S : St} (h : InvK S) (t : Int) : InvK (dropP S t).2 := by
  unfold dropP
  split
  · exact h
  · exact dropS_inv h t
theorem Rest.done {S : St} {kept : List Sop} (h : Rest S kept kept.length) (hI : InvK S) : S.K = [] ∧ S.n = 0 := by
  have e : S.K = [] := by
    cases hK : S.K with
    | nil => rfl
    | cons q K =>
      obtain ⟨o, ho, _⟩ := h q (by rw [hK]; exact List.mem_cons_self)
      rw [List.drop_length] at ho
      cases ho
  refine ⟨e, ?_⟩
  rw [hI.sum, e]
  rfl
end Go.Proofs.Yteikmnokmcnmcaa
namespace Go.Proofs.Yteikmnokmcnmcaa
open Go.ChangeShapes Go.WideShapes Go.ChangeAt Go.RowKit Go.Sort Go.Maps Go.Proofs.YteikmnokmcnmcaaW.PrintWords Go.Proofs.YteikmnokmcnmcaaW.PrintLast Go.Proofs.YteikmnokmcnmcaaW.PrintMore
set_option linter.unusedVariables false
set_option linter.unusedSimpArgs false
set_option linter.unusedSectionVars false
/-! ### SireadKeeps -/
theorem rowO_move {W W' : World} {base : Nat} {ok : Nat → Prop} {v : Value} {xs : List Sop} (h : dOp.R 41 W base ok v xs) (hm : ∀ k, v.ownBlock = some k → W'.heap[k]? = W.heap[k]?) : dOp.R 41 W' base ok v xs := by
  obtain ⟨h0, inner, ho, hr⟩ := h
  exact ⟨h0, inner, own_move ho hm, hr⟩
theorem rowO_far {W W' : World} {base p : Nat} {ok : Nat → Prop} {v : Value} {xs : List Sop} (h : dOp.R 41 W base ok v xs) (hp : ∃ c s, W.heap[p]? = some (.cells c 55 s)) (hb : ∀ k c e s, k ≠ p → W.heap[k]? = some (.cells c e s) → W'.heap[k]? = some (.cells c e s)) : dOp.R 41 W' base ok v xs := by
  refine rowO_move h fun k hk => ?_
  obtain ⟨_, _, cells, hc⟩ := flat_typed h k hk
  refine (hb k _ _ _ (fun e => ?_) hc).trans hc.symm
  subst e
  obtain ⟨c, s, hp⟩ := hp
  rw [hp] at hc
  injection hc with hc
  injection hc with _ hc
  cases hc
theorem far_of_grown {W W' : World} {p : Nat} (hg : W.grownBy W' (some p)) : ∀ k c e s, k ≠ p → W.heap[k]? = some (.cells c e s) → W'.heap[k]? = some (.cells c e s) :=
  fun k c e s hk hw => (hg.block k (Array.getElem?_eq_some_iff.1 hw).1 (by simpa using hk)).trans hw
/-- what stays -/
structure GEnv (w : World) (p : Nat) (most : Int) (S : St) (kept : List Sop) (vk : Value) (bx : Nat) (o : Sop) (W : World) : Prop where
  m : MrS W w.heap.size p most S
  ki : KI S kept
  row : dOp.R 41 W w.heap.size (fun _ => True) vk kept
  box : W.heap[bx]? = some (boxO o)
  below : Below w.heap.size w W
theorem GEnv.later {w W W' : World} {p : Nat} {most : Int} {S : St} {kept : List Sop} {vk : Value} {bx : Nat} {o : Sop} (h : GEnv w p most S kept vk bx o W) (B : Below W.heap.size W W') : GEnv w p most S kept vk bx o W' :=
  ⟨h.m.kept (grown_of_below B none), h.ki, Kd.R_below h.row B, blk_below h.box B, below_then h.below h.below.size B⟩
def KJ1 (w : World) (p : Nat) (most : Int) (n : Nat) (v8 vi : Value) (W : World) : Prop :=
  ∃ (i : Nat) (S : St) (kept : List Sop), vi = .int .i64 (i : Int) ∧ i ≤ n ∧ kept.length ≤ i ∧ MrS W w.heap.size p most S ∧ KI S kept ∧ dOp.R 41 W w.heap.size (fun _ => True) v8 kept ∧ Below w.heap.size w W
def KJ2 (w : World) (p : Nat) (most : Int) (i : Nat) (bx : Nat) (o : Sop) (v8 : Value) (W : World) : Prop :=
  ∃ (S : St) (kept : List Sop), kept.length ≤ i + 1 ∧ GEnv w p most S kept v8 bx o W
def KJ3 (w : World) (p : Nat) (most : Int) (S : St) (kept : List Sop) (vk : Value) (bx : Nat) (o : Sop) (vi : Value) (W : World) : Prop := ∃ j : Nat, vi = .int .i64 (j : Int) ∧ j ≤ kept.length ∧ GEnv w p most S kept vk bx o W
def KJ4 (w : World) (p : Nat) (most : Int) (S : St) (kept : List Sop) (vk : Value) (bx : Nat) (o : Sop) (b2 : Nat) (x : Sop) (keys : List ByteArray) (vs : Value) (kb : Nat) (vi : Value) (W : World) : Prop :=
  ∃ j : Nat, vi = .int .i64 (j : Int) ∧ j ≤ keys.length ∧ GEnv w p most S kept vk bx o W ∧ W.heap[b2]? = some (boxO x) ∧ RowS W kb vs keys
def KJ7 (w : World) (p : Nat) (most : Int) (kept : List Sop) (vk : Value) (vi : Value) (W : World) : Prop :=
  ∃ (j : Nat) (S : St), vi = .int .i64 (j : Int) ∧ j ≤ kept.length ∧ MrS W w.heap.size p most S ∧ Rest S kept j ∧ dOp.R 41 W w.heap.size (fun _ => True) vk kept ∧ Below w.heap.size w W
theorem RowS.at {w : World} {base g n c : Nat} {xs : List ByteArray} (h : RowS w base (.slice (some ⟨g, 0, none⟩) n c) xs) (j : Nat) (x : ByteArray) (hj : xs[j]? = some x) : w.cell? ⟨g, j, none⟩ = some (.string x) := by
  have H := h.cell (fun _ => rfl) rfl j x hj 0 _ rfl
  simpa using H
set_option maxHeartbeats 16000000 in
set_option maxRecDepth 100000 in
theorem SireadKeeps_calls (most : Int) (z : Scr) (w : World) (hz : z.OK w) :
    Calls Try.prog 6 #[.int .i64 most, z.val] w fun e w' => e = .returned (.bool true) ∧ Below w.heap.size w w' := by
  obtain ⟨A, c, xs⟩ := z
  obtain ⟨hC, hx, hxl⟩ := hz
  unfold Scr.val
  dsimp only at hC hx hxl ⊢
  have hrb : reachBytes = 140737488351232 := rfl
  have LV := fun W => live_calls W
  by_cases hin : 1 ≤ most ∧ most ≤ 65536
  · have BG := begun_S most w.heap.size w (Nat.le_refl _) hin.1 hin.2
    go_enter Try.func6, Try.ntmps6
    go_wp2_with fail
    refine BG.mono ?_
    rintro e w1 ⟨p, rfl, M1, B1⟩
    obtain ⟨W2, hW2⟩ : ∃ W2, W2 = w1.alloc (.cells #[.int .i64 most, .slice none 0 0] 37) := ⟨_, rfl⟩
    have B2 : Below w1.heap.size w1 W2 := by rw [hW2]; exact (Below.refl _ w1).alloc (Nat.le_refl _) _
    have B12 := below_then B1 B1.size B2
    have M2 := M1.kept (grown_of_below B2 none)
    have LV2 := LV W2
    clear LV BG hin
    go_upto_region 2 with (fail)
    rw [← hW2]
    clear hW2
    go_wp2_with fail
    refine LV2.mono ?_
    rintro e W3 ⟨rfl, B3⟩
    have hJ0 : KJ1 w p most xs.length (.slice none 0 0) (.int .i64 0) W3 := ⟨0, St0, [], rfl, Nat.zero_le _, Nat.le_refl _, M2.kept (grown_of_below B3 none), KI.empty, Kd.R_nil _ _ _ _ _, below_then B12 B12.size B3⟩
    have hn := hC.2.1
    clear M1 M2 B1 B2 B12 B3 LV2
    replace hC := Aside0.mk hC
    replace hx := Aside0.mk hx
    replace hrb := Aside0.mk hrb
    go_wp2_with fail
    go_loopw [8, 39] (fun v8 vi wr => KJ1 w p most xs.length v8 vi wr) (fun _ vi _ => xs.length - (intOf vi).toNat)
    case atStart => exact hJ0
    case round =>
      clear hJ0
      obtain ⟨i, S, kept, rfl, hi, hki, M, K, hrow, B⟩ := hrel
      have C := Kd.C_below hC.out B
      obtain ⟨Ak, ck, rfl, hlk, hAk⟩ := (Lo.ofR hrow).slice
      by_cases hlt : i < xs.length
      · obtain ⟨ad, rfl, q0, q1, q2, q3, q4, q5, q6⟩ := op_at C i hlt
        have hxo := hx.out _ (List.getElem_mem hlt)
        generalize xs[i] = o at q0 q1 q2 q3 q4 q5 q6 hxo
        obtain ⟨W4, hW4⟩ : ∃ W4, W4 = wr.alloc (.cells #[.int .i64 o.kind, .int .i64 o.txn, .string o.x.t, .int .i64 o.x.k, .string o.x.f, .string o.x.u, .string o.key] 41) := ⟨_, rfl⟩
        have B4 : Below wr.heap.size wr W4 := by rw [hW4]; exact (Below.refl _ wr).alloc (Nat.le_refl _) _
        have ob4 : W4.heap[wr.heap.size]? = some (boxO o) := by rw [hW4]; exact heap_alloc_new wr _
        obtain ⟨bx, hbx⟩ : ∃ bx, bx = wr.heap.size := ⟨_, rfl⟩
        have E4 : GEnv w p most S kept (.slice Ak kept.length ck) bx o W4 := by
          rw [hbx]
          exact ⟨M.kept (grown_of_below B4 none), K, Kd.R_below hrow B4, ob4, below_then B B.size B4⟩
        have hownlt : ∀ k, (Value.slice Ak kept.length ck).ownBlock = some k → k < bx := fun k hk => by rw [hbx]; exact (flat_typed hrow k hk).2.1
        go_upto_region 8 with (fail)
        rw [← hW4, ← hbx]
        have hpb : bx ≠ p := by have := M.lt; omega
        clear hW4 q0 q1 q2 q3 q4 q5 q6 B4 ob4 hbx M K hrow B C hlk
        obtain ⟨r0, r1, r2, r3, r4, r5, r6⟩ := op_cells E4.box
        go_upto_block 2 with (fail)
        go_cut [8] (fun v8 wx => KJ2 w p most i bx o v8 wx)
        case first =>
          by_cases h0 : o.kind = 0
          · have NS := Note_S w.heap.size p most S o.txn o.x W4 E4.m hxo.x hxo.txn
            have KN := E4.ki.note E4.m.inv (most := most) o hxo
            have hk0 : (o.kind == 0) = true := by simp [h0]
            replace h0 := Aside0.mk h0
            go_wp2_with fail
            refine NS.mono ?_
            rintro e W5 ⟨rfl, M5, G5⟩
            have far := far_of_grown G5
            have hrow5 := rowO_far E4.row E4.m.is55 far
            have ob5 := far bx _ _ _ hpb E4.box
            have hplow := M5.low
            have B5 := E4.below.grown G5 E4.below.size (fun k hk => by injection hk with hk; omega)
            generalize noteP S most o.txn o.x = nt at M5 KN
            obtain ⟨code, S'⟩ := nt
            dsimp only at M5 KN ⊢
            obtain ⟨s0, s1, s2, s3, s4, s5, s6⟩ := op_cells ob5
            by_cases hcd : code = 0
            · rw [if_pos hcd] at KN
              have hcd' : (code == 0) = true := by simp [hcd]
              obtain ⟨v', w', hrun, hv', hg'⟩ := appO hrow5 o (by have := hrb.out; omega) B5.size
              have hown := fun k hk => flat_typed hrow5 k hk
              have E6 : KJ2 w p most i bx o v' w' := by
                refine ⟨S', kept ++ [o], by simp; omega, ?_, KN, hv', ?_, B5.grown hg' B5.size (fun k hk => (hown k hk).1)⟩
                · obtain ⟨⟨b, L, MM, hk, hbb⟩, r1, r2, r3, r4⟩ := M5
                  refine ⟨⟨b, L, ⟨?_, ?_, MM.low, ?_, MM.off, MM.good⟩, hk, hbb⟩, r1, r2, r3, r4⟩
                  · refine (hg'.block p (Array.getElem?_eq_some_iff.1 MM.cells).1 (fun e => ?_)).trans MM.cells
                    obtain ⟨_, _, cells, hc⟩ := hown p e.symm
                    rw [MM.cells] at hc
                    injection hc with hc
                    injection hc with _ hc
                    cases hc
                  · refine MM.tab.kept hg' (fun e => ?_)
                    obtain ⟨_, _, cells, hc⟩ := hown b e.symm
                    obtain ⟨es, clock, hm⟩ := MM.tab.isMap
                    rw [hm] at hc
                    cases hc
                  · intro e he
                    refine (MM.rows e he).grown hg' (fun k hk e' => ?_)
                    obtain ⟨_, _, cells, hc⟩ := hown k hk
                    obtain ⟨_, _, cells', hc'⟩ := (MM.rows e he).typed k e'
                    rw [hc] at hc'
                    injection hc' with hc'
                    injection hc' with _ hc'
                    cases hc'
                · refine (hg'.block bx (Array.getElem?_eq_some_iff.1 ob5).1 (fun e => ?_)).trans ob5
                  have := hownlt bx e.symm
                  omega
              replace E6 := Aside0.mk E6
              replace hcd := Aside0.mk hcd
              go_wp2_with (at_builtin; refine app_list rfl rfl rfl rfl hrun ?_)
              go_meet
              exact E6.out
            · rw [if_neg hcd] at KN
              have hcd' : (code == 0) = false := by simpa using hcd
              have E6 : KJ2 w p most i bx o (.slice Ak kept.length ck) W5 := ⟨S', kept, by omega, M5, KN, hrow5, ob5, B5⟩
              replace E6 := Aside0.mk E6
              replace hcd := Aside0.mk hcd
              go_wp2_with fail
              go_meet
              exact E6.out
          · have hk0 : (o.kind == 0) = false := by simpa using h0
            by_cases h1 : o.kind = 1
            · have hk1 : (o.kind == 1) = true := by simp [h1]
              have DS := Drop_S w.heap.size p most S o.txn W4 E4.m
              have KD := E4.ki.drop E4.m.inv o.txn
              replace h0 := Aside0.mk h0
              replace h1 := Aside0.mk h1
              go_wp2_with fail
              refine DS.mono ?_
              rintro e W5 ⟨rfl, M5, but5⟩
              have hrow5 := rowO_far E4.row E4.m.is55 but5.cells
              have ob5 := but5.cells bx _ _ _ hpb E4.box
              have B5 : Below w.heap.size w W5 := ⟨but5.below.os.trans E4.below.os, but5.below.tape.trans E4.below.tape, but5.below.output.trans E4.below.output, Nat.le_trans E4.below.size but5.size, fun k hk => (but5.below.block k hk).trans (E4.below.block k hk)⟩
              have WO := without_calls w.heap.size (.slice Ak kept.length ck) kept o.txn W5 (Lo.ofR hrow5) (by have := hrb.out; omega)
              obtain ⟨s0, s1, s2, s3, s4, s5, s6⟩ := op_cells ob5
              go_wp2_with fail
              refine WO.mono ?_
              rintro e W6 ⟨v6, rfl, H6, B6⟩
              have hfl := List.length_filter_le (fun o' => o'.txn != o.txn) kept
              have E6 : KJ2 w p most i bx o v6 W6 := ⟨_, _, by omega, M5.kept (grown_of_below B6 none), KD, Kd.R_lower H6 B5.size, blk_below ob5 B6, below_then B5 B5.size B6⟩
              replace E6 := Aside0.mk E6
              go_wp2_with fail
              go_meet
              exact E6.out
            · have hk1 : (o.kind == 1) = false := by simpa using h1
              have E6 : KJ2 w p most i bx o (.slice Ak kept.length ck) W4 := ⟨S, kept, by omega, E4⟩
              replace E6 := Aside0.mk E6
              replace h0 := Aside0.mk h0
              replace h1 := Aside0.mk h1
              replace E4 := Aside0.mk E4
              go_wp2_with fail
              go_meet
              exact E6.out
        case rest =>
          clear E4 r0 r1 r2 r3 r4 r5 r6
          clear hownlt hki hAk
          obtain ⟨S, kept, hkl, E5⟩ := hcut
          obtain ⟨Ak, ck, rfl, hlk, hAk⟩ := (Lo.ofR E5.row).slice
          have LN := Len_S w.heap.size p most S wc E5.m
          have hle : ¬ most < S.n := by have := E5.m.le; omega
          have hkn : kept.length ≤ 1599289640401 := by have := hrb.out; omega
          have J3 : KJ3 w p most S kept (.slice Ak kept.length ck) bx o (.int .i64 0) wc := ⟨0, rfl, Nat.zero_le _, E5⟩
          clear E5
          go_wp2_with fail
          refine LN.mono ?_
          rintro e W' ⟨rfl, rfl⟩
          clear LN
          go_wp2_with fail
          go_loopw [74] (fun vi W => KJ3 w p most S kept (.slice Ak kept.length ck) bx o vi W) (fun vi _ => kept.length - (intOf vi).toNat)
          case atStart => exact J3
          case round =>
            clear J3
            obtain ⟨j, rfl, hj, E⟩ := hrel
            by_cases hjl : j < kept.length
            · obtain ⟨g, rfl, _⟩ := hAk (by omega)
              have hmem := List.getElem_mem hjl
              obtain ⟨q0, q1, q2, q3, q4, q5, q6⟩ := RowO.at (Lo.ofR E.row) j kept[j] (List.getElem?_eq_getElem hjl)
              generalize kept[j] = x at q0 q1 q2 q3 q4 q5 q6 hmem
              obtain ⟨W4, hW4⟩ : ∃ W4, W4 = wr.alloc (.cells #[.int .i64 x.kind, .int .i64 x.txn, .string x.x.t, .int .i64 x.x.k, .string x.x.f, .string x.x.u, .string x.key] 41) := ⟨_, rfl⟩
              have B4 : Below wr.heap.size wr W4 := by rw [hW4]; exact (Below.refl _ wr).alloc (Nat.le_refl _) _
              have ob4 : W4.heap[wr.heap.size]? = some (boxO x) := by rw [hW4]; exact heap_alloc_new wr _
              have E4 := E.later B4
              obtain ⟨r0, r1, r2, r3, r4, r5, r6⟩ := op_cells ob4
              obtain ⟨s0, s1, s2, s3, s4, s5, s6⟩ := op_cells E4.box
              have IN := inner_calls x.x o.key W4
              have hreads := fun k hk => E.ki.reads E.m.inv hmem (key := o.key) (k := k) hk
              have hkl2 := innerP_len x.x o.key
              generalize innerP x.x o.key = keys at IN hreads hkl2
              obtain ⟨b2, hb2⟩ : ∃ b2, b2 = wr.heap.size := ⟨_, rfl⟩
              rw [← hb2] at ob4 r0 r1 r2 r3 r4 r5 r6
              replace hreads := Aside0.mk hreads
              go_upto_region 20 with (fail)
              rw [← hW4, ← hb2]
              clear hW4 hb2 B4 E q0 q1 q2 q3 q4 q5 q6
              replace E4 := Aside0.mk E4
              go_wp2_with fail
              refine IN.mono ?_
              rintro e W5 ⟨vs, rfl, hvs, B5⟩
              have hrs := Lo.ofR hvs
              obtain ⟨As, cs, rfl, hls, hAs⟩ := hrs.slice
              have J4 : KJ4 w p most S kept (.slice (some ⟨g, 0, none⟩) kept.length ck) bx o b2 x keys (.slice As keys.length cs) W4.heap.size (.int .i64 0) W5 := ⟨0, rfl, Nat.zero_le _, E4.out.later B5, blk_below ob4 B5, hrs⟩
              clear E4 B5 hvs hrs ob4 r0 r1 r2 r3 r4 r5 r6 s0 s1 s2 s3 s4 s5 s6 IN
              go_wp2_with fail
              go_loopw [84] (fun vi W => KJ4 w p most S kept (.slice (some ⟨g, 0, none⟩) kept.length ck) bx o b2 x keys (.slice As keys.length cs) W4.heap.size vi W) (fun vi _ => keys.length - (intOf vi).toNat)
              case atStart => exact J4
              case round =>
                clear J4
                obtain ⟨m, rfl, hm, E, ob, hrs⟩ := hrel
                by_cases hml : m < keys.length
                · obtain ⟨gs, rfl, _⟩ := hAs (by omega)
                  have y0 := RowS.at hrs m keys[m] (List.getElem?_eq_getElem hml)
                  have hrd := hreads.out _ (List.getElem_mem hml)
                  generalize keys[m] = key at y0 hrd
                  obtain ⟨r0, r1, r2, r3, r4, r5, r6⟩ := op_cells ob
                  have RD := fun n => Readers_S w.heap.size p most S x.x.t key (wr.drewN n) (E.m.kept (drewNG wr n))
                  have hrl := readP_len E.m.inv x.x.t key
                  have hle2 := E.m.le
                  have htop := E.m.top
                  have CT := fun v W (h : RowI W wr.heap.size v (readP S x.x.t key)) => Contains_calls wr.heap.size v _ x.txn W h (by omega)
                  rw [hrd] at CT
                  generalize readP S x.x.t key = rs at RD CT
                  clear hrl hle2 htop hrd
                  replace E := Aside0.mk E
                  replace hrs := Aside0.mk hrs
                  go_wp2_with fail
                  go_region_held3 (fun V => V.cell? ⟨b2, 2, none⟩ = some (.string x.x.t) ∧ V.cell? ⟨b2, 1, none⟩ = some (.int .i64 x.txn)) (first | exact ⟨r2, r1⟩ | exact ⟨K9 _ _ r2, K9 _ _ r1⟩)
                    (first
                      | (go_at_call 21; have H9 := Lo.ofR Hr; refine (CT _ _ H9).mono ?_; rintro e W' ⟨rfl, rfl⟩)
                      | (go_at_call 13; refine (RD _).mono ?_; rintro e Wr ⟨vr, rfl, Hr, Br⟩; have K9 : ∀ q v, wr.cell? q = some v → Wr.cell? q = some v := fun q v hv => (Br.cell (World.block_lt_of_cell? _ _ hv)).trans hv))
                  go_wp2
                  have BB := below_then ((Below.refl _ wr).grown (drewNG wr 1) (Nat.le_refl _) (by simp)) (Nat.le_refl _) Br
                  refine ⟨⟨m + 1, by simp, by omega, E.out.later BB, blk_below ob BB, hrs.out.grown (grown_of_below BB none) (by simp)⟩, ?_⟩
                  simp [intOf]
                  omega
                · have J5 : KJ3 w p most S kept (.slice (some ⟨g, 0, none⟩) kept.length ck) bx o (.int .i64 ((j : Int) + 1)) wr := ⟨j + 1, by simp, by omega, E⟩
                  obtain rfl : m = keys.length := by omega
                  clear E
                  go_wp2
                  refine ⟨J5, ?_⟩
                  simp [intOf]
                  omega
            · have J5 : KJ1 w p most xs.length (.slice Ak kept.length ck) (.int .i64 ((i : Int) + 1)) wr := ⟨i + 1, S, kept, by simp, by omega, by omega, E.m, E.ki, E.row, E.below⟩
              obtain rfl : j = kept.length := by omega
              clear E
              go_wp2
              refine ⟨J5, ?_⟩
              simp [intOf]
              omega
      · obtain rfl : i = xs.length := by omega
        have hgood := fun o ho => (K.good o ho).1
        have J7 : KJ7 w p most kept (.slice Ak kept.length ck) (.int .i64 0) wr := ⟨0, S, rfl, Nat.zero_le _, M, fun q hq => by rw [List.drop_zero]; exact K.who q hq, hrow, B⟩
        have hkn : kept.length ≤ 1599289640401 := by have := hrb.out; omega
        clear M K hrow B C hx hC
        replace hgood := Aside0.mk hgood
        go_wp2_with fail
        go_loopw [103] (fun vi W => KJ7 w p most kept (.slice Ak kept.length ck) vi W) (fun vi _ => kept.length - (intOf vi).toNat)
        case atStart => exact J7
        case round =>
          clear J7
          obtain ⟨j, S, rfl, hj, M, hrest, hrow, B⟩ := hrel
          by_cases hjl : j < kept.length
          · obtain ⟨g, rfl, _⟩ := hAk (by omega)
            have h1 := hgood.out _ (List.getElem_mem hjl)
            have hnext := hrest.next hjl h1
            obtain ⟨q0, q1, q2, q3, q4, q5, q6⟩ := RowO.at (Lo.ofR hrow) j kept[j] (List.getElem?_eq_getElem hjl)
            generalize kept[j] = x at q0 q1 q2 q3 q4 q5 q6 hnext h1
            obtain ⟨W4, hW4⟩ : ∃ W4, W4 = wr.alloc (.cells #[.int .i64 x.kind, .int .i64 x.txn, .string x.x.t, .int .i64 x.x.k, .string x.x.f, .string x.x.u, .string x.key] 41) := ⟨_, rfl⟩
            have B4 : Below wr.heap.size wr W4 := by rw [hW4]; exact (Below.refl _ wr).alloc (Nat.le_refl _) _
            have ob4 : W4.heap[wr.heap.size]? = some (boxO x) := by rw [hW4]; exact heap_alloc_new wr _
            obtain ⟨r0, r1, r2, r3, r4, r5, r6⟩ := op_cells ob4
            have M4 := M.kept (grown_of_below B4 none)
            have DS := Drop_S w.heap.size p most S x.txn W4 M4
            have B14 := below_then B B.size B4
            have hrow4 := Kd.R_below hrow B4
            go_upto_region 31 with (fail)
            rw [← hW4]
            clear hW4 q0 q1 q2 q3 q4 q5 q6 hrest
            go_wp2_with fail
            refine DS.mono ?_
            rintro e W5 ⟨rfl, M5, but5⟩
            have B5 : Below w.heap.size w W5 := ⟨but5.below.os.trans B14.os, but5.below.tape.trans B14.tape, but5.below.output.trans B14.output, Nat.le_trans B14.size but5.size, fun k hk => (but5.below.block k hk).trans (B14.block k hk)⟩
            have J8 : KJ7 w p most kept (.slice (some ⟨g, 0, none⟩) kept.length ck) (.int .i64 ((j : Int) + 1)) W5 := ⟨j + 1, _, by simp, by omega, M5, hnext, rowO_far hrow4 M4.is55 but5.cells, B5⟩
            clear M5 but5 hnext M4 hrow4 DS M hrow
            replace J8 := Aside0.mk J8
            go_wp2
            refine ⟨J8.out, ?_⟩
            simp [intOf]
            omega
          · obtain rfl : j = kept.length := by omega
            obtain ⟨hK, hn0⟩ := hrest.done M.inv
            have LN := Len_S w.heap.size p most S wr M
            have TX := Txns_S w.heap.size p most S wr M
            rw [hn0] at LN
            rw [hK] at TX
            clear hrow M hrest
            go_wp2_with fail
            refine LN.mono ?_
            rintro e W' ⟨rfl, rfl⟩
            go_wp2_with fail
            refine TX.mono ?_
            rintro e W6 ⟨v, rfl, Hv, B6⟩
            obtain ⟨At, ct, rfl, _, _⟩ := (Lo.ofR Hv).slice
            have hl0 : (rise (([] : List Pl).map (·.1))).length = 0 := rfl
            rw [hl0]
            go_wp2
            go_ret
            exact ⟨rfl, below_then B B.size B6⟩
  · have BG := begun_bad most w (by omega)
    go_enter Try.func6, Try.ntmps6
    go_wp2_with fail
    refine BG.mono ?_
    rintro e w1 ⟨rfl, B1⟩
    obtain ⟨W2, hW2⟩ : ∃ W2, W2 = w1.alloc (.cells #[.int .i64 most, .slice none 0 0] 37) := ⟨_, rfl⟩
    have B2 : Below w1.heap.size w1 W2 := by rw [hW2]; exact (Below.refl _ w1).alloc (Nat.le_refl _) _
    have B12 := below_then B1 B1.size B2
    have LV2 := LV W2
    clear LV BG
    go_upto_region 2 with (fail)
    rw [← hW2]
    clear hW2
    go_wp2_with fail
    refine LV2.mono ?_
    rintro e W3 ⟨rfl, B3⟩
    go_wp2
    go_ret
    exact ⟨rfl, below_then B12 B12.size B3⟩
end Go.Proofs.Yteikmnokmcnmcaa
