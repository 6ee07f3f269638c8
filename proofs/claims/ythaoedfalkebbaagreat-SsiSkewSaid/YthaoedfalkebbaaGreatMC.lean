import Derived.Test.YthaoedfalkebbaaGreatMB
import Derived.Test.YthaoedfalkebbaaGreatK0
namespace Go.Proofs.YthaoedfalkebbaaGreat
open Go.RowKit Go.Maps Go.Sort Go.Lib Go.Proofs.YthaoedfalkebbaaGreatW.PrintWords Go.Proofs.YthaoedfalkebbaaGreatW.PrintLast Go.Proofs.YthaoedfalkebbaaGreatW.PrintMore
set_option linter.unusedVariables false
set_option linter.unusedSimpArgs false
set_option linter.unusedSectionVars false
/-! ### Sort, Compact, the clones -/
theorem info2 : (Tryz.prog.info? 2).map (fun i => (i.zero, i.size, i.bytes)) = some (some (.int .i64 0), 1, 8) := by kernel_rfl
theorem info23 : (Tryz.prog.info? 108).map (fun i => (i.zero, i.size, i.bytes)) = some (some (.agg #[.string ⟨#[]⟩, .int .i64 0, .string ⟨#[]⟩, .string ⟨#[]⟩]), 4, 56) := by kernel_rfl
def encI (x : Int) : List Value := [.int .i64 x]
theorem encI_one (x : Int) : ∀ u ∈ encI x, u.oneCell' = true := fun u hu => by simp [encI] at hu; rw [hu]; rfl
def dI : Kd Int := Kd.flat encI 1 (fun _ => rfl) encI_one
set_option maxRecDepth 100000 in
theorem sortI_calls (W : World) (base : Nat) (ok : Nat → Prop) (v : Value) (xs : List Int) (h : dI.R 2 W base ok v xs) (hl : xs.length < 4611686018427387904) :
    Calls Tryz.prog 63 #[v] W fun e w' => e = .returned (.tuple #[]) ∧ dI.R 2 w' base ok v (xs.mergeSort fun x y => decide (x ≤ y)) ∧ W.grownBy w' v.ownBlock := by
  obtain ⟨inner, ho⟩ := Kd.R_own h
  rcases ho.2 with ⟨rfl, hn⟩ | ⟨g, cap, cur, rfl, hb, hh, _⟩
  · obtain rfl : xs = [] := List.eq_nil_of_length_eq_zero hn
    refine (AnyM.slices_Sort_int_none Tryz.sortI none 0 W).mono ?_
    rintro e w' ⟨rfl, rfl⟩
    exact ⟨rfl, by rw [List.mergeSort_nil]; exact Kd.R_nil _ _ _ _ _, ⟨rfl, rfl, rfl, Nat.le_refl _, fun _ _ _ => rfl⟩⟩
  · have hlt : g < W.heap.size := (Array.getElem?_eq_some_iff.1 hh).1
    have hcon := AnyM.slices_Sort_int Tryz.sortI g 0 cap xs W (one_holds (enc := Value.int .i64) h) hlt hl
    refine Calls.mono hcon ?_
    rintro e w' ⟨rfl, n, os, rfl⟩
    have hl2 : (xs.mergeSort fun x y => decide (x ≤ y)).length = xs.length := by simp
    obtain ⟨h2, h3⟩ := one_put (enc := Value.int .i64) h hl2 n os
    rw [hl2] at h2
    exact ⟨rfl, h2, h3⟩
set_option maxRecDepth 100000 in
theorem compactI_none (W : World) : Calls Tryz.prog 136 #[.slice none 0 0] W fun e w' => e = .returned (.slice none 0 0) ∧ W = w' := by
  go_enter Tryz.func136, Tryz.ntmps136
  go_wp2
  go_ret
  exact ⟨rfl, rfl⟩
set_option maxRecDepth 100000 in
theorem compactI_calls (W : World) (base : Nat) (ok : Nat → Prop) (v : Value) (xs : List Int) (h : dI.R 2 W base ok v xs) (hl : xs.length < 4611686018427387904) :
    Calls Tryz.prog 136 #[v] W fun e w' => ∃ v', e = .returned v' ∧ dI.R 2 w' base ok v' (compactUpTo xs.toArray xs.length) ∧ W.grownBy w' v.ownBlock ∧ v'.ownBlock = v.ownBlock := by
  obtain ⟨inner, ho⟩ := Kd.R_own h
  rcases ho.2 with ⟨rfl, hn⟩ | ⟨g, cap, cur, rfl, hb, hh, hnc, _⟩
  · obtain rfl : xs = [] := List.eq_nil_of_length_eq_zero hn
    refine (compactI_none W).mono ?_
    rintro e w' ⟨rfl, rfl⟩
    exact ⟨_, rfl, by rw [show compactUpTo ([] : List Int).toArray ([] : List Int).length = [] from rfl]; exact Kd.R_nil _ _ _ _ _, ⟨rfl, rfl, rfl, Nat.le_refl _, fun _ _ _ => rfl⟩, rfl⟩
  · have hcon := AnyE.slices_Compact Tryz.compactI (Value.int .i64) (fun _ => rfl) (EqlAt.intD _ _ _) (NeqAt.intD _ _ _) 0 Tryz.zeroValue2 g 0 cap xs.toArray W (one_holds (enc := Value.int .i64) h) (by simp; omega) (by simpa using hnc)
    refine Calls.mono hcon ?_
    rintro e w' ⟨rfl, q, rfl⟩
    have hcl : (compactUpTo xs.toArray xs.length).length ≤ xs.length := by
      unfold compactUpTo
      rw [List.length_map]
      exact Nat.le_trans (List.length_filter_le _ _) (by simp)
    have hl2 : (compactUpTo xs.toArray xs.toArray.size ++ List.replicate (xs.toArray.size - (compactUpTo xs.toArray xs.toArray.size).length) (0 : Int)).length = xs.length := by
      have e0 : xs.toArray.size = xs.length := by simp
      rw [List.length_append, List.length_replicate, e0]
      omega
    obtain ⟨h2, h3⟩ := one_put (enc := Value.int .i64) h hl2 q #[]
    rw [grow_empty] at h2 h3
    refine ⟨_, rfl, ?_, h3, rfl⟩
    have h4 := Kd.R_take h2 (m := (compactUpTo xs.toArray xs.toArray.size).length) (by rw [List.length_append]; omega)
    rw [List.take_left] at h4
    exact h4
section
variable {ops : Array Oper} {rest : List Oper} {o : Oper} {a : Act} {Q : Exit → Act → World → Prop}
theorem appI {w W : World} {z : Nat} {s x : Operand} {v : Value} {xs : List Int} {y : Int} {ok : Nat → Prop} (hgd : o.guard = none) (ho : o.op = .call { callee := .builtin .append, args := #[s, x], argTypes := #[63, 63] })
    (hs : a.eval s = v) (hx : a.eval x = .slice (some ⟨z, 0, none⟩) 1 1) (HO : dI.R 2 W w.heap.size ok v xs) (HB : Below w.heap.size w W) (hl : xs.length ≤ 65536) (hz : W.heap.size = z) (hfresh : ∀ k, W.heap.size ≤ k → ok k)
    (h : ∀ v1 w1, dI.R 2 w1 w.heap.size ok v1 (xs ++ [y]) → Below w.heap.size w w1 → W.grownBy w1 v.ownBlock → wpList Tryz.prog ops Q rest (a.put o.dst v1) w1) : wpList Tryz.prog ops Q (o :: rest) a (W.alloc (.cells #[.int .i64 y] 2)) := by
  subst hz
  refine Kd.R_append dI (w0 := w) w.heap.size hgd s x 63 2 _ 8 ho Tryz.underlying63 info2 rfl (by decide) (by decide) v xs y [.int .i64 y] ok (fun _ => False) hs hx rfl (fun _ hk => hk.elim) hfresh HO HB HB.size (by omega) ?_
  intro v1 w1 h1 h2 h3 _
  exact h v1 w1 h1 h2 h3
end
set_option maxHeartbeats 1000000 in
set_option maxRecDepth 100000 in
theorem rising_calls (W : World) (base : Nat) (ok : Nat → Prop) (v : Value) (xs : List Int) (h : dI.R 2 W base ok v xs) (hl : xs.length < 4611686018427387904) :
    Calls Tryz.prog 91 #[v] W fun e w' => ∃ v', e = .returned v' ∧ dI.R 2 w' base ok v' (rise xs) ∧ W.grownBy w' v.ownBlock ∧ v'.ownBlock = v.ownBlock := by
  have S := sortI_calls W base ok v xs h hl
  go_enter Tryz.func91, Tryz.ntmps91
  go_wp2_with fail
  refine S.mono ?_
  rintro e w1 ⟨rfl, h1, g1⟩
  have C := compactI_calls w1 base ok v _ h1 (by rw [List.length_mergeSort]; exact hl)
  go_wp2_with fail
  refine C.mono ?_
  rintro e w2 ⟨v', rfl, h2, g2, h3⟩
  go_wp2
  go_ret
  rw [List.length_mergeSort] at h2
  exact ⟨_, rfl, h2, trans_grown g1 g2, h3⟩
theorem cellsR_one (x : Rd) : ∀ u ∈ cellsR x, u.oneCell' = true := fun u hu => by
  simp [cellsR] at hu
  rcases hu with rfl | rfl | rfl | rfl <;> rfl
set_option maxRecDepth 100000 in
theorem cloneR_calls (W : World) (base : Nat) (v : Value) (xs : List Rd) (h : RowR W base v xs) (hl : xs.length * 56 ≤ 140737488355328) :
    Calls Tryz.prog 112 #[v] W fun e w' => ∃ v', e = .returned v' ∧ RowR w' W.heap.size v' xs ∧ Below W.heap.size W w' := by
  obtain ⟨inner, ho, hr⟩ := h
  obtain ⟨i0, hi0, hzz⟩ := Option.map_eq_some_iff.1 info23
  simp only [Prod.mk.injEq] at hzz
  obtain ⟨hz0, hz1, hz2⟩ := hzz
  have ho' := ho
  rcases ho'.2 with ⟨rfl, hn⟩ | ⟨g, cap, cur, rfl, hb, hh, hnc, _⟩
  · obtain rfl : xs = [] := List.eq_nil_of_length_eq_zero hn
    refine (AnyE.slices_Clone_nil Tryz.cloneR 0 0 W).mono ?_
    rintro e w' ⟨rfl, rfl⟩
    exact ⟨_, rfl, Lo.nil _ _, Below.refl _ _⟩
  · have hcon := AnyE.slices_Clone Tryz.cloneR i0 _ 4 56 hi0 hz0 hz1 hz2 rfl (by omega) Tryz.sizeOf108 g 0 xs.length cap inner W ho.1 (by simp only [maxLen]; omega) hl
      (fun j u hu => by
        rw [Nat.zero_add]
        exact l_cells ho j u hu) (fun u hu => by
        obtain ⟨j, hj⟩ := List.mem_iff_getElem?.1 hu
        have hjl : j < xs.length * 4 := by rw [← ho.1]; exact (List.getElem?_eq_some_iff.1 hj).1
        have hd : j / 4 < xs.length := by omega
        have h3 : (inner.drop (j / 4 * 4)).take 4 = cellsR xs[j / 4] := hr.2 (j / 4) _ (List.getElem?_eq_getElem hd)
        have h4 : ((inner.drop (j / 4 * 4)).take 4)[j % 4]? = inner[j]? := by rw [List.getElem?_take, if_pos (by omega), List.getElem?_drop, show j / 4 * 4 + j % 4 = j by omega]
        rw [h3, hj] at h4
        exact cellsR_one _ u (List.mem_of_getElem? h4))
    refine Calls.mono hcon ?_
    rintro e w' ⟨v', rfl, h1, _, h3⟩
    exact ⟨v', rfl, ⟨inner, l_of_own h1, hr⟩, h3⟩
theorem cloneMap_calls (W : World) (b n : Nat) (L : List (Pl × Sv)) (h : TabN W b n L) : Calls Tryz.prog 114 #[.map (some b)] W fun e w' => e = .returned (.map (some W.heap.size)) ∧ TabN w' W.heap.size n L ∧ TabN w' b n L ∧ Below W.heap.size W w' := by
  obtain ⟨D, h1, h2⟩ := h
  refine Calls.mono (AnyW.maps_Clone_owns Tryz.cloneMap 156 rS b n D W h1) ?_
  rintro e w' ⟨rfl, h3, h4, h5⟩
  exact ⟨rfl, ⟨D, h3, h2⟩, ⟨D, h4, h2⟩, h5⟩
end Go.Proofs.YthaoedfalkebbaaGreat
namespace Go.Proofs.YthaoedfalkebbaaGreat
open Go.RowKit Go.Maps Go.Sort Go.Lib Go.Proofs.YthaoedfalkebbaaGreatW.PrintWords Go.Proofs.YthaoedfalkebbaaGreatW.PrintLast Go.Proofs.YthaoedfalkebbaaGreatW.PrintMore
set_option linter.unusedVariables false
set_option linter.unusedSimpArgs false
set_option linter.unusedSectionVars false
/-! ### Note -/
theorem Mr.row {w : World} {base p b : Nat} {most many : Int} {L : List (Pl × Sv)} {R : Pl → List Rd} (h : Mr w base p b most many L R) (q : Pl) : RowR w base (mvS ((got L q).getD none)) (R q) := by
  cases hg : got L q with
  | none => rw [h.off q hg]; exact Lo.nil _ _
  | some s => exact h.rows (q, s) (got_mem hg)
theorem Mr.goodAt {w : World} {base p b : Nat} {most many : Int} {L : List (Pl × Sv)} {R : Pl → List Rd} (h : Mr w base p b most many L R) (q : Pl) : ∀ x ∈ R q, x.OK := by
  cases hg : got L q with
  | none => rw [h.off q hg]; intro x hx; cases hx
  | some s => exact h.good (q, s) (got_mem hg)
theorem Mr.ne {w : World} {base p b : Nat} {most many : Int} {L : List (Pl × Sv)} {R : Pl → List Rd} (h : Mr w base p b most many L R) : b ≠ p := by
  rintro rfl
  obtain ⟨es, clock, hb⟩ := h.tab.isMap
  rw [h.cells] at hb
  cases hb
/-- a manager, kept by what leaves its block, its map and its rows -/
theorem Mr.kept {w w' : World} {base p b : Nat} {most many : Int} {L : List (Pl × Sv)} {R : Pl → List Rd} (h : Mr w base p b most many L R) (hg : w.grownBy w' none) : Mr w' base p b most many L R where
  cells := (hg.block p (Array.getElem?_eq_some_iff.1 h.cells).1 (by simp)).trans h.cells
  tab := h.tab.kept hg (by simp)
  low := h.low
  rows := fun e he => (h.rows e he).grown hg (by simp)
  off := h.off
  good := h.good
set_option maxHeartbeats 8000000 in
set_option maxRecDepth 100000 in
theorem Note_bad (base p b : Nat) (most many : Int) (L : List (Pl × Sv)) (R : Pl → List Rd) (t : Int) (x : Rd) (w : World) (h : Mr w base p b most many L R) (hx : x.OK) (hbad : t < 1 ∨ mayB x = false) :
    Calls Tryz.prog 70 #[.pointer (some ⟨p, 0, none⟩), .int .i64 t, .agg #[.string x.t, .int .i64 x.k, .string x.f, .string x.u]] w fun e w' => e = .returned (.int .i64 1) ∧ Below w.heap.size w w' := by
  obtain ⟨w1, hw1⟩ : ∃ w1, w1 = w.alloc (.cells #[.string x.t, .int .i64 x.k, .string x.f, .string x.u] 108) := ⟨_, rfl⟩
  have B1 : Below w.heap.size w w1 := by rw [hw1]; exact boxed w x
  have N := none_calls p b w1 ((B1.cell (World.block_lt_of_cell? _ _ h.cell.2.1)).trans h.cell.2.1)
  have ob : w1.heap[w.heap.size]? = some (boxR x) := by rw [hw1]; exact heap_alloc_new w _
  obtain ⟨b0, b1, b2, b3⟩ := rd_cells ob
  have M := may_calls x w1
  by_cases ht : t < 1
  · go_enter Tryz.func70, Tryz.ntmps70
    go_wp2_with fail
    rw [← hw1]
    clear hw1
    refine N.mono ?_
    rintro e w' ⟨rfl, rfl⟩
    go_wp2
    go_ret
    exact ⟨rfl, B1⟩
  · have hm : mayB x = false := by rcases hbad with h | h; exact absurd h ht; exact h
    rw [hm] at M
    go_enter Tryz.func70, Tryz.ntmps70
    go_wp2_with fail
    rw [← hw1]
    clear hw1
    refine N.mono ?_
    rintro e w' ⟨rfl, rfl⟩
    go_wp2_with fail
    refine M.mono ?_
    rintro e w2 ⟨rfl, B2⟩
    go_wp2
    go_ret
    exact ⟨rfl, below_then B1 B1.size B2⟩
/-- what is left of a place's notes, with one more -/
def left (l : List Rd) (x : Rd) : List Rd := l.filter (fun y => !cov x y) ++ [x]
set_option maxHeartbeats 8000000 in
set_option maxRecDepth 100000 in
theorem Note_held (base p b : Nat) (most many : Int) (L : List (Pl × Sv)) (R : Pl → List Rd) (t : Int) (x : Rd) (w : World) (h : Mr w base p b most many L R) (hx : x.OK) (ht : 1 ≤ t) (hwf : (Lit.int .i64 t).wf = true) (hm : mayB x = true)
    (hl : (R (t, x.t)).length ≤ 65536) (hc : (R (t, x.t)).any (fun y => cov y x) = true) :
    Calls Tryz.prog 70 #[.pointer (some ⟨p, 0, none⟩), .int .i64 t, .agg #[.string x.t, .int .i64 x.k, .string x.f, .string x.u]] w fun e w' => e = .returned (.int .i64 0) ∧ Below w.heap.size w w' := by
  obtain ⟨w1, hw1⟩ : ∃ w1, w1 = w.alloc (.cells #[.string x.t, .int .i64 x.k, .string x.f, .string x.u] 108) := ⟨_, rfl⟩
  have B1 : Below w.heap.size w w1 := by rw [hw1]; exact boxed w x
  have N := none_calls p b w1 ((B1.cell (World.block_lt_of_cell? _ _ h.cell.2.1)).trans h.cell.2.1)
  have ob : w1.heap[w.heap.size]? = some (boxR x) := by rw [hw1]; exact heap_alloc_new w _
  obtain ⟨b0, b1, b2, b3⟩ := rd_cells ob
  have M := may_calls x w1
  have ht' : ¬ t < 1 := by omega
  rw [hm] at M
  go_enter Tryz.func70, Tryz.ntmps70
  go_wp2_with fail
  rw [← hw1]
  clear hw1
  refine N.mono ?_
  rintro e w' ⟨rfl, rfl⟩
  go_wp2_with fail
  refine M.mono ?_
  rintro e w2 ⟨rfl, B2⟩
  have B12 := below_then B1 B1.size B2
  obtain ⟨w3, hw3⟩ : ∃ w3, w3 = w2.alloc (.cells #[.int .i64 t, .string x.t] 156) := ⟨_, rfl⟩
  have B3 : Below w2.heap.size w2 w3 := by rw [hw3]; exact (Below.refl _ w2).alloc (Nat.le_refl _) _
  have B13 := below_then B12 B12.size B3
  have o3 : w3.heap[w2.heap.size]? = some (.cells #[.int .i64 t, .string x.t] 156 (0, 0)) := by rw [hw3]; exact heap_alloc_new w2 _
  have obx := (B2.block _ (Array.getElem?_eq_some_iff.1 ob).1).trans ob
  have obx3 := (B3.block _ (Array.getElem?_eq_some_iff.1 obx).1).trans obx
  obtain ⟨c0, c1, c2, c3⟩ := rd_cells obx
  have ok : okP (t, x.t) := ⟨hwf, Nat.le_trans hx.t (by decide)⟩
  have T3 : TabN w3 b L.length L := h.tab.kept (grown_of_below B13 none) (by simp)
  have p1 : w3.cell? ⟨p, 1, none⟩ = some (.map (some b)) := (B13.cell (World.block_lt_of_cell? _ _ h.cell.2.1)).trans h.cell.2.1
  have pl0 : w3.cell? ⟨w2.heap.size, 0, none⟩ = some (.int .i64 t) := cell_of_row w3 _ 0 _ 156 (0, 0) o3
  have pl1 : w3.cell? ⟨w2.heap.size, 1, none⟩ = some (.string x.t) := cell_of_row w3 _ 1 _ 156 (0, 0) o3
  have hlook := Tab.look1 (w := w3.drew) (t := 148) keyP valS Tryz.underlying148 (show TabN w3.drew b L.length L from T3.kept (drewG w3) (by simp)) (zero42 _) ok
  have hrow : RowR w3.drew base (mvS ((got L (t, x.t)).getD none)) (R (t, x.t)) := (h.row (t, x.t)).grown (grown_of_below (B13.grown (drewG w3) B13.size (by simp)) none) (by simp)
  generalize mvS ((got L (t, x.t)).getD none) = lv at hlook hrow
  unfold mkP at hlook
  have C := ContainsFunc_calls base lv (R (t, x.t)) (fun y => cov y x) 109 #[.pointer (some ⟨w.heap.size, 0, none⟩)] enters29 w3.drew hrow (by omega) ((pred29 x w.heap.size _ hx (h.goodAt _)).preds (show w3.drew.heap[w.heap.size]? = some (boxR x) from obx3))
  rw [hc] at C
  replace B13 := Aside0.mk B13
  replace T3 := Aside0.mk T3
  replace hrow := Aside0.mk hrow
  go_upto_region 6 with (fail)
  rw [← hw3]
  clear hw3
  go_region_held3 (fun W => W.cell? ⟨p, 1, none⟩ = some (.map (some b)) ∧ W.cell? ⟨w2.heap.size, 0, none⟩ = some (.int .i64 t) ∧ W.cell? ⟨w2.heap.size, 1, none⟩ = some (.string x.t)) (exact ⟨p1, pl0, pl1⟩) (fail)
  go_wp2_with fail
  refine C.mono ?_
  rintro e w4 ⟨rfl, B4⟩
  go_wp2
  go_ret
  have B13' := B13.out.grown (drewG w3) B13.out.size (by simp)
  exact ⟨rfl, below_then B13' B13'.size B4⟩
set_option maxHeartbeats 8000000 in
set_option maxRecDepth 100000 in
theorem Note_calls (base p b : Nat) (most many : Int) (L : List (Pl × Sv)) (R : Pl → List Rd) (t : Int) (x : Rd) (w : World) (h : Mr w base p b most many L R) (hx : x.OK) (ht : 1 ≤ t) (hwf : (Lit.int .i64 t).wf = true) (hm : mayB x = true)
    (hl : (R (t, x.t)).length ≤ 65536) (hL : L.length ≤ 65536) (hn0 : (R (t, x.t)).length ≤ many) (hn1 : many ≤ 65536) (hc : (R (t, x.t)).any (fun y => cov y x) = false) (hmost : many - (R (t, x.t)).length + (left (R (t, x.t)) x).length ≤ most) (hb0 : base ≤ w.heap.size) :
    Calls Tryz.prog 70 #[.pointer (some ⟨p, 0, none⟩), .int .i64 t, .agg #[.string x.t, .int .i64 x.k, .string x.f, .string x.u]] w fun e w' => e = .returned (.int .i64 0) ∧ ∃ b' s, Mr w' base p b' most (many - (R (t, x.t)).length + (left (R (t, x.t)) x).length) (upd L (t, x.t) (some s)) (fun q => if q = (t, x.t) then left (R (t, x.t)) x else R q) ∧ w.grownBy w' (some p) := by
  obtain ⟨w1, hw1⟩ : ∃ w1, w1 = w.alloc (.cells #[.string x.t, .int .i64 x.k, .string x.f, .string x.u] 108) := ⟨_, rfl⟩
  have B1 : Below w.heap.size w w1 := by rw [hw1]; exact boxed w x
  have N := none_calls p b w1 ((B1.cell (World.block_lt_of_cell? _ _ h.cell.2.1)).trans h.cell.2.1)
  have ob : w1.heap[w.heap.size]? = some (boxR x) := by rw [hw1]; exact heap_alloc_new w _
  obtain ⟨b0, b1, b2, b3⟩ := rd_cells ob
  have M := may_calls x w1
  have ht' : ¬ t < 1 := by omega
  rw [hm] at M
  go_enter Tryz.func70, Tryz.ntmps70
  go_wp2_with fail
  rw [← hw1]
  clear hw1
  refine N.mono ?_
  rintro e w' ⟨rfl, rfl⟩
  go_wp2_with fail
  refine M.mono ?_
  rintro e w2 ⟨rfl, B2⟩
  have B12 := below_then B1 B1.size B2
  obtain ⟨w3, hw3⟩ : ∃ w3, w3 = w2.alloc (.cells #[.int .i64 t, .string x.t] 156) := ⟨_, rfl⟩
  have B3 : Below w2.heap.size w2 w3 := by rw [hw3]; exact (Below.refl _ w2).alloc (Nat.le_refl _) _
  have B13 := below_then B12 B12.size B3
  have o3 : w3.heap[w2.heap.size]? = some (.cells #[.int .i64 t, .string x.t] 156 (0, 0)) := by rw [hw3]; exact heap_alloc_new w2 _
  have obx := (B2.block _ (Array.getElem?_eq_some_iff.1 ob).1).trans ob
  have obx3 := (B3.block _ (Array.getElem?_eq_some_iff.1 obx).1).trans obx
  obtain ⟨c0, c1, c2, c3⟩ := rd_cells obx
  have ok : okP (t, x.t) := ⟨hwf, Nat.le_trans hx.t (by decide)⟩
  have T3 : TabN w3 b L.length L := h.tab.kept (grown_of_below B13 none) (by simp)
  have p1 : w3.cell? ⟨p, 1, none⟩ = some (.map (some b)) := (B13.cell (World.block_lt_of_cell? _ _ h.cell.2.1)).trans h.cell.2.1
  have pl0 : w3.cell? ⟨w2.heap.size, 0, none⟩ = some (.int .i64 t) := cell_of_row w3 _ 0 _ 156 (0, 0) o3
  have pl1 : w3.cell? ⟨w2.heap.size, 1, none⟩ = some (.string x.t) := cell_of_row w3 _ 1 _ 156 (0, 0) o3
  have hlook := Tab.look1 (w := w3.drew) (t := 148) keyP valS Tryz.underlying148 (show TabN w3.drew b L.length L from T3.kept (drewG w3) (by simp)) (zero42 _) ok
  have hrow : RowR w3.drew base (mvS ((got L (t, x.t)).getD none)) (R (t, x.t)) := (h.row (t, x.t)).grown (grown_of_below (B13.grown (drewG w3) B13.size (by simp)) none) (by simp)
  generalize mvS ((got L (t, x.t)).getD none) = lv at hlook hrow
  unfold mkP at hlook
  have C := ContainsFunc_calls base lv (R (t, x.t)) (fun y => cov y x) 109 #[.pointer (some ⟨w.heap.size, 0, none⟩)] enters29 w3.drew hrow (by omega) ((pred29 x w.heap.size _ hx (h.goodAt _)).preds (show w3.drew.heap[w.heap.size]? = some (boxR x) from obx3))
  rw [hc] at C
  replace B13 := Aside0.mk B13
  replace T3 := Aside0.mk T3
  replace hrow := Aside0.mk hrow
  go_upto_region 6 with (fail)
  rw [← hw3]
  clear hw3
  go_region_held3 (fun W => W.cell? ⟨p, 1, none⟩ = some (.map (some b)) ∧ W.cell? ⟨w2.heap.size, 0, none⟩ = some (.int .i64 t) ∧ W.cell? ⟨w2.heap.size, 1, none⟩ = some (.string x.t)) (exact ⟨p1, pl0, pl1⟩) (fail)
  go_wp2_with fail
  refine C.mono ?_
  rintro e w4 ⟨rfl, B4⟩
  have R4 := hrow.out.grown (grown_of_below B4 none) (by simp)
  have CL := cloneR_calls w4 base lv _ R4 (by omega)
  go_wp2_with fail
  refine CL.mono ?_
  rintro e w5 ⟨v5, rfl, R5, B5⟩
  have obx5 := (below_then B4 B4.size B5).block w.heap.size (Array.getElem?_eq_some_iff.1 (show w3.drew.heap[w.heap.size]? = some (boxR x) from obx3)).1 |>.trans (show w3.drew.heap[w.heap.size]? = some (boxR x) from obx3)
  have hne5 : v5.ownBlock ≠ some w.heap.size := fun e => by
    have := (R5.typed _ e).1
    have := B4.size
    have := B13.out.size
    have e1 : w3.drew.heap.size = w3.heap.size := rfl
    have := B3.size
    have := B2.size
    have : w1.heap.size ≤ w2.heap.size := B2.size
    have : w.heap.size < w1.heap.size := (Array.getElem?_eq_some_iff.1 ob).1
    omega
  have D := DeleteFunc_calls w4.heap.size v5 _ (fun y => cov x y) 113 w.heap.size (boxR x) enters32 w5 R5 (by omega) obx5 hne5 (pred32 x w.heap.size _ hx (h.goodAt _))
  go_wp2_with fail
  refine D.mono ?_
  rintro e w6 ⟨v6, rfl, R6, G6, e6⟩
  have obx6 := (G6.block w.heap.size (Array.getElem?_eq_some_iff.1 obx5).1 (fun e => hne5 e.symm)).trans obx5
  obtain ⟨d0, d1, d2, d3⟩ := rd_cells obx6
  have hflen : ((R (t, x.t)).filter fun y => !cov x y).length ≤ 65536 := Nat.le_trans (List.length_filter_le _ _) hl
  obtain ⟨v7, w7, hrun, R7, G7⟩ := Lo.append (P := Tryz.prog) R6 (fun _ => rfl) cellsR_one 118 118 _ 56 Tryz.underlying118 info23 rfl (by omega) (by omega) x (by omega) (Nat.le_trans B5.size G6.size)
  have hw03 : w.heap.size ≤ w4.heap.size := by
    have := B4.size
    have := B13.out.size
    have e1 : w3.drew.heap.size = w3.heap.size := rfl
    omega
  have B4' : Below w.heap.size w w4 := below_then (B13.out.grown (drewG w3) B13.out.size (by simp)) (B13.out.grown (drewG w3) B13.out.size (by simp)).size B4
  have B5' : Below w.heap.size w w5 := below_then B4' B4'.size B5
  have B6' : Below w.heap.size w w6 := B5'.grown G6 B5'.size (fun k hk => by have := (R5.typed k hk).1; omega)
  have B7' : Below w.heap.size w w7 := B6'.grown G7 B6'.size (fun k hk => by have := (R6.typed k hk).1; omega)
  obtain ⟨A7, c7, rfl, hc7, hA7⟩ := R7.slice
  obtain ⟨g7, rfl, hg7⟩ := hA7 (by simp)
  have hlf : ((R (t, x.t)).filter fun y => !cov x y) ++ [x] = left (R (t, x.t)) x := rfl
  have hlfn : (left (R (t, x.t)) x).length ≤ 65537 := by rw [← hlf]; simp; omega
  have hlf1 : 1 ≤ (left (R (t, x.t)) x).length := by rw [← hlf]; simp
  rw [hlf] at R7 hrun hc7
  have T7 : TabN w7 b L.length L := h.tab.kept (grown_of_below B7' none) (by simp)
  have m0 : w7.cell? ⟨p, 0, none⟩ = some (.int .i64 most) := (B7'.cell (World.block_lt_of_cell? _ _ h.cell.1)).trans h.cell.1
  have m1 : w7.cell? ⟨p, 1, none⟩ = some (.map (some b)) := (B7'.cell (World.block_lt_of_cell? _ _ h.cell.2.1)).trans h.cell.2.1
  have m2 : w7.cell? ⟨p, 2, none⟩ = some (.int .i64 many) := (B7'.cell (World.block_lt_of_cell? _ _ h.cell.2.2)).trans h.cell.2.2
  have hlt23 : w2.heap.size < w3.heap.size := (Array.getElem?_eq_some_iff.1 o3).1
  have hs34 : w3.heap.size ≤ w4.heap.size := B4.size
  have pw7 : w7.heap[w2.heap.size]? = w3.heap[w2.heap.size]? := by
    have e4 : w4.heap[w2.heap.size]? = w3.heap[w2.heap.size]? := B4.block _ hlt23
    have e5 : w5.heap[w2.heap.size]? = w4.heap[w2.heap.size]? := B5.block _ (by omega)
    have e6' : w6.heap[w2.heap.size]? = w5.heap[w2.heap.size]? := G6.block _ (Nat.lt_of_lt_of_le (by omega) B5.size) (fun e => by have := (R5.typed _ e.symm).1; omega)
    have e7 : w7.heap[w2.heap.size]? = w6.heap[w2.heap.size]? := G7.block _ (Nat.lt_of_lt_of_le (by omega) (Nat.le_trans B5.size G6.size)) (fun e => by have := (R6.typed _ e.symm).1; omega)
    rw [e7, e6', e5, e4]
  have q0 : w7.cell? ⟨w2.heap.size, 0, none⟩ = some (.int .i64 t) := cell_of_row w7 _ 0 _ 156 (0, 0) (pw7.trans o3)
  have q1 : w7.cell? ⟨w2.heap.size, 1, none⟩ = some (.string x.t) := cell_of_row w7 _ 1 _ 156 (0, 0) (pw7.trans o3)
  obtain ⟨A0, c0', rfl, hc0, _⟩ := hrow.out.slice
  have CM := cloneMap_calls w7 b L.length L T7
  go_wp2_with (at_builtin; refine app_list rfl rfl rfl rfl hrun ?_)
  refine CM.mono ?_
  rintro e w8 ⟨rfl, T8, _, B8⟩
  obtain ⟨w9, hst, T9, G9⟩ := Tab.store (t := 148) keyP valS Tryz.underlying148 T8 (by simp only [maxLen]; omega) ok (some (g7, (left (R (t, x.t)) x).length, c7))
  unfold mkP mvS at hst
  dsimp only at hst
  have r0 := (B8.cell (World.block_lt_of_cell? _ _ q0)).trans q0
  have r1 := (B8.cell (World.block_lt_of_cell? _ _ q1)).trans q1
  have B8' : Below w.heap.size w w8 := below_then B7' B7'.size B8
  have B9' : Below w.heap.size w w9 := B8'.grown (turned_grown G9) B8'.size (fun k hk => by injection hk with hk; rw [← hk]; exact B7'.size)
  have n0 : w9.cell? ⟨p, 0, none⟩ = some (.int .i64 most) := (B9'.cell (World.block_lt_of_cell? _ _ h.cell.1)).trans h.cell.1
  have op9 : w9.heap[p]? = some (.cells #[.int .i64 most, .map (some b), .int .i64 many] 150 (0, 0)) := (B9'.block p (Array.getElem?_eq_some_iff.1 h.cells).1).trans h.cells
  have n1 := cell_of_row w9 p 1 _ 150 (0, 0) op9
  have n2 := cell_of_row w9 p 2 _ 150 (0, 0) op9
  have fz := blk_frozen op9
  have hmz : ¬ most < many - (R (t, x.t)).length + (left (R (t, x.t)) x).length := by omega
  go_wp2_with fail
  replace h := Aside0.mk h
  replace T9 := Aside0.mk T9
  replace B9' := Aside0.mk B9'
  replace R7 := Aside0.mk R7
  generalize hmm : many - (R (t, x.t)).length + (left (R (t, x.t)) x).length = mm at hmz ⊢
  go_loopw [10] (fun v wr => v = .int .i64 mm ∧ wr = w9) (fun _ _ => 0)
  case atStart => exact ⟨rfl, rfl⟩
  case round =>
    obtain ⟨rfl, rfl⟩ := hrel
    go_wp2
    go_ret
    rw [hmm]
    have hp : p < w.heap.size := (Array.getElem?_eq_some_iff.1 h.out.cells).1
    have GS : wr.grownBy ((wr.setCell ⟨p, 1, none⟩ (.map (some w7.heap.size))).setCell ⟨p, 2, none⟩ (.int .i64 mm)) (some p) := trans_grown (grown_set _ p _ _) (grown_set _ p _ _)
    have GW : w.grownBy ((wr.setCell ⟨p, 1, none⟩ (.map (some w7.heap.size))).setCell ⟨p, 2, none⟩ (.int .i64 mm)) (some p) := trans_grown (grown_of_below B9'.out _) GS
    have tidy := h.out.tab.tidy
    have hg7' : g7 < w7.heap.size := (R7.out.typed g7 rfl).2.1
    have hg7'' : w.heap.size ≤ g7 := Nat.le_trans hw03 (R7.out.typed g7 rfl).1
    have hb7 : w.heap.size ≤ w7.heap.size := B7'.size
    have RN := ((R7.out.grown (grown_of_below B8 none) (by simp)).grown (turned_grown G9) (fun k hk e => by injection hk with hk; injection e with e; have e : g7 = k := e; omega)).grown GS (fun k hk e => by injection hk with hk; injection e with e; have e : g7 = k := e; omega)
    refine ⟨rfl, w7.heap.size, (g7, (left (R (t, x.t)) x).length, c7), ⟨?_, ?_, h.out.low, ?_, ?_, ?_⟩, GW⟩
    · rw [blk_set (blk_set op9 1 _) 2 _]; rfl
    · exact T9.out.exact.kept GS (fun e => by injection e with e; omega)
    · intro e he
      rcases (upd_mem tidy _ _ e).1 he with rfl | ⟨h1, h2⟩
      · show RowR _ base _ (if (t, x.t) = (t, x.t) then left (R (t, x.t)) x else R (t, x.t))
        rw [if_pos rfl]
        exact RN.lower (Nat.le_trans hb0 hw03)
      · show RowR _ base _ (if e.1 = (t, x.t) then left (R (t, x.t)) x else R e.1)
        rw [if_neg h2]
        refine (h.out.rows e h1).grown GW (fun k hk e' => ?_)
        injection hk with hk
        subst hk
        obtain ⟨_, _, cells, hc⟩ := (h.out.rows e h1).typed _ e'
        rw [h.out.cells] at hc
        injection hc with hc
        injection hc with _ hc
        cases hc
    · intro q hq
      rw [got_upd tidy] at hq
      split at hq
      · cases hq
      · rename_i hne
        show (if q = (t, x.t) then left (R (t, x.t)) x else R q) = []
        rw [if_neg hne]
        exact h.out.off q hq
    · intro e he y hy
      rcases (upd_mem tidy _ _ e).1 he with rfl | ⟨h1, h2⟩
      · replace hy : y ∈ (if (t, x.t) = (t, x.t) then left (R (t, x.t)) x else R (t, x.t)) := hy
        rw [if_pos rfl] at hy
        unfold left at hy
        rcases List.mem_append.1 hy with hy | hy
        · exact h.out.goodAt _ y (List.mem_filter.1 hy).1
        · rw [List.mem_singleton.1 hy]; exact hx
      · replace hy : y ∈ (if e.1 = (t, x.t) then left (R (t, x.t)) x else R e.1) := hy
        rw [if_neg h2] at hy
        exact h.out.good e h1 y hy
end Go.Proofs.YthaoedfalkebbaaGreat
namespace Go.Proofs.YthaoedfalkebbaaGreat
open Go.RowKit Go.Maps Go.Sort Go.Lib Go.Proofs.YthaoedfalkebbaaGreatW.PrintWords Go.Proofs.YthaoedfalkebbaaGreatW.PrintLast Go.Proofs.YthaoedfalkebbaaGreatW.PrintMore
set_option linter.unusedVariables false
set_option linter.unusedSimpArgs false
set_option linter.unusedSectionVars false
/-! ### Len, Readers -/
set_option maxRecDepth 100000 in
theorem Len_calls (base p b : Nat) (most many : Int) (L : List (Pl × Sv)) (R : Pl → List Rd) (w : World) (h : Mr w base p b most many L R) :
    Calls Tryz.prog 61 #[.pointer (some ⟨p, 0, none⟩)] w fun e w' => e = .returned (.int .i64 many) ∧ w = w' := by
  obtain ⟨c0, c1, c2⟩ := h.cell
  have N := none_calls p b w c1
  go_enter Tryz.func61, Tryz.ntmps61
  go_wp2_with fail
  refine N.mono ?_
  rintro e w' ⟨rfl, rfl⟩
  go_wp2
  go_ret
  exact ⟨rfl, rfl⟩
def hitB (R : Pl → List Rd) (tab key : ByteArray) (e : Pl × Sv) : Bool := (e.1.2.toList == tab.toList) && (R e.1).any (fun y => holdB y key)
def readersOf (L : List (Pl × Sv)) (R : Pl → List Rd) (tab key : ByteArray) : List Int := rise ((L.filter (hitB R tab key)).map (·.1.1))
def rdK (tab key : ByteArray) : Rd := ⟨tab, 1, key, ⟨#[]⟩⟩
def RJ (w : World) (b r bx : Nat) (o : Obj) (L : List (Pl × Sv)) (R : Pl → List Rd) (tab key : ByteArray) (v : Value) (wr : World) : Prop :=
  ∃ vis rem : List (Pl × Sv), (vis ++ rem).Perm L ∧ RngN wr b r L.length L rem ∧ w.heap.size ≤ r ∧ dI.R 2 wr w.heap.size (fun k => r < k) v ((vis.filter (hitB R tab key)).map (·.1.1)) ∧ Below w.heap.size w wr ∧ wr.heap[bx]? = some o
set_option maxHeartbeats 8000000 in
set_option maxRecDepth 100000 in
theorem Readers_calls (base p b : Nat) (most many : Int) (L : List (Pl × Sv)) (R : Pl → List Rd) (tab key : ByteArray) (w : World) (h : Mr w base p b most many L R) (hL : L.length ≤ 65536) (hR : ∀ q, (R q).length ≤ 65536) :
    Calls Tryz.prog 47 #[.pointer (some ⟨p, 0, none⟩), .string tab, .string key] w fun e w' => ∃ v, e = .returned v ∧ dI.R 2 w' w.heap.size (fun _ => True) v (readersOf L R tab key) ∧ Below w.heap.size w w' := by
  obtain ⟨c0, c1, c2⟩ := h.cell
  have N := none_calls p b w c1
  obtain ⟨w1, hw1⟩ : ∃ w1, w1 = w.alloc (.cells #[.string tab, .int .i64 1, .string key, .string ⟨#[]⟩] 108) := ⟨_, rfl⟩
  have B1 : Below w.heap.size w w1 := by rw [hw1]; exact (Below.refl _ w).alloc (Nat.le_refl _) _
  have ob : w1.heap[w.heap.size]? = some (boxR (rdK tab key)) := by rw [hw1]; exact heap_alloc_new w _
  have hblt : b < w.heap.size := h.tab.lt
  have d1 : w1.cell? ⟨p, 1, none⟩ = some (.map (some b)) := (B1.cell (World.block_lt_of_cell? _ _ c1)).trans c1
  obtain ⟨w2, hrun, hRg, hg2, hs2⟩ := Tab.range (t := 148) keyP Tryz.underlying148 (h.tab.kept (grown_of_below B1 none) (by simp) : TabN w1 b L.length L)
  have hws : w1.heap.size = w.heap.size + 1 := by rw [hw1]; simp
  have hsz1 : w.heap.size ≤ w.heap.size + 1 := by omega
  rw [hws] at hrun hRg hs2
  replace hws := Aside0.mk hws
  go_enter Tryz.func47, Tryz.ntmps47
  go_wp2_with fail
  refine N.mono ?_
  rintro e w' ⟨rfl, rfl⟩
  go_upto_region 5 with (fail)
  rw [← hw1]
  clear hw1
  go_wp2_with fail
  go_loopw [8] (fun v wr => RJ w b (w.heap.size + 1) w.heap.size (boxR (rdK tab key)) L R tab key v wr) (fun _ wr => wr.rangeLeft b (w.heap.size + 1))
  case atStart =>
    exact ⟨[], L, List.Perm.refl _, hRg, hsz1, Kd.R_nil _ _ _ _ _, B1.grown hg2 B1.size (by simp), (hg2.block _ (Array.getElem?_eq_some_iff.1 ob).1 (by simp)).trans ob⟩
  case round =>
    obtain ⟨vis, rem, hp, hr, hle, hv, hB, hbox⟩ := hrel
    rcases hr.next keyP valS 0 with ⟨hnil, hrun1⟩ | ⟨a, sv, w3, hmem, hok, hrun1, hr3, hlt, hg3, hs3, hent⟩
    · subst hnil
      rw [List.append_nil] at hp
      have hlen : ((vis.filter (hitB R tab key)).map (·.1.1)).length ≤ 65536 := by
        rw [List.length_map]
        have h1 := List.length_filter_le (hitB R tab key) vis
        have h2 := hp.length_eq
        omega
      have hbase0 := Kd.R_base hv
      have S := rising_calls wr w.heap.size _ u8 _ hv (by omega)
      go_wp2_with fail
      refine S.mono ?_
      rintro e w4 ⟨v4, rfl, H4, G4, e4⟩
      go_wp2
      go_ret
      refine ⟨_, rfl, ?_, hB.grown G4 hB.size (fun k hk => hbase0 k hk)⟩
      have : readersOf L R tab key = rise ((vis.filter (hitB R tab key)).map (·.1.1)) := rise_congr (fun x => ((hp.symm.filter _).map _).mem_iff)
      rw [this]
      exact ⟨fun _ _ => trivial, H4.2⟩
    · unfold mkP at hrun1 hent
      have hB3 : Below w.heap.size w w3 := hB.grown hg3 hB.size (fun k e => by injection e with e; omega)
      have hv3 : dI.R 2 w3 w.heap.size (fun k => w.heap.size + 1 < k) u8 ((vis.filter (hitB R tab key)).map (·.1.1)) := Kd.R_grown hv hg3 (fun k hk e => by injection e with e; omega)
      obtain ⟨W, hW⟩ : ∃ W, W = w3.alloc (.cells #[.int .i64 a.1, .string a.2] 156) := ⟨_, rfl⟩
      have BA : Below w3.heap.size w3 W := by rw [hW]; exact (Below.refl _ w3).alloc (Nat.le_refl _) _
      have hrl : w.heap.size + 1 < wr.heap.size := hr.lt
      have hbox3 : w3.heap[w.heap.size]? = some (boxR (rdK tab key)) := (hg3.block _ (by omega) (fun e => by injection e with e; omega)).trans hbox
      have hboxW := (BA.block _ (Array.getElem?_eq_some_iff.1 hbox3).1).trans hbox3
      have hop : W.heap[wr.heap.size]? = some (.cells #[.int .i64 a.1, .string a.2] 156 (0, 0)) := by rw [hW, ← hs3]; exact heap_alloc_new w3 _
      have p0 := cell_of_row W _ 0 _ 156 (0, 0) hop
      have p1 := cell_of_row W _ 1 _ 156 (0, 0) hop
      have BW := below_then hB3 hB3.size BA
      have hmL : (a, sv) ∈ L := hp.mem_iff.1 (List.mem_append_right _ hmem)
      have hrow : RowR W base (mvS sv) (R a) := (h.rows _ hmL).grown (grown_of_below BW none) (by simp)
      have C := ContainsFunc_calls base (mvS sv) (R a) (fun y => holdB y key) 89 #[.pointer (some ⟨w.heap.size, 0, none⟩)] enters35 W hrow (by have := hR a; omega) ((pred35 (rdK tab key) w.heap.size _).preds hboxW)
      have hlen : ((vis.filter (hitB R tab key)).map (·.1.1)).length ≤ 65536 := by
        rw [List.length_map]
        have h1 := List.length_filter_le (hitB R tab key) vis
        have h2 := hp.length_eq
        rw [List.length_append] at h2
        omega
      have hbase0 := Kd.R_base hv3
      have out : hitB R tab key (a, sv) = false → ∀ V, Below W.heap.size W V → RJ w b (w.heap.size + 1) w.heap.size (boxR (rdK tab key)) L R tab key u8 V ∧ V.rangeLeft b (w.heap.size + 1) < wr.rangeLeft b (w.heap.size + 1) := by
        intro hno V BV
        have B3V := below_then BA BA.size BV
        obtain ⟨hr6, el⟩ := hr3.kept (grown_of_below B3V none) (by simp) (by simp)
        refine ⟨⟨vis ++ [(a, sv)], _, perm_next hr.apart hp hmem, hr6, hsz1, ?_, below_then hB3 hB3.size B3V, (B3V.block _ (Array.getElem?_eq_some_iff.1 hbox3).1).trans hbox3⟩, by rw [el]; exact hlt⟩
        rw [List.filter_append, List.map_append]
        simpa [hno] using Kd.R_below hv3 B3V
      have inn : hitB R tab key (a, sv) = true → ∀ V, Below W.heap.size W V → ∀ v1 w6, dI.R 2 w6 w.heap.size (fun k => w.heap.size + 1 < k) v1 ((vis.filter (hitB R tab key)).map (·.1.1) ++ [a.1]) → Below w.heap.size w w6 → V.grownBy w6 u8.ownBlock → RJ w b (w.heap.size + 1) w.heap.size (boxR (rdK tab key)) L R tab key v1 w6 ∧ w6.rangeLeft b (w.heap.size + 1) < wr.rangeLeft b (w.heap.size + 1) := by
        intro hyes V BV v1 w6 H6 B6 G6
        have B3V := below_then BA BA.size BV
        obtain ⟨hr6, el⟩ := hr3.kept (grown_of_below B3V none) (by simp) (by simp)
        obtain ⟨hr7, el2⟩ := hr6.kept G6 (fun e => by have := hbase0 _ e.symm; omega) (fun e => by have := hv3.1 _ e.symm; omega)
        have bV := (B3V.block _ (Array.getElem?_eq_some_iff.1 hbox3).1).trans hbox3
        refine ⟨⟨vis ++ [(a, sv)], _, perm_next hr.apart hp hmem, hr7, hsz1, ?_, B6, (G6.block _ (Array.getElem?_eq_some_iff.1 bV).1 (fun e => by have := hv3.1 _ e.symm; omega)).trans bV⟩, by rw [el2, el]; exact hlt⟩
        rw [List.filter_append, List.map_append]
        simpa [hyes] using H6
      generalize hh : (R a).any (fun y => holdB y key) = hit at C
      replace h := Aside0.mk h
      replace hboxW := Aside0.mk hboxW
      replace BW := Aside0.mk BW
      replace hrow := Aside0.mk hrow
      go_upto_region 8 with (fail)
      rw [← hW]
      clear hW
      have hszW : wr.heap.size < W.heap.size := (Array.getElem?_eq_some_iff.1 hop).1
      go_wp2_with (first | (go_at_call 88; refine C.mono ?_; rintro e w5 ⟨rfl, B5⟩; have s0 := (B5.cell (World.block_lt_of_cell? _ _ p0)).trans p0; have hsz5 := B5.size) | (at_builtin; refine appI (v := u8) rfl rfl rfl rfl (Kd.R_below hv3 (below_then BA BA.size B5)) (below_then hB3 hB3.size (below_then BA BA.size B5)) hlen rfl (fun k hk => by omega) ?_; intro v1 w6 H6 B6 G6))
      all_goals first
        | (refine out ?_ _ B5; simp [hitB, *]; done)
        | (refine out ?_ _ (Below.refl _ _); simp [hitB, *]; done)
        | (refine inn ?_ _ B5 _ _ H6 B6 G6; simp [hitB, *]; done)
end Go.Proofs.YthaoedfalkebbaaGreat
namespace Go.Proofs.YthaoedfalkebbaaGreat
open Go.ChangeShapes Go.WideShapes Go.ChangeAt Go.RowKit Go.Proofs.YthaoedfalkebbaaGreatW.PrintWords Go.Proofs.YthaoedfalkebbaaGreatW.PrintLast Go.Proofs.YthaoedfalkebbaaGreatW.PrintMore
set_option linter.unusedVariables false
set_option linter.unusedSimpArgs false
set_option linter.unusedSectionVars false
/-! ### a note as it came; SireadCovers -/
section
variable {H : Type} {enc : TypeId × Value → H} {w : World} {base : Nat} {spare : Nat → Bool} {held : Bool}
set_option maxRecDepth 100000 in
theorem opens_rd {fuel : Nat} {cs : List Value} {y : DataW H × List MemPlace} (h : DataW.trod enc Tryz.prog w base spare held fuel 108 cs = some y) (hl : Light Tryz.prog 108 y.1) : ∃ a : Rd, cs = [.string a.t, .int .i64 a.k, .string a.f, .string a.u] ∧ a.OK := by
  obtain ⟨hc, hf⟩ := opens_fields Tryz.underlying108 h hl
  have hc2 : cs.length = 4 := hc.trans (by kernel_rfl)
  match cs, hc2 with
  | [v0, v1, v2, v3], _ =>
    have f0 : FldAt enc Tryz.prog w base spare held [v0, v1, v2, v3] 9 0 := hf 0 _ rfl
    obtain ⟨n0, y0, t0, g0⟩ := f0
    have f1 : FldAt enc Tryz.prog w base spare held [v0, v1, v2, v3] 3 1 := hf 1 _ rfl
    obtain ⟨n1, y1, t1, g1⟩ := f1
    have f2 : FldAt enc Tryz.prog w base spare held [v0, v1, v2, v3] 9 2 := hf 2 _ rfl
    obtain ⟨n2, y2, t2, g2⟩ := f2
    have f3 : FldAt enc Tryz.prog w base spare held [v0, v1, v2, v3] 9 3 := hf 3 _ rfl
    obtain ⟨n3, y3, t3, g3⟩ := f3
    have k3 : Tryz.prog.cellsOf 3 = 1 := by kernel_rfl
    simp only [k3, cells9, List.drop_zero, List.drop_succ_cons, List.take_succ_cons, List.take_zero] at t0 t1 t2 t3
    obtain ⟨a0, e0, w0⟩ := opens_string Tryz.underlying9 _ _ _ t0 g0
    obtain ⟨a1, e1, w1⟩ := opens_int (k := .i64) Tryz.underlying3 _ _ _ t1 g1
    obtain ⟨a2, e2, w2⟩ := opens_string Tryz.underlying9 _ _ _ t2 g2
    obtain ⟨a3, e3, w3⟩ := opens_string Tryz.underlying9 _ _ _ t3 g3
    cases e0; cases e1; cases e2; cases e3
    exact ⟨⟨a0, a1, a2, a3⟩, rfl, ⟨w0, w1, w2, w3⟩⟩
set_option maxRecDepth 100000 in
theorem open_rdp {ts : List TypeId} {ds : List (DataW H)} (hsz : (DataW.weightsEach Tryz.prog ts ds).all (· ≤ reachBytes) = true) {j : Nat} {r : Reach} {b0 : Nat} {v : Value} {d : DataW H} {p : List MemPlace} (ht : ts[j]? = some 108) (hd : ds[j]? = some d)
    (hv : Value.okWide Tryz.prog w r b0 108 v) (h : DataW.Trod enc Tryz.prog w base spare held 108 v d p) : ∃ x : Rd, v = mkR x ∧ x.OK := by
  obtain ⟨ca, rfl, hs⟩ := okWide_struct Tryz.underlying108 hv
  obtain ⟨fuel, hf⟩ := h
  obtain ⟨x, e, hx⟩ := opens_rd hf (light_of hsz ht hd)
  refine ⟨x, ?_, hx⟩
  have e' : ca.toList = [.string x.t, .int .i64 x.k, .string x.f, .string x.u] := e
  rw [← Array.toArray_toList (xs := ca), e']
end
theorem two_at {V : World} {g h : Nat} {a b : Rd} (oa : V.heap[g]? = some (boxR a)) (ob : V.heap[h]? = some (boxR b)) :
    V.cell? ⟨g, 0, none⟩ = some (.string a.t) ∧ V.cell? ⟨g, 1, none⟩ = some (.int .i64 a.k) ∧ V.cell? ⟨g, 2, none⟩ = some (.string a.f) ∧ V.cell? ⟨g, 3, none⟩ = some (.string a.u) ∧ V.cell? ⟨h, 0, none⟩ = some (.string b.t) ∧ V.cell? ⟨h, 1, none⟩ = some (.int .i64 b.k) ∧ V.cell? ⟨h, 2, none⟩ = some (.string b.f) ∧ V.cell? ⟨h, 3, none⟩ = some (.string b.u) := by
  obtain ⟨a0, a1, a2, a3⟩ := rd_cells oa
  obtain ⟨b0, b1, b2, b3⟩ := rd_cells ob
  exact ⟨a0, a1, a2, a3, b0, b1, b2, b3⟩
end Go.Proofs.YthaoedfalkebbaaGreat
