import Derived.Test.YteikmnokmcnmcaaSJ
namespace Go.Proofs.Yteikmnokmcnmcaa
open Go.RowKit Go.Maps Go.Sort Go.Lib Go.Proofs.YteikmnokmcnmcaaW.PrintWords Go.Proofs.YteikmnokmcnmcaaW.PrintLast Go.Proofs.YteikmnokmcnmcaaW.PrintMore
set_option linter.unusedVariables false
set_option linter.unusedSimpArgs false
set_option linter.unusedSectionVars false
/-! ### Note -/
theorem Mr.row {w : World} {base p b : Nat} {most many : Int} {L : List (Pl × Sv)} {R : Pl → List Rd} (h : Mr w base p b most many L R) (q : Pl) : RowR w base (mvS ((got L q).getD none)) (R q) := by
  cases hg : got L q with
  | none => rw [h.off q hg]; exact Lo.nil _ _
  | some s => exact h.rows (q, s) (got_mem hg)
theorem Mr.goodAt {w : World} {base p b : Nat} {most many : Int} {L : List (Pl × Sv)} {R : Pl → List Rd} (h : Mr w base p b most many L R) (q : Pl) : ∀ x ∈ R q, x.OK := by
  cases hg : got L q with
  | none => rw [h.off q hg]; intro x hx; cases hx
  | some s => exact h.good (q, s) (got_mem hg)
theorem Mr.ne {w : World} {base p b : Nat} {most many : Int} {L : List (Pl × Sv)} {R : Pl → List Rd} (h : Mr w base p b most many L R) : b ≠ p := by
  rintro rfl
  obtain ⟨es, clock, hb⟩ := h.tab.isMap
  rw [h.cells] at hb
  cases hb
/-- a manager, kept by what leaves its block, its map and its rows -/
theorem Mr.kept {w w' : World} {base p b : Nat} {most many : Int} {L : List (Pl × Sv)} {R : Pl → List Rd} (h : Mr w base p b most many L R) (hg : w.grownBy w' none) : Mr w' base p b most many L R where
  cells := (hg.block p (Array.getElem?_eq_some_iff.1 h.cells).1 (by simp)).trans h.cells
  tab := h.tab.kept hg (by simp)
  low := h.low
  rows := fun e he => (h.rows e he).grown hg (by simp)
  off := h.off
  good := h.good
set_option maxHeartbeats 8000000 in
set_option maxRecDepth 100000 in
theorem Note_bad (base p b : Nat) (most many : Int) (L : List (Pl × Sv)) (R : Pl → List Rd) (t : Int) (x : Rd) (w : World) (h : Mr w base p b most many L R) (hx : x.OK) (hbad : t < 1 ∨ mayB x = false) :
    Calls Try.prog 12 #[.pointer (some ⟨p, 0, none⟩), .int .i64 t, .agg #[.string x.t, .int .i64 x.k, .string x.f, .string x.u]] w fun e w' => e = .returned (.int .i64 1) ∧ Below w.heap.size w w' := by
  obtain ⟨w1, hw1⟩ : ∃ w1, w1 = w.alloc (.cells #[.string x.t, .int .i64 x.k, .string x.f, .string x.u] 23) := ⟨_, rfl⟩
  have B1 : Below w.heap.size w w1 := by rw [hw1]; exact boxed w x
  have N := none_calls p b w1 ((B1.cell (World.block_lt_of_cell? _ _ h.cell.2.1)).trans h.cell.2.1)
  have ob : w1.heap[w.heap.size]? = some (boxR x) := by rw [hw1]; exact heap_alloc_new w _
  obtain ⟨b0, b1, b2, b3⟩ := rd_cells ob
  have M := may_calls x w1
  by_cases ht : t < 1
  · go_enter Try.func12, Try.ntmps12
    go_wp2_with fail
    rw [← hw1]
    clear hw1
    refine N.mono ?_
    rintro e w' ⟨rfl, rfl⟩
    go_wp2
    go_ret
    exact ⟨rfl, B1⟩
  · have hm : mayB x = false := by rcases hbad with h | h; exact absurd h ht; exact h
    rw [hm] at M
    go_enter Try.func12, Try.ntmps12
    go_wp2_with fail
    rw [← hw1]
    clear hw1
    refine N.mono ?_
    rintro e w' ⟨rfl, rfl⟩
    go_wp2_with fail
    refine M.mono ?_
    rintro e w2 ⟨rfl, B2⟩
    go_wp2
    go_ret
    exact ⟨rfl, below_then B1 B1.size B2⟩
/-- what is left of a place's notes, with one more -/
def left (l : List Rd) (x : Rd) : List Rd := l.filter (fun y => !cov x y) ++ [x]
set_option maxHeartbeats 8000000 in
set_option maxRecDepth 100000 in
theorem Note_held (base p b : Nat) (most many : Int) (L : List (Pl × Sv)) (R : Pl → List Rd) (t : Int) (x : Rd) (w : World) (h : Mr w base p b most many L R) (hx : x.OK) (ht : 1 ≤ t) (hwf : (Lit.int .i64 t).wf = true) (hm : mayB x = true)
    (hl : (R (t, x.t)).length ≤ 65536) (hc : (R (t, x.t)).any (fun y => cov y x) = true) :
    Calls Try.prog 12 #[.pointer (some ⟨p, 0, none⟩), .int .i64 t, .agg #[.string x.t, .int .i64 x.k, .string x.f, .string x.u]] w fun e w' => e = .returned (.int .i64 0) ∧ Below w.heap.size w w' := by
  obtain ⟨w1, hw1⟩ : ∃ w1, w1 = w.alloc (.cells #[.string x.t, .int .i64 x.k, .string x.f, .string x.u] 23) := ⟨_, rfl⟩
  have B1 : Below w.heap.size w w1 := by rw [hw1]; exact boxed w x
  have N := none_calls p b w1 ((B1.cell (World.block_lt_of_cell? _ _ h.cell.2.1)).trans h.cell.2.1)
  have ob : w1.heap[w.heap.size]? = some (boxR x) := by rw [hw1]; exact heap_alloc_new w _
  obtain ⟨b0, b1, b2, b3⟩ := rd_cells ob
  have M := may_calls x w1
  have ht' : ¬ t < 1 := by omega
  rw [hm] at M
  go_enter Try.func12, Try.ntmps12
  go_wp2_with fail
  rw [← hw1]
  clear hw1
  refine N.mono ?_
  rintro e w' ⟨rfl, rfl⟩
  go_wp2_with fail
  refine M.mono ?_
  rintro e w2 ⟨rfl, B2⟩
  have B12 := below_then B1 B1.size B2
  obtain ⟨w3, hw3⟩ : ∃ w3, w3 = w2.alloc (.cells #[.int .i64 t, .string x.t] 62) := ⟨_, rfl⟩
  have B3 : Below w2.heap.size w2 w3 := by rw [hw3]; exact (Below.refl _ w2).alloc (Nat.le_refl _) _
  have B13 := below_then B12 B12.size B3
  have o3 : w3.heap[w2.heap.size]? = some (.cells #[.int .i64 t, .string x.t] 62 (0, 0)) := by rw [hw3]; exact heap_alloc_new w2 _
  have obx := (B2.block _ (Array.getElem?_eq_some_iff.1 ob).1).trans ob
  have obx3 := (B3.block _ (Array.getElem?_eq_some_iff.1 obx).1).trans obx
  obtain ⟨c0, c1, c2, c3⟩ := rd_cells obx
  have ok : okP (t, x.t) := ⟨hwf, Nat.le_trans hx.t (by decide)⟩
  have T3 : TabN w3 b L.length L := h.tab.kept (grown_of_below B13 none) (by simp)
  have p1 : w3.cell? ⟨p, 1, none⟩ = some (.map (some b)) := (B13.cell (World.block_lt_of_cell? _ _ h.cell.2.1)).trans h.cell.2.1
  have pl0 : w3.cell? ⟨w2.heap.size, 0, none⟩ = some (.int .i64 t) := cell_of_row w3 _ 0 _ 62 (0, 0) o3
  have pl1 : w3.cell? ⟨w2.heap.size, 1, none⟩ = some (.string x.t) := cell_of_row w3 _ 1 _ 62 (0, 0) o3
  have hlook := Tab.look1 (w := w3.drew) (t := 53) keyP valS Try.underlying53 (show TabN w3.drew b L.length L from T3.kept (drewG w3) (by simp)) (zero42 _) ok
  have hrow : RowR w3.drew base (mvS ((got L (t, x.t)).getD none)) (R (t, x.t)) := (h.row (t, x.t)).grown (grown_of_below (B13.grown (drewG w3) B13.size (by simp)) none) (by simp)
  generalize mvS ((got L (t, x.t)).getD none) = lv at hlook hrow
  unfold mkP at hlook
  have C := ContainsFunc_calls base lv (R (t, x.t)) (fun y => cov y x) 29 #[.pointer (some ⟨w.heap.size, 0, none⟩)] enters29 w3.drew hrow (by omega) ((pred29 x w.heap.size _ hx (h.goodAt _)).preds (show w3.drew.heap[w.heap.size]? = some (boxR x) from obx3))
  rw [hc] at C
  replace B13 := Aside0.mk B13
  replace T3 := Aside0.mk T3
  replace hrow := Aside0.mk hrow
  go_upto_region 6 with (fail)
  rw [← hw3]
  clear hw3
  go_region_held3 (fun W => W.cell? ⟨p, 1, none⟩ = some (.map (some b)) ∧ W.cell? ⟨w2.heap.size, 0, none⟩ = some (.int .i64 t) ∧ W.cell? ⟨w2.heap.size, 1, none⟩ = some (.string x.t)) (exact ⟨p1, pl0, pl1⟩) (fail)
  go_wp2_with fail
  refine C.mono ?_
  rintro e w4 ⟨rfl, B4⟩
  go_wp2
  go_ret
  have B13' := B13.out.grown (drewG w3) B13.out.size (by simp)
  exact ⟨rfl, below_then B13' B13'.size B4⟩
set_option maxHeartbeats 8000000 in
set_option maxRecDepth 100000 in
theorem Note_calls (base p b : Nat) (most many : Int) (L : List (Pl × Sv)) (R : Pl → List Rd) (t : Int) (x : Rd) (w : World) (h : Mr w base p b most many L R) (hx : x.OK) (ht : 1 ≤ t) (hwf : (Lit.int .i64 t).wf = true) (hm : mayB x = true)
    (hl : (R (t, x.t)).length ≤ 65536) (hL : L.length ≤ 65536) (hn0 : (R (t, x.t)).length ≤ many) (hn1 : many ≤ 65536) (hc : (R (t, x.t)).any (fun y => cov y x) = false) (hmost : many - (R (t, x.t)).length + (left (R (t, x.t)) x).length ≤ most) (hb0 : base ≤ w.heap.size) :
    Calls Try.prog 12 #[.pointer (some ⟨p, 0, none⟩), .int .i64 t, .agg #[.string x.t, .int .i64 x.k, .string x.f, .string x.u]] w fun e w' => e = .returned (.int .i64 0) ∧ ∃ b' s, Mr w' base p b' most (many - (R (t, x.t)).length + (left (R (t, x.t)) x).length) (upd L (t, x.t) (some s)) (fun q => if q = (t, x.t) then left (R (t, x.t)) x else R q) ∧ w.grownBy w' (some p) := by
  obtain ⟨w1, hw1⟩ : ∃ w1, w1 = w.alloc (.cells #[.string x.t, .int .i64 x.k, .string x.f, .string x.u] 23) := ⟨_, rfl⟩
  have B1 : Below w.heap.size w w1 := by rw [hw1]; exact boxed w x
  have N := none_calls p b w1 ((B1.cell (World.block_lt_of_cell? _ _ h.cell.2.1)).trans h.cell.2.1)
  have ob : w1.heap[w.heap.size]? = some (boxR x) := by rw [hw1]; exact heap_alloc_new w _
  obtain ⟨b0, b1, b2, b3⟩ := rd_cells ob
  have M := may_calls x w1
  have ht' : ¬ t < 1 := by omega
  rw [hm] at M
  go_enter Try.func12, Try.ntmps12
  go_wp2_with fail
  rw [← hw1]
  clear hw1
  refine N.mono ?_
  rintro e w' ⟨rfl, rfl⟩
  go_wp2_with fail
  refine M.mono ?_
  rintro e w2 ⟨rfl, B2⟩
  have B12 := below_then B1 B1.size B2
  obtain ⟨w3, hw3⟩ : ∃ w3, w3 = w2.alloc (.cells #[.int .i64 t, .string x.t] 62) := ⟨_, rfl⟩
  have B3 : Below w2.heap.size w2 w3 := by rw [hw3]; exact (Below.refl _ w2).alloc (Nat.le_refl _) _
  have B13 := below_then B12 B12.size B3
  have o3 : w3.heap[w2.heap.size]? = some (.cells #[.int .i64 t, .string x.t] 62 (0, 0)) := by rw [hw3]; exact heap_alloc_new w2 _
  have obx := (B2.block _ (Array.getElem?_eq_some_iff.1 ob).1).trans ob
  have obx3 := (B3.block _ (Array.getElem?_eq_some_iff.1 obx).1).trans obx
  obtain ⟨c0, c1, c2, c3⟩ := rd_cells obx
  have ok : okP (t, x.t) := ⟨hwf, Nat.le_trans hx.t (by decide)⟩
  have T3 : TabN w3 b L.length L := h.tab.kept (grown_of_below B13 none) (by simp)
  have p1 : w3.cell? ⟨p, 1, none⟩ = some (.map (some b)) := (B13.cell (World.block_lt_of_cell? _ _ h.cell.2.1)).trans h.cell.2.1
  have pl0 : w3.cell? ⟨w2.heap.size, 0, none⟩ = some (.int .i64 t) := cell_of_row w3 _ 0 _ 62 (0, 0) o3
  have pl1 : w3.cell? ⟨w2.heap.size, 1, none⟩ = some (.string x.t) := cell_of_row w3 _ 1 _ 62 (0, 0) o3
  have hlook := Tab.look1 (w := w3.drew) (t := 53) keyP valS Try.underlying53 (show TabN w3.drew b L.length L from T3.kept (drewG w3) (by simp)) (zero42 _) ok
  have hrow : RowR w3.drew base (mvS ((got L (t, x.t)).getD none)) (R (t, x.t)) := (h.row (t, x.t)).grown (grown_of_below (B13.grown (drewG w3) B13.size (by simp)) none) (by simp)
  generalize mvS ((got L (t, x.t)).getD none) = lv at hlook hrow
  unfold mkP at hlook
  have C := ContainsFunc_calls base lv (R (t, x.t)) (fun y => cov y x) 29 #[.pointer (some ⟨w.heap.size, 0, none⟩)] enters29 w3.drew hrow (by omega) ((pred29 x w.heap.size _ hx (h.goodAt _)).preds (show w3.drew.heap[w.heap.size]? = some (boxR x) from obx3))
  rw [hc] at C
  replace B13 := Aside0.mk B13
  replace T3 := Aside0.mk T3
  replace hrow := Aside0.mk hrow
  go_upto_region 6 with (fail)
  rw [← hw3]
  clear hw3
  go_region_held3 (fun W => W.cell? ⟨p, 1, none⟩ = some (.map (some b)) ∧ W.cell? ⟨w2.heap.size, 0, none⟩ = some (.int .i64 t) ∧ W.cell? ⟨w2.heap.size, 1, none⟩ = some (.string x.t)) (exact ⟨p1, pl0, pl1⟩) (fail)
  go_wp2_with fail
  refine C.mono ?_
  rintro e w4 ⟨rfl, B4⟩
  have R4 := hrow.out.grown (grown_of_below B4 none) (by simp)
  have CL := cloneR_calls w4 base lv _ R4 (by omega)
  go_wp2_with fail
  refine CL.mono ?_
  rintro e w5 ⟨v5, rfl, R5, B5⟩
  have obx5 := (below_then B4 B4.size B5).block w.heap.size (Array.getElem?_eq_some_iff.1 (show w3.drew.heap[w.heap.size]? = some (boxR x) from obx3)).1 |>.trans (show w3.drew.heap[w.heap.size]? = some (boxR x) from obx3)
  have hne5 : v5.ownBlock ≠ some w.heap.size := fun e => by
    have := (R5.typed _ e).1
    have := B4.size
    have := B13.out.size
    have e1 : w3.drew.heap.size = w3.heap.size := rfl
    have := B3.size
    have := B2.size
    have : w1.heap.size ≤ w2.heap.size := B2.size
    have : w.heap.size < w1.heap.size := (Array.getElem?_eq_some_iff.1 ob).1
    omega
  have D := DeleteFunc_calls w4.heap.size v5 _ (fun y => cov x y) 32 w.heap.size (boxR x) enters32 w5 R5 (by omega) obx5 hne5 (pred32 x w.heap.size _ hx (h.goodAt _))
  go_wp2_with fail
  refine D.mono ?_
  rintro e w6 ⟨v6, rfl, R6, G6, e6⟩
  have obx6 := (G6.block w.heap.size (Array.getElem?_eq_some_iff.1 obx5).1 (fun e => hne5 e.symm)).trans obx5
  obtain ⟨d0, d1, d2, d3⟩ := rd_cells obx6
  have hflen : ((R (t, x.t)).filter fun y => !cov x y).length ≤ 65536 := Nat.le_trans (List.length_filter_le _ _) hl
  obtain ⟨v7, w7, hrun, R7, G7⟩ := Lo.append (P := Try.prog) R6 (fun _ => rfl) cellsR_one 42 42 _ 56 Try.underlying42 info23 rfl (by omega) (by omega) x (by omega) (Nat.le_trans B5.size G6.size)
  have hw03 : w.heap.size ≤ w4.heap.size := by
    have := B4.size
    have := B13.out.size
    have e1 : w3.drew.heap.size = w3.heap.size := rfl
    omega
  have B4' : Below w.heap.size w w4 := below_then (B13.out.grown (drewG w3) B13.out.size (by simp)) (B13.out.grown (drewG w3) B13.out.size (by simp)).size B4
  have B5' : Below w.heap.size w w5 := below_then B4' B4'.size B5
  have B6' : Below w.heap.size w w6 := B5'.grown G6 B5'.size (fun k hk => by have := (R5.typed k hk).1; omega)
  have B7' : Below w.heap.size w w7 := B6'.grown G7 B6'.size (fun k hk => by have := (R6.typed k hk).1; omega)
  obtain ⟨A7, c7, rfl, hc7, hA7⟩ := R7.slice
  obtain ⟨g7, rfl, hg7⟩ := hA7 (by simp)
  have hlf : ((R (t, x.t)).filter fun y => !cov x y) ++ [x] = left (R (t, x.t)) x := rfl
  have hlfn : (left (R (t, x.t)) x).length ≤ 65537 := by rw [← hlf]; simp; omega
  have hlf1 : 1 ≤ (left (R (t, x.t)) x).length := by rw [← hlf]; simp
  rw [hlf] at R7 hrun hc7
  have T7 : TabN w7 b L.length L := h.tab.kept (grown_of_below B7' none) (by simp)
  have m0 : w7.cell? ⟨p, 0, none⟩ = some (.int .i64 most) := (B7'.cell (World.block_lt_of_cell? _ _ h.cell.1)).trans h.cell.1
  have m1 : w7.cell? ⟨p, 1, none⟩ = some (.map (some b)) := (B7'.cell (World.block_lt_of_cell? _ _ h.cell.2.1)).trans h.cell.2.1
  have m2 : w7.cell? ⟨p, 2, none⟩ = some (.int .i64 many) := (B7'.cell (World.block_lt_of_cell? _ _ h.cell.2.2)).trans h.cell.2.2
  have hlt23 : w2.heap.size < w3.heap.size := (Array.getElem?_eq_some_iff.1 o3).1
  have hs34 : w3.heap.size ≤ w4.heap.size := B4.size
  have pw7 : w7.heap[w2.heap.size]? = w3.heap[w2.heap.size]? := by
    have e4 : w4.heap[w2.heap.size]? = w3.heap[w2.heap.size]? := B4.block _ hlt23
    have e5 : w5.heap[w2.heap.size]? = w4.heap[w2.heap.size]? := B5.block _ (by omega)
    have e6' : w6.heap[w2.heap.size]? = w5.heap[w2.heap.size]? := G6.block _ (Nat.lt_of_lt_of_le (by omega) B5.size) (fun e => by have := (R5.typed _ e.symm).1; omega)
    have e7 : w7.heap[w2.heap.size]? = w6.heap[w2.heap.size]? := G7.block _ (Nat.lt_of_lt_of_le (by omega) (Nat.le_trans B5.size G6.size)) (fun e => by have := (R6.typed _ e.symm).1; omega)
    rw [e7, e6', e5, e4]
  have q0 : w7.cell? ⟨w2.heap.size, 0, none⟩ = some (.int .i64 t) := cell_of_row w7 _ 0 _ 62 (0, 0) (pw7.trans o3)
  have q1 : w7.cell? ⟨w2.heap.size, 1, none⟩ = some (.string x.t) := cell_of_row w7 _ 1 _ 62 (0, 0) (pw7.trans o3)
  obtain ⟨A0, c0', rfl, hc0, _⟩ := hrow.out.slice
  have CM := cloneMap_calls w7 b L.length L T7
  go_wp2_with (at_builtin; refine app_list rfl rfl rfl rfl hrun ?_)
  refine CM.mono ?_
  rintro e w8 ⟨rfl, T8, _, B8⟩
  obtain ⟨w9, hst, T9, G9⟩ := Tab.store (t := 53) keyP valS Try.underlying53 T8 (by simp only [maxLen]; omega) ok (some (g7, (left (R (t, x.t)) x).length, c7))
  unfold mkP mvS at hst
  dsimp only at hst
  have r0 := (B8.cell (World.block_lt_of_cell? _ _ q0)).trans q0
  have r1 := (B8.cell (World.block_lt_of_cell? _ _ q1)).trans q1
  have B8' : Below w.heap.size w w8 := below_then B7' B7'.size B8
  have B9' : Below w.heap.size w w9 := B8'.grown (turned_grown G9) B8'.size (fun k hk => by injection hk with hk; rw [← hk]; exact B7'.size)
  have n0 : w9.cell? ⟨p, 0, none⟩ = some (.int .i64 most) := (B9'.cell (World.block_lt_of_cell? _ _ h.cell.1)).trans h.cell.1
  have op9 : w9.heap[p]? = some (.cells #[.int .i64 most, .map (some b), .int .i64 many] 55 (0, 0)) := (B9'.block p (Array.getElem?_eq_some_iff.1 h.cells).1).trans h.cells
  have n1 := cell_of_row w9 p 1 _ 55 (0, 0) op9
  have n2 := cell_of_row w9 p 2 _ 55 (0, 0) op9
  have fz := blk_frozen op9
  have hmz : ¬ most < many - (R (t, x.t)).length + (left (R (t, x.t)) x).length := by omega
  go_wp2_with fail
  replace h := Aside0.mk h
  replace T9 := Aside0.mk T9
  replace B9' := Aside0.mk B9'
  replace R7 := Aside0.mk R7
  generalize hmm : many - (R (t, x.t)).length + (left (R (t, x.t)) x).length = mm at hmz ⊢
  go_loopw [10] (fun v wr => v = .int .i64 mm ∧ wr = w9) (fun _ _ => 0)
  case atStart => exact ⟨rfl, rfl⟩
  case round =>
    obtain ⟨rfl, rfl⟩ := hrel
    go_wp2
    go_ret
    rw [hmm]
    have hp : p < w.heap.size := (Array.getElem?_eq_some_iff.1 h.out.cells).1
    have GS : wr.grownBy ((wr.setCell ⟨p, 1, none⟩ (.map (some w7.heap.size))).setCell ⟨p, 2, none⟩ (.int .i64 mm)) (some p) := trans_grown (grown_set _ p _ _) (grown_set _ p _ _)
    have GW : w.grownBy ((wr.setCell ⟨p, 1, none⟩ (.map (some w7.heap.size))).setCell ⟨p, 2, none⟩ (.int .i64 mm)) (some p) := trans_grown (grown_of_below B9'.out _) GS
    have tidy := h.out.tab.tidy
    have hg7' : g7 < w7.heap.size := (R7.out.typed g7 rfl).2.1
    have hg7'' : w.heap.size ≤ g7 := Nat.le_trans hw03 (R7.out.typed g7 rfl).1
    have hb7 : w.heap.size ≤ w7.heap.size := B7'.size
    have RN := ((R7.out.grown (grown_of_below B8 none) (by simp)).grown (turned_grown G9) (fun k hk e => by injection hk with hk; injection e with e; have e : g7 = k := e; omega)).grown GS (fun k hk e => by injection hk with hk; injection e with e; have e : g7 = k := e; omega)
    refine ⟨rfl, w7.heap.size, (g7, (left (R (t, x.t)) x).length, c7), ⟨?_, ?_, h.out.low, ?_, ?_, ?_⟩, GW⟩
    · rw [blk_set (blk_set op9 1 _) 2 _]; rfl
    · exact T9.out.exact.kept GS (fun e => by injection e with e; omega)
    · intro e he
      rcases (upd_mem tidy _ _ e).1 he with rfl | ⟨h1, h2⟩
      · show RowR _ base _ (if (t, x.t) = (t, x.t) then left (R (t, x.t)) x else R (t, x.t))
        rw [if_pos rfl]
        exact RN.lower (Nat.le_trans hb0 hw03)
      · show RowR _ base _ (if e.1 = (t, x.t) then left (R (t, x.t)) x else R e.1)
        rw [if_neg h2]
        refine (h.out.rows e h1).grown GW (fun k hk e' => ?_)
        injection hk with hk
        subst hk
        obtain ⟨_, _, cells, hc⟩ := (h.out.rows e h1).typed _ e'
        rw [h.out.cells] at hc
        injection hc with hc
        injection hc with _ hc
        cases hc
    · intro q hq
      rw [got_upd tidy] at hq
      split at hq
      · cases hq
      · rename_i hne
        show (if q = (t, x.t) then left (R (t, x.t)) x else R q) = []
        rw [if_neg hne]
        exact h.out.off q hq
    · intro e he y hy
      rcases (upd_mem tidy _ _ e).1 he with rfl | ⟨h1, h2⟩
      · replace hy : y ∈ (if (t, x.t) = (t, x.t) then left (R (t, x.t)) x else R (t, x.t)) := hy
        rw [if_pos rfl] at hy
        unfold left at hy
        rcases List.mem_append.1 hy with hy | hy
        · exact h.out.goodAt _ y (List.mem_filter.1 hy).1
        · rw [List.mem_singleton.1 hy]; exact hx
      · replace hy : y ∈ (if e.1 = (t, x.t) then left (R (t, x.t)) x else R e.1) := hy
        rw [if_neg h2] at hy
        exact h.out.good e h1 y hy
end Go.Proofs.Yteikmnokmcnmcaa
