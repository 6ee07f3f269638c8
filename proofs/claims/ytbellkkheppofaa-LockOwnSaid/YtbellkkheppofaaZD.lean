import Derived.Test.YtbellkkheppofaaZC
namespace Go.Proofs.Ytbellkkheppofaa
open Go.RowKit Go.Maps Go.Sort Go.Lib Go.Proofs.YtbellkkheppofaaW.PrintWords Go.Proofs.YtbellkkheppofaaW.PrintLast Go.Proofs.YtbellkkheppofaaW.PrintMore
set_option linter.unusedVariables false
set_option linter.unusedSimpArgs false
set_option linter.unusedSectionVars false
set_option maxHeartbeats 8000000 in
set_option maxRecDepth 100000 in
theorem step_holder (base p b br : Nat) (most : Int) (L : List (Lk × Int)) (x : Op) (hx : x.OK) (w : World) (h : Both w base p b br most L) (hbase : base ≤ w.heap.size) (hd : x.do_ = 1) :
    Calls Try.prog 15 #[.pointer (some ⟨p, 0, none⟩), .pointer (some ⟨br, 0, none⟩), .agg x.cells.toArray] w (StepPost w base p b br most (stp most L x)) := by
  obtain ⟨d, tx, snap, last, a, u⟩ := x
  obtain rfl : d = 1 := hd
  have hst : stp most L ⟨1, tx, snap, last, a, u⟩ = L := by simp [stp]
  rw [hst]
  clear hst
  simp only [Op.cells]
  obtain ⟨w1, hw1⟩ : ∃ w1, w1 = w.alloc (.cells #[.int .i64 1, .int .i64 tx, .int .i64 snap, .int .i64 last, .string a.1, .string a.2, .string u] 32) := ⟨_, rfl⟩
  have g1 : w.grownBy w1 none := by rw [hw1]; exact World.grownBy_alloc _ _ _
  have ob : w1.heap[w.heap.size]? = some (.cells #[.int .i64 1, .int .i64 tx, .int .i64 snap, .int .i64 last, .string a.1, .string a.2, .string u] 32 (0, 0)) := by rw [hw1]; exact heap_alloc_new w _
  have C1 := (Chg.refl w b br).grown g1 (by simp)
  have B1 := h.keep g1
  have hcap := h.cap
  have hlen := h.len
  have hs1 := g1.size
  have hxl := (Array.getElem?_eq_some_iff.1 ob).1
  have hk := hx.key
  obtain ⟨s0, s1, s2, s3, s4, s5, s6⟩ := op_cells ob
  clear h
  go_enter Try.func15, Try.ntmps15
  go_upto_region 1 with (fail)
  rw [← hw1]
  clear hw1
  obtain ⟨v, r1⟩ := B1.r
  have H1 := Holder_calls p b most L a w1 B1.m hk
  go_wp2_with fail
  refine H1.mono ?_
  rintro e w2 ⟨rfl, D2⟩
  have B2 := B1.keep (grown_of_below D2 none)
  have C2 := C1.below D2
  obtain ⟨s0, s1, s2, s3, s4, s5, s6⟩ := op_cells ((D2.block _ hxl).trans ob)
  obtain ⟨v2, r2⟩ := B2.r
  have H2 := RHolder_calls base br most L v2 a w2 r2 (by omega)
  clear H1
  go_wp2_with fail
  refine H2.mono ?_
  rintro e w3 ⟨rfl, D3⟩
  have B3 := B2.keep (grown_of_below D3 none)
  have C3 := C2.below D3
  clear H2
  go_wp2
  go_ret
  exact ⟨by simp, B3, C3⟩
set_option maxHeartbeats 8000000 in
set_option maxRecDepth 100000 in
theorem step_holders (base p b br : Nat) (most : Int) (L : List (Lk × Int)) (x : Op) (hx : x.OK) (w : World) (h : Both w base p b br most L) (hbase : base ≤ w.heap.size) (hd : x.do_ = 2) :
    Calls Try.prog 15 #[.pointer (some ⟨p, 0, none⟩), .pointer (some ⟨br, 0, none⟩), .agg x.cells.toArray] w (StepPost w base p b br most (stp most L x)) := by
  obtain ⟨d, tx, snap, last, a, u⟩ := x
  obtain rfl : d = 2 := hd
  have hst : stp most L ⟨2, tx, snap, last, a, u⟩ = L := by simp [stp]
  rw [hst]
  clear hst
  simp only [Op.cells]
  obtain ⟨w1, hw1⟩ : ∃ w1, w1 = w.alloc (.cells #[.int .i64 2, .int .i64 tx, .int .i64 snap, .int .i64 last, .string a.1, .string a.2, .string u] 32) := ⟨_, rfl⟩
  have g1 : w.grownBy w1 none := by rw [hw1]; exact World.grownBy_alloc _ _ _
  have ob : w1.heap[w.heap.size]? = some (.cells #[.int .i64 2, .int .i64 tx, .int .i64 snap, .int .i64 last, .string a.1, .string a.2, .string u] 32 (0, 0)) := by rw [hw1]; exact heap_alloc_new w _
  have C1 := (Chg.refl w b br).grown g1 (by simp)
  have B1 := h.keep g1
  have hcap := h.cap
  have hlen := h.len
  have hs1 := g1.size
  have hxl := (Array.getElem?_eq_some_iff.1 ob).1
  have hk := hx.key
  obtain ⟨s0, s1, s2, s3, s4, s5, s6⟩ := op_cells ob
  clear h
  go_enter Try.func15, Try.ntmps15
  go_upto_region 1 with (fail)
  rw [← hw1]
  clear hw1
  have m1d := B1.m.kept (drewG w1) (by simp) (by simp)
  have T1 := Holders_calls p b most L a.1 a.2 u w1.drew m1d (by omega)
  have T2 := fun W v (hW : Rm W base br most L v) (hs : base ≤ W.heap.size) => RHolders_calls base br most L v a.1 a.2 u W hW (by omega) hs
  have hhl : (holdersOf L a.1 a.2 u).length ≤ 4096 := by
    refine Nat.le_trans (rise_length _) ?_
    rw [List.length_map]
    exact Nat.le_trans (List.length_filter_le _ _) (by omega)
  go_wp2_with fail
  go_region_held3 (fun W => W.cell? ⟨w.heap.size, 0, none⟩ = some (.int .i64 2) ∧ W.cell? ⟨w.heap.size, 1, none⟩ = some (.int .i64 tx) ∧ W.cell? ⟨w.heap.size, 2, none⟩ = some (.int .i64 snap) ∧ W.cell? ⟨w.heap.size, 3, none⟩ = some (.int .i64 last) ∧ W.cell? ⟨w.heap.size, 4, none⟩ = some (.string a.1) ∧ W.cell? ⟨w.heap.size, 5, none⟩ = some (.string a.2) ∧ W.cell? ⟨w.heap.size, 6, none⟩ = some (.string u))
    (first | exact op_cells ob | exact op_cells ob2 | exact op_cells ob3 | exact op_cells ob4)
    (first
      | (go_at_call 19; refine T1.mono ?_; rintro e w2 ⟨v1, rfl, R1, D2⟩; have ob2 := (D2.block w.heap.size hxl).trans ob; have B2 := (B1.keep (drewG w1)).keep (grown_of_below D2 none); obtain ⟨v2, r2⟩ := B2.r)
      | (go_at_call 21; refine (T2 _ v2 r2 (Nat.le_trans hbase (Nat.le_trans hs1 D2.size))).mono ?_; rintro e w3 ⟨v3, rfl, L3, D3⟩; have ob3 := (D3.block w.heap.size (Nat.lt_of_lt_of_le hxl D2.size)).trans ob2; have B3 := B2.keep (grown_of_below D3 none); have L1 := (Lo.ofR R1).grown (grown_of_below D3 none) (by simp))
      | (go_at_call 20; refine (sameNumbers_calls _ _ _ _ _ _ L1 L3 (by omega)).mono ?_; rintro e w4 ⟨rfl, D4⟩; have ob4 := (D4.block w.heap.size (Nat.lt_of_lt_of_le hxl (Nat.le_trans D2.size D3.size))).trans ob3; have B4 := B3.keep (grown_of_below D4 none)))
  go_wp2
  go_ret
  exact ⟨rfl, B4, (((C1.grown (drewG w1) (by simp)).below D2).below D3).below D4⟩
set_option maxHeartbeats 8000000 in
set_option maxRecDepth 100000 in
theorem step_held (base p b br : Nat) (most : Int) (L : List (Lk × Int)) (x : Op) (hx : x.OK) (w : World) (h : Both w base p b br most L) (hbase : base ≤ w.heap.size) (hd : x.do_ = 3) :
    Calls Try.prog 15 #[.pointer (some ⟨p, 0, none⟩), .pointer (some ⟨br, 0, none⟩), .agg x.cells.toArray] w (StepPost w base p b br most (stp most L x)) := by
  obtain ⟨d, tx, snap, last, a, u⟩ := x
  obtain rfl : d = 3 := hd
  have hst : stp most L ⟨3, tx, snap, last, a, u⟩ = L := by simp [stp]
  rw [hst]
  clear hst
  simp only [Op.cells]
  obtain ⟨w1, hw1⟩ : ∃ w1, w1 = w.alloc (.cells #[.int .i64 3, .int .i64 tx, .int .i64 snap, .int .i64 last, .string a.1, .string a.2, .string u] 32) := ⟨_, rfl⟩
  have g1 : w.grownBy w1 none := by rw [hw1]; exact World.grownBy_alloc _ _ _
  have ob : w1.heap[w.heap.size]? = some (.cells #[.int .i64 3, .int .i64 tx, .int .i64 snap, .int .i64 last, .string a.1, .string a.2, .string u] 32 (0, 0)) := by rw [hw1]; exact heap_alloc_new w _
  have C1 := (Chg.refl w b br).grown g1 (by simp)
  have B1 := h.keep g1
  have hcap := h.cap
  have hlen := h.len
  have hs1 := g1.size
  have hxl := (Array.getElem?_eq_some_iff.1 ob).1
  have hk := hx.key
  obtain ⟨s0, s1, s2, s3, s4, s5, s6⟩ := op_cells ob
  clear h
  go_enter Try.func15, Try.ntmps15
  go_upto_region 1 with (fail)
  rw [← hw1]
  clear hw1
  have m1d := B1.m.kept (drewG w1) (by simp) (by simp)
  have T1 := Held_calls p b most L tx w1.drew m1d (by omega)
  have T2 := fun W v (hW : Rm W base br most L v) (hs : base ≤ W.heap.size) => RHeld_calls base br most L v tx W hW (by omega) hs
  have hhl : (heldOf L tx).length ≤ 4096 := by
    rw [heldOf_length]
    exact Nat.le_trans (List.length_filter_le _ _) (by omega)
  go_wp2_with fail
  go_region_held3 (fun W => W.cell? ⟨w.heap.size, 0, none⟩ = some (.int .i64 3) ∧ W.cell? ⟨w.heap.size, 1, none⟩ = some (.int .i64 tx) ∧ W.cell? ⟨w.heap.size, 2, none⟩ = some (.int .i64 snap) ∧ W.cell? ⟨w.heap.size, 3, none⟩ = some (.int .i64 last) ∧ W.cell? ⟨w.heap.size, 4, none⟩ = some (.string a.1) ∧ W.cell? ⟨w.heap.size, 5, none⟩ = some (.string a.2) ∧ W.cell? ⟨w.heap.size, 6, none⟩ = some (.string u))
    (first | exact op_cells ob | exact op_cells ob2 | exact op_cells ob3 | exact op_cells ob4)
    (first
      | (go_at_call 16; refine T1.mono ?_; rintro e w2 ⟨v1, rfl, R1, D2⟩; have ob2 := (D2.block w.heap.size hxl).trans ob; have B2 := (B1.keep (drewG w1)).keep (grown_of_below D2 none); obtain ⟨v2, r2⟩ := B2.r)
      | (go_at_call 18; refine (T2 _ v2 r2 (Nat.le_trans hbase (Nat.le_trans hs1 D2.size))).mono ?_; rintro e w3 ⟨v3, rfl, L3, D3⟩; have ob3 := (D3.block w.heap.size (Nat.lt_of_lt_of_le hxl D2.size)).trans ob2; have B3 := B2.keep (grown_of_below D3 none); have L1 := (Lo.ofR R1).grown (grown_of_below D3 none) (by simp))
      | (go_at_call 17; refine (sameLocks_calls _ _ _ _ _ _ L1 L3 (by omega)).mono ?_; rintro e w4 ⟨rfl, D4⟩; have ob4 := (D4.block w.heap.size (Nat.lt_of_lt_of_le hxl (Nat.le_trans D2.size D3.size))).trans ob3; have B4 := B3.keep (grown_of_below D4 none)))
  go_wp2
  go_ret
  exact ⟨rfl, B4, (((C1.grown (drewG w1) (by simp)).below D2).below D3).below D4⟩
set_option maxHeartbeats 8000000 in
set_option maxRecDepth 100000 in
theorem step_len (base p b br : Nat) (most : Int) (L : List (Lk × Int)) (x : Op) (hx : x.OK) (w : World) (h : Both w base p b br most L) (hbase : base ≤ w.heap.size) (hd : x.do_ = 5) :
    Calls Try.prog 15 #[.pointer (some ⟨p, 0, none⟩), .pointer (some ⟨br, 0, none⟩), .agg x.cells.toArray] w (StepPost w base p b br most (stp most L x)) := by
  obtain ⟨d, tx, snap, last, a, u⟩ := x
  obtain rfl : d = 5 := hd
  have hst : stp most L ⟨5, tx, snap, last, a, u⟩ = L := by simp [stp]
  rw [hst]
  clear hst
  simp only [Op.cells]
  obtain ⟨w1, hw1⟩ : ∃ w1, w1 = w.alloc (.cells #[.int .i64 5, .int .i64 tx, .int .i64 snap, .int .i64 last, .string a.1, .string a.2, .string u] 32) := ⟨_, rfl⟩
  have g1 : w.grownBy w1 none := by rw [hw1]; exact World.grownBy_alloc _ _ _
  have ob : w1.heap[w.heap.size]? = some (.cells #[.int .i64 5, .int .i64 tx, .int .i64 snap, .int .i64 last, .string a.1, .string a.2, .string u] 32 (0, 0)) := by rw [hw1]; exact heap_alloc_new w _
  have C1 := (Chg.refl w b br).grown g1 (by simp)
  have B1 := h.keep g1
  have hcap := h.cap
  have hlen := h.len
  have hs1 := g1.size
  have hxl := (Array.getElem?_eq_some_iff.1 ob).1
  have hk := hx.key
  obtain ⟨s0, s1, s2, s3, s4, s5, s6⟩ := op_cells ob
  clear h
  go_enter Try.func15, Try.ntmps15
  go_upto_region 1 with (fail)
  rw [← hw1]
  clear hw1
  obtain ⟨v, r1⟩ := B1.r
  obtain ⟨A, c, rfl, _, _⟩ := r1.row.slice
  have o2 := r1.c2
  have m1d := B1.m.kept (drewG w1) (by simp) (by simp)
  have T1 := Len_calls p b most L w1.drew m1d
  go_wp2_with fail
  go_region_held3 (fun W => W.cell? ⟨br, 2, none⟩ = some (.slice A L.length c))
    (exact o2)
    ((go_at_call 12; refine T1.mono ?_; rintro e w2 ⟨rfl, rfl⟩))
  go_wp2
  go_ret
  exact ⟨by simp, B1.keep (drewG w1), C1.grown (drewG w1) (by simp)⟩
set_option maxHeartbeats 8000000 in
set_option maxRecDepth 100000 in
theorem step_other (base p b br : Nat) (most : Int) (L : List (Lk × Int)) (x : Op) (hx : x.OK) (w : World) (h : Both w base p b br most L) (hbase : base ≤ w.heap.size) (h0 : x.do_ ≠ 0) (h1 : x.do_ ≠ 1) (h2 : x.do_ ≠ 2) (h3 : x.do_ ≠ 3) (h4 : x.do_ ≠ 4) (h5 : x.do_ ≠ 5) :
    Calls Try.prog 15 #[.pointer (some ⟨p, 0, none⟩), .pointer (some ⟨br, 0, none⟩), .agg x.cells.toArray] w (StepPost w base p b br most (stp most L x)) := by
  obtain ⟨d, tx, snap, last, a, u⟩ := x
  dsimp only at h0 h1 h2 h3 h4 h5
  have t0 : (d == 0) = false := by simpa using h0
  have t1 : (d == 1) = false := by simpa using h1
  have t2 : (d == 2) = false := by simpa using h2
  have t3 : (d == 3) = false := by simpa using h3
  have t4 : (d == 4) = false := by simpa using h4
  have t5 : (d == 5) = false := by simpa using h5
  have hst : stp most L ⟨d, tx, snap, last, a, u⟩ = L := by simp [stp, h0, h4]
  rw [hst]
  clear hst
  simp only [Op.cells]
  obtain ⟨w1, hw1⟩ : ∃ w1, w1 = w.alloc (.cells #[.int .i64 d, .int .i64 tx, .int .i64 snap, .int .i64 last, .string a.1, .string a.2, .string u] 32) := ⟨_, rfl⟩
  have g1 : w.grownBy w1 none := by rw [hw1]; exact World.grownBy_alloc _ _ _
  have ob : w1.heap[w.heap.size]? = some (.cells #[.int .i64 d, .int .i64 tx, .int .i64 snap, .int .i64 last, .string a.1, .string a.2, .string u] 32 (0, 0)) := by rw [hw1]; exact heap_alloc_new w _
  have C1 := (Chg.refl w b br).grown g1 (by simp)
  have B1 := h.keep g1
  have hcap := h.cap
  have hlen := h.len
  have hs1 := g1.size
  have hxl := (Array.getElem?_eq_some_iff.1 ob).1
  have hk := hx.key
  obtain ⟨s0, s1, s2, s3, s4, s5, s6⟩ := op_cells ob
  clear h
  go_enter Try.func15, Try.ntmps15
  go_upto_region 1 with (fail)
  rw [← hw1]
  clear hw1
  go_wp2
  go_ret
  exact ⟨rfl, B1, C1⟩
theorem step_calls (base p b br : Nat) (most : Int) (L : List (Lk × Int)) (x : Op) (hx : x.OK) (w : World) (h : Both w base p b br most L) (hbase : base ≤ w.heap.size) :
    Calls Try.prog 15 #[.pointer (some ⟨p, 0, none⟩), .pointer (some ⟨br, 0, none⟩), .agg x.cells.toArray] w (StepPost w base p b br most (stp most L x)) := by
  by_cases h0 : x.do_ = 0
  · exact step_take base p b br most L x hx w h hbase h0
  by_cases h1 : x.do_ = 1
  · exact step_holder base p b br most L x hx w h hbase h1
  by_cases h2 : x.do_ = 2
  · exact step_holders base p b br most L x hx w h hbase h2
  by_cases h3 : x.do_ = 3
  · exact step_held base p b br most L x hx w h hbase h3
  by_cases h4 : x.do_ = 4
  · exact step_release base p b br most L x w h hbase h4
  by_cases h5 : x.do_ = 5
  · exact step_len base p b br most L x hx w h hbase h5
  · exact step_other base p b br most L x hx w h hbase h0 h1 h2 h3 h4 h5
end Go.Proofs.Ytbellkkheppofaa
