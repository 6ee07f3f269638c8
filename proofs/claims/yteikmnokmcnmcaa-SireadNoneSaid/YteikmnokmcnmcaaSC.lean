import Derived.Test.YteikmnokmcnmcaaSB
namespace Go.Proofs.Yteikmnokmcnmcaa
open Go.RowKit Go.Maps Go.Sort Go.Lib Go.Proofs.YteikmnokmcnmcaaW.PrintWords Go.Proofs.YteikmnokmcnmcaaW.PrintLast Go.Proofs.YteikmnokmcnmcaaW.PrintMore
set_option linter.unusedVariables false
set_option linter.unusedSimpArgs false
set_option linter.unusedSectionVars false
theorem two_boxes (w : World) (a b : Rd) : ∃ w2, w2 = (w.alloc (.cells #[.string a.t, .int .i64 a.k, .string a.f, .string a.u] 23)).alloc (.cells #[.string b.t, .int .i64 b.k, .string b.f, .string b.u] 23) ∧ Below w.heap.size w w2 ∧
    w2.heap[w.heap.size]? = some (.cells #[.string a.t, .int .i64 a.k, .string a.f, .string a.u] 23 (0, 0)) ∧ w2.heap[w.heap.size + 1]? = some (.cells #[.string b.t, .int .i64 b.k, .string b.f, .string b.u] 23 (0, 0)) := by
  refine ⟨_, rfl, below_alloc (boxed w a) _, (Below.heap_alloc _ _ _ (by simp)).trans (heap_alloc_new w _), ?_⟩
  have := heap_alloc_new (w.alloc (.cells #[.string a.t, .int .i64 a.k, .string a.f, .string a.u] 23)) (.cells #[.string b.t, .int .i64 b.k, .string b.f, .string b.u] 23)
  simpa using this
theorem blk_below {w w' : World} {g : Nat} {o : Obj} (h : w.heap[g]? = some o) (b : Below w.heap.size w w') : w'.heap[g]? = some o := (b.block _ (Array.getElem?_eq_some_iff.1 h).1).trans h
set_option maxHeartbeats 4000000 in
set_option maxRecDepth 100000 in
theorem Covers_calls (a b : Rd) (ha : a.OK) (hb : b.OK) (w : World) : Calls Try.prog 9 #[.agg #[.string a.t, .int .i64 a.k, .string a.f, .string a.u], .agg #[.string b.t, .int .i64 b.k, .string b.f, .string b.u]] w fun e w' => e = .returned (.bool (covB a b)) ∧ Below w.heap.size w w' := by
  obtain ⟨w2, hw2, B2, oa, ob⟩ := two_boxes w a b
  obtain ⟨a0, a1, a2, a3⟩ := rd_cells oa
  have MA := fun W => may_calls a W
  have MB := fun W => may_calls b W
  have CC := fun W => covers_calls a b ha hb W
  unfold covB
  generalize cov a b = cv at CC ⊢
  generalize mayB b = mb at MB ⊢
  generalize mayB a = ma at MA ⊢
  go_enter Try.func9, Try.ntmps9
  go_upto_region 1 with (fail)
  rw [← hw2]
  clear hw2
  go_wp2_with fail
  refine (MA w2).mono ?_
  rintro e w3 ⟨rfl, D3⟩
  have B3 := below_then B2 B2.size D3
  have oa := blk_below oa D3
  have ob := blk_below ob D3
  obtain ⟨a0, a1, a2, a3⟩ := rd_cells oa
  obtain ⟨b0, b1, b2, b3⟩ := rd_cells ob
  clear MA D3 B2
  cases ma with
  | false =>
    go_wp2
    go_ret
    exact ⟨rfl, B3⟩
  | true =>
    go_wp2_with fail
    refine (MB w3).mono ?_
    rintro e w4 ⟨rfl, D4⟩
    have B4 := below_then B3 B3.size D4
    have oa := blk_below oa D4
    have ob := blk_below ob D4
    obtain ⟨a0, a1, a2, a3⟩ := rd_cells oa
    obtain ⟨b0, b1, b2, b3⟩ := rd_cells ob
    clear MB D4 B3
    cases mb with
    | false =>
      go_wp2
      go_ret
      exact ⟨rfl, B4⟩
    | true =>
      cases ht : (a.t.toList == b.t.toList) with
      | false =>
        have htp : ¬ a.t.toList = b.t.toList := by simpa using ht
        go_wp2
        go_ret
        exact ⟨by simp [htp], B4⟩
      | true =>
        have htp : a.t.toList = b.t.toList := by simpa using ht
        go_wp2_with fail
        refine (CC w4).mono ?_
        rintro e w5 ⟨rfl, D5⟩
        have B5 := below_then B4 B4.size D5
        clear CC
        go_wp2
        go_ret
        exact ⟨by simp [htp], B5⟩
set_option maxHeartbeats 4000000 in
set_option maxRecDepth 100000 in
theorem RCovers_calls (a b : Rd) (ha : a.OK) (hb : b.OK) (w : World) : Calls Try.prog 10 #[.agg #[.string a.t, .int .i64 a.k, .string a.f, .string a.u], .agg #[.string b.t, .int .i64 b.k, .string b.f, .string b.u]] w fun e w' => e = .returned (.bool (covB a b)) ∧ Below w.heap.size w w' := by
  obtain ⟨w2, hw2, B2, oa, ob⟩ := two_boxes w a b
  obtain ⟨a0, a1, a2, a3⟩ := rd_cells oa
  have MA := fun W => May_calls a W
  have MB := fun W => May_calls b W
  have SA := fun W => ends_calls a ha W
  have SB := fun W => ends_calls b hb W
  unfold covB cov
  generalize mayB b = mb at MB ⊢
  generalize mayB a = ma at MA ⊢
  generalize (spn a).1 = fr at SA ⊢
  generalize (spn a).2.1 = tt at SA ⊢
  generalize (spn a).2.2 = bd at SA ⊢
  generalize (spn b).1 = lo at SB ⊢
  generalize (spn b).2.1 = hi at SB ⊢
  generalize (spn b).2.2 = en at SB ⊢
  go_enter Try.func10, Try.ntmps10
  go_upto_region 1 with (fail)
  rw [← hw2]
  clear hw2
  go_wp2_with fail
  refine (MA w2).mono ?_
  rintro e w3 ⟨rfl, D3⟩
  have B3 := below_then B2 B2.size D3
  have oa := blk_below oa D3
  have ob := blk_below ob D3
  obtain ⟨a0, a1, a2, a3⟩ := rd_cells oa
  obtain ⟨b0, b1, b2, b3⟩ := rd_cells ob
  clear MA D3 B2
  cases ma with
  | false =>
    go_wp2
    go_ret
    exact ⟨rfl, B3⟩
  | true =>
    go_wp2_with fail
    refine (MB w3).mono ?_
    rintro e w4 ⟨rfl, D4⟩
    have B4 := below_then B3 B3.size D4
    have oa := blk_below oa D4
    have ob := blk_below ob D4
    obtain ⟨a0, a1, a2, a3⟩ := rd_cells oa
    obtain ⟨b0, b1, b2, b3⟩ := rd_cells ob
    clear MB D4 B3
    cases mb with
    | false =>
      go_wp2
      go_ret
      exact ⟨rfl, B4⟩
    | true =>
      cases ht : (a.t.toList == b.t.toList) with
      | false =>
        have htp : ¬ a.t.toList = b.t.toList := by simpa using ht
        go_wp2
        go_ret
        exact ⟨by simp [htp], B4⟩
      | true =>
        have htp : a.t.toList = b.t.toList := by simpa using ht
        go_wp2_with fail
        refine (SA w4).mono ?_
        rintro e w5 ⟨rfl, D5⟩
        have B5 := below_then B4 B4.size D5
        have ob := blk_below ob D5
        obtain ⟨b0, b1, b2, b3⟩ := rd_cells ob
        go_wp2_with fail
        refine (SB w5).mono ?_
        rintro e w6 ⟨rfl, D6⟩
        have B6 := below_then B5 B5.size D6
        clear SA SB oa ob a0 a1 a2 a3 b0 b1 b2 b3 D5 D6 B4 B5 ha hb
        go_wp2
        all_goals
          go_ret
          refine ⟨?_, B6⟩
          clear B6
          simp_all [leq_less, leq_iff]
end Go.Proofs.Yteikmnokmcnmcaa
