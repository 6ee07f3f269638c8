import Derived.Test.YteikmnokmcnmcaaSA
namespace Go.Proofs.Yteikmnokmcnmcaa
open Go.RowKit Go.Maps Go.Sort Go.Lib Go.Proofs.YteikmnokmcnmcaaW.PrintWords Go.Proofs.YteikmnokmcnmcaaW.PrintLast Go.Proofs.YteikmnokmcnmcaaW.PrintMore
set_option linter.unusedVariables false
set_option linter.unusedSimpArgs false
set_option linter.unusedSectionVars false
theorem leq_less (a b : List UInt8) : (Op.bytesLess a b || a == b) = !Op.bytesLess b a := by
  have h := gtr_less a b
  rw [← h]
  cases Op.bytesLess a b <;> cases (a == b) <;> rfl
theorem leq_iff (a b : List UInt8) : (Op.bytesLess a b = true ∨ a = b) ↔ Op.bytesLess b a = false := by
  have h := leq_less a b
  constructor
  · rintro (h1 | h1)
    · rw [h1] at h; simpa using h.symm
    · subst h1
      simpa using h.symm
  · intro h1
    rw [h1] at h
    simpa using h
/-- of one table: does a cover b? -/
def cov (a b : Rd) : Bool := !Op.bytesLess (spn b).1.toList (spn a).1.toList && (!(spn a).2.2 || ((spn b).2.2 && !Op.bytesLess (spn a).2.1.toList (spn b).2.1.toList))
def covB (a b : Rd) : Bool := mayB a && (mayB b && ((a.t.toList == b.t.toList) && cov a b))
theorem boxed (w : World) (x : Rd) : Below w.heap.size w (w.alloc (.cells #[.string x.t, .int .i64 x.k, .string x.f, .string x.u] 23)) := (Below.refl _ w).alloc (Nat.le_refl _) _
theorem rd_cells {W : World} {bx : Nat} {x : Rd} (h : W.heap[bx]? = some (.cells #[.string x.t, .int .i64 x.k, .string x.f, .string x.u] 23 (0, 0))) :
    W.cell? ⟨bx, 0, none⟩ = some (.string x.t) ∧ W.cell? ⟨bx, 1, none⟩ = some (.int .i64 x.k) ∧ W.cell? ⟨bx, 2, none⟩ = some (.string x.f) ∧ W.cell? ⟨bx, 3, none⟩ = some (.string x.u) :=
  ⟨cell_of_row W bx 0 _ 23 (0, 0) h, cell_of_row W bx 1 _ 23 (0, 0) h, cell_of_row W bx 2 _ 23 (0, 0) h, cell_of_row W bx 3 _ 23 (0, 0) h⟩
set_option maxHeartbeats 4000000 in
set_option maxRecDepth 100000 in
theorem covers_calls (a b : Rd) (ha : a.OK) (hb : b.OK) (w : World) : Calls Try.prog 25 #[.agg #[.string a.t, .int .i64 a.k, .string a.f, .string a.u], .agg #[.string b.t, .int .i64 b.k, .string b.f, .string b.u]] w fun e w' => e = .returned (.bool (cov a b)) ∧ Below w.heap.size w w' := by
  obtain ⟨w2, hw2⟩ : ∃ w2, w2 = (w.alloc (.cells #[.string a.t, .int .i64 a.k, .string a.f, .string a.u] 23)).alloc (.cells #[.string b.t, .int .i64 b.k, .string b.f, .string b.u] 23) := ⟨_, rfl⟩
  have B2 : Below w.heap.size w w2 := by rw [hw2]; exact below_alloc (boxed w a) _
  have oa : w2.heap[w.heap.size]? = some (.cells #[.string a.t, .int .i64 a.k, .string a.f, .string a.u] 23 (0, 0)) := by rw [hw2]; exact (Below.heap_alloc _ _ _ (by simp)).trans (heap_alloc_new w _)
  have ob : w2.heap[w.heap.size + 1]? = some (.cells #[.string b.t, .int .i64 b.k, .string b.f, .string b.u] 23 (0, 0)) := by
    rw [hw2]
    have := heap_alloc_new (w.alloc (.cells #[.string a.t, .int .i64 a.k, .string a.f, .string a.u] 23)) (.cells #[.string b.t, .int .i64 b.k, .string b.f, .string b.u] 23)
    simpa using this
  obtain ⟨a0, a1, a2, a3⟩ := rd_cells oa
  have SA := fun W => span_calls a ha W
  have SB := fun W => span_calls b hb W
  unfold cov
  generalize (spn a).1 = fr at SA ⊢
  generalize (spn a).2.1 = tt at SA ⊢
  generalize (spn a).2.2 = bd at SA ⊢
  generalize (spn b).1 = lo at SB ⊢
  generalize (spn b).2.1 = hi at SB ⊢
  generalize (spn b).2.2 = en at SB ⊢
  go_enter Try.func25, Try.ntmps25
  go_upto_region 1 with (fail)
  rw [← hw2]
  clear hw2
  go_wp2_with fail
  refine (SA w2).mono ?_
  rintro e w3 ⟨rfl, D3⟩
  have B3 := below_then B2 B2.size D3
  obtain ⟨b0, b1, b2, b3⟩ := rd_cells ((D3.block _ (Array.getElem?_eq_some_iff.1 ob).1).trans ob)
  go_wp2_with fail
  refine (SB w3).mono ?_
  rintro e w4 ⟨rfl, D4⟩
  have B4 := below_then B3 B3.size D4
  clear SA SB oa ob a0 a1 a2 a3 b0 b1 b2 b3 D3 D4 B3 B2 ha hb
  go_wp2
  all_goals
    go_ret
    refine ⟨?_, B4⟩
    clear B4
    simp_all [leq_less, leq_iff]
end Go.Proofs.Yteikmnokmcnmcaa
