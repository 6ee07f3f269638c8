import Derived.Test.YteikmnokmcnmcaaSS
namespace Go.Proofs.Yteikmnokmcnmcaa
open Go.RowKit Go.Maps Go.Proofs.YteikmnokmcnmcaaW.PrintWords Go.Proofs.YteikmnokmcnmcaaW.PrintLast Go.Proofs.YteikmnokmcnmcaaW.PrintMore
set_option linter.unusedVariables false
set_option linter.unusedSimpArgs false
set_option linter.unusedSectionVars false
/-! ### SireadNone -/
set_option maxHeartbeats 8000000 in
set_option maxRecDepth 100000 in
theorem SireadNone_calls (o : Sop) (w : World) (ho : o.OK) : Calls Try.prog 7 #[mkO o] w fun e w' => e = .returned (.bool true) ∧ Below w.heap.size w w' := by
  obtain ⟨kind, txn, ⟨xt, xk, xf, xu⟩, key⟩ := o
  clear ho
  simp only [mkO]
  obtain ⟨w3, hw3⟩ : ∃ w3, w3 = ((w.alloc (.cells #[.int .i64 kind, .int .i64 txn, .string xt, .int .i64 xk, .string xf, .string xu, .string key] 41)).alloc (.cells #[.int .i64 0, .map none, .int .i64 0] 55)).alloc (.cells #[.pointer none, .pointer (some ⟨w.heap.size + 1, 0, none⟩)] 26) := ⟨_, rfl⟩
  have hBw3 : Below w.heap.size w w3 := by rw [hw3]; exact (((Below.refl _ w).alloc (Nat.le_refl _) _).alloc (by simp) _).alloc (by simp; omega) _
  have c1 : w3.cell? ⟨w.heap.size, 1, none⟩ = some (.int .i64 txn) := by rw [hw3]; simp [go_sem]
  have c2 : w3.cell? ⟨w.heap.size, 2, none⟩ = some (.string xt) := by rw [hw3]; simp [go_sem]
  have c3 : w3.cell? ⟨w.heap.size, 3, none⟩ = some (.int .i64 xk) := by rw [hw3]; simp [go_sem]
  have c4 : w3.cell? ⟨w.heap.size, 4, none⟩ = some (.string xf) := by rw [hw3]; simp [go_sem]
  have c5 : w3.cell? ⟨w.heap.size, 5, none⟩ = some (.string xu) := by rw [hw3]; simp [go_sem]
  have c6 : w3.cell? ⟨w.heap.size, 6, none⟩ = some (.string key) := by rw [hw3]; simp [go_sem]
  have s0 : w3.cell? ⟨w.heap.size + 2, 0, none⟩ = some (.pointer none) := by rw [hw3]; simp [go_sem]
  have s1 : w3.cell? ⟨w.heap.size + 2, 1, none⟩ = some (.pointer (some ⟨w.heap.size + 1, 0, none⟩)) := by rw [hw3]; simp [go_sem]
  have m1 : w3.cell? ⟨w.heap.size + 1, 1, none⟩ = some (.map none) := by rw [hw3]; simp [go_sem]
  have F : ∀ W, Below w3.heap.size w3 W → W.cell? ⟨w.heap.size, 1, none⟩ = some (.int .i64 txn) ∧ W.cell? ⟨w.heap.size, 2, none⟩ = some (.string xt) ∧ W.cell? ⟨w.heap.size, 3, none⟩ = some (.int .i64 xk) ∧ W.cell? ⟨w.heap.size, 4, none⟩ = some (.string xf) ∧ W.cell? ⟨w.heap.size, 5, none⟩ = some (.string xu) ∧
      W.cell? ⟨w.heap.size, 6, none⟩ = some (.string key) ∧ W.cell? ⟨w.heap.size + 2, 0, none⟩ = some (.pointer none) ∧ W.cell? ⟨w.heap.size + 2, 1, none⟩ = some (.pointer (some ⟨w.heap.size + 1, 0, none⟩)) ∧ W.cell? ⟨w.heap.size + 1, 1, none⟩ = some (.map none) := fun W hW => by
    have G : ∀ q j v, w3.cell? ⟨q, j, none⟩ = some v → W.cell? ⟨q, j, none⟩ = some v := fun q j v hv => (hW.cell (World.block_lt_of_cell? _ _ hv)).trans hv
    exact ⟨G _ _ _ c1, G _ _ _ c2, G _ _ _ c3, G _ _ _ c4, G _ _ _ c5, G _ _ _ c6, G _ _ _ s0, G _ _ _ s1, G _ _ _ m1⟩
  have Z0 : ∀ W, Below w3.heap.size w3 W → Mr0 W (.pointer none) := fun W _ => .inl rfl
  have Z1 : ∀ W, Below w3.heap.size w3 W → Mr0 W (.pointer (some ⟨w.heap.size + 1, 0, none⟩)) := fun W hW => .inr ⟨_, rfl, (F W hW).2.2.2.2.2.2.2.2⟩
  obtain ⟨W0, hW0⟩ : ∃ W0, W0 = w3 := ⟨_, rfl⟩
  have hB0 : Below w3.heap.size w3 W0 := by rw [hW0]; exact Below.refl _ _
  have LV := fun W => live_calls W
  have Below_then : ∀ {A B : World}, Below w3.heap.size w3 A → Below A.heap.size A B → Below w3.heap.size w3 B := fun h k => below_then h h.size k
  clear c1 c2 c3 c4 c5 c6 s0 s1 m1
  go_enter Try.func7, Try.ntmps7
  go_wp2_with fail
  rw [← hw3, ← hW0]
  clear hW0 hw3
  obtain ⟨c1, c2, c3, c4, c5, c6, s0, s1, _⟩ := F W0 hB0
  refine wp_loop_rounds 3 ?_
  rw [rounds_succ]
  go_wp2_with fail
  refine (Note_none (.pointer none) txn ⟨xt, xk, xf, xu⟩ W0 (Z0 W0 hB0)).mono ?_
  rintro e W1 ⟨rfl, D1⟩
  have hB1' := Below_then hB0 D1
  obtain ⟨c1, c2, c3, c4, c5, c6, s0, s1, _⟩ := F W1 hB1'
  go_wp2_with fail
  refine (Drop_none (.pointer none) txn W1 (Z0 W1 hB1')).mono ?_
  rintro e W2 ⟨rfl, D2⟩
  have hB2' := Below_then hB1' D2
  obtain ⟨c1, c2, c3, c4, c5, c6, s0, s1, _⟩ := F W2 hB2'
  go_wp2_with fail
  refine (Readers_none (.pointer none) xt key W2 (Z0 W2 hB2')).mono ?_
  rintro e W3 ⟨rfl, rfl⟩
  go_wp2_with fail
  refine (Of_none (.pointer none) txn W2 (Z0 W2 hB2')).mono ?_
  rintro e W3 ⟨rfl, rfl⟩
  go_wp2_with fail
  refine (Txns_none (.pointer none) W2 (Z0 W2 hB2')).mono ?_
  rintro e W3 ⟨rfl, rfl⟩
  go_wp2_with fail
  refine (Len_none (.pointer none) W2 (Z0 W2 hB2')).mono ?_
  rintro e W3 ⟨rfl, rfl⟩
  go_wp2_with fail
  clear c1 c2 c3 c4 c5 c6 s0 s1
  revert hB2'
  generalize W2 = W0
  intro hB0
  obtain ⟨c1, c2, c3, c4, c5, c6, s0, s1, _⟩ := F W0 hB0
  rw [rounds_succ]
  go_wp2_with fail
  refine (Note_none (.pointer (some ⟨w.heap.size + 1, 0, none⟩)) txn ⟨xt, xk, xf, xu⟩ W0 (Z1 W0 hB0)).mono ?_
  rintro e W1 ⟨rfl, D1⟩
  have hB1' := Below_then hB0 D1
  obtain ⟨c1, c2, c3, c4, c5, c6, s0, s1, _⟩ := F W1 hB1'
  go_wp2_with fail
  refine (Drop_none (.pointer (some ⟨w.heap.size + 1, 0, none⟩)) txn W1 (Z1 W1 hB1')).mono ?_
  rintro e W2 ⟨rfl, D2⟩
  have hB2' := Below_then hB1' D2
  obtain ⟨c1, c2, c3, c4, c5, c6, s0, s1, _⟩ := F W2 hB2'
  go_wp2_with fail
  refine (Readers_none (.pointer (some ⟨w.heap.size + 1, 0, none⟩)) xt key W2 (Z1 W2 hB2')).mono ?_
  rintro e W3 ⟨rfl, rfl⟩
  go_wp2_with fail
  refine (Of_none (.pointer (some ⟨w.heap.size + 1, 0, none⟩)) txn W2 (Z1 W2 hB2')).mono ?_
  rintro e W3 ⟨rfl, rfl⟩
  go_wp2_with fail
  refine (Txns_none (.pointer (some ⟨w.heap.size + 1, 0, none⟩)) W2 (Z1 W2 hB2')).mono ?_
  rintro e W3 ⟨rfl, rfl⟩
  go_wp2_with fail
  refine (Len_none (.pointer (some ⟨w.heap.size + 1, 0, none⟩)) W2 (Z1 W2 hB2')).mono ?_
  rintro e W3 ⟨rfl, rfl⟩
  go_wp2_with fail
  clear c1 c2 c3 c4 c5 c6 s0 s1
  revert hB2'
  generalize W2 = W0
  intro hB0
  obtain ⟨c1, c2, c3, c4, c5, c6, s0, s1, _⟩ := F W0 hB0
  rw [rounds_succ]
  go_wp2_with fail
  refine (LV _).mono ?_
  rintro e W9 ⟨rfl, D9⟩
  go_wp2
  go_ret
  have hB9 := Below_then hB0 D9
  exact ⟨rfl, below_then hBw3 hBw3.size hB9⟩
end Go.Proofs.Yteikmnokmcnmcaa
