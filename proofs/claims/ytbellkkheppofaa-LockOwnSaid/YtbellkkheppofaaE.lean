import Derived.Test.YtbellkkheppofaaO
namespace Go.Proofs.Ytbellkkheppofaa
open Go.RowKit Go.Maps Go.Proofs.YtbellkkheppofaaW.PrintWords Go.Proofs.YtbellkkheppofaaW.PrintLast Go.Proofs.YtbellkkheppofaaW.PrintMore
set_option linter.unusedVariables false
set_option linter.unusedSimpArgs false
set_option linter.unusedSectionVars false
set_option maxHeartbeats 8000000 in
set_option maxRecDepth 100000 in
theorem LockNone_calls (x : Op) (w : World) (hx : x.OK) : Calls Try.prog 7 #[.agg x.cells.toArray] w fun e w' => e = .returned (.bool true) ∧ Below w.heap.size w w' := by
  obtain ⟨d, tx, snap, last, a, u⟩ := x
  clear hx
  simp only [Op.cells]
  obtain ⟨w1, hw1⟩ : ∃ w1, w1 = w.alloc (.cells #[.int .i64 d, .int .i64 tx, .int .i64 snap, .int .i64 last, .string a.1, .string a.2, .string u] 32) := ⟨_, rfl⟩
  have hB1 : Below w.heap.size w w1 := by rw [hw1]; exact (Below.refl _ w).alloc (Nat.le_refl _) _
  have c1 : w1.cell? ⟨w.heap.size, 1, none⟩ = some (.int .i64 tx) := by rw [hw1]; simp [go_sem]
  have c2 : w1.cell? ⟨w.heap.size, 2, none⟩ = some (.int .i64 snap) := by rw [hw1]; simp [go_sem]
  have c3 : w1.cell? ⟨w.heap.size, 3, none⟩ = some (.int .i64 last) := by rw [hw1]; simp [go_sem]
  have c4 : w1.cell? ⟨w.heap.size, 4, none⟩ = some (.string a.1) := by rw [hw1]; simp [go_sem]
  have c5 : w1.cell? ⟨w.heap.size, 5, none⟩ = some (.string a.2) := by rw [hw1]; simp [go_sem]
  have c6 : w1.cell? ⟨w.heap.size, 6, none⟩ = some (.string u) := by rw [hw1]; simp [go_sem]
  go_enter Try.func7, Try.ntmps7
  go_wp2_with fail
  rw [← hw1]
  clear hw1
  refine (begun_calls w1).mono ?_
  rintro e w2 ⟨rfl, B2⟩
  go_wp2_with fail
  have hBw := below_then hB1 hB1.size B2
  obtain ⟨w3, hw3⟩ : ∃ w3, w3 = (w2.alloc (.cells #[.int .i64 0, .map none] 56)).alloc (.cells #[.pointer none, .pointer (some ⟨w2.heap.size, 0, none⟩)] 26) := ⟨_, rfl⟩
  have hB3 : Below w2.heap.size w2 w3 := by rw [hw3]; exact ((Below.refl _ w2).alloc (Nat.le_refl _) _).alloc (by simp) _
  have hBw3 := below_then hBw hBw.size hB3
  have F0 : ∀ q j v, w1.cell? ⟨q, j, none⟩ = some v → w3.cell? ⟨q, j, none⟩ = some v := fun q j v hv => (hB3.cell (World.block_lt_of_cell? _ _ ((B2.cell (World.block_lt_of_cell? _ _ hv)).trans hv))).trans ((B2.cell (World.block_lt_of_cell? _ _ hv)).trans hv)
  have s0 : w3.cell? ⟨w2.heap.size + 1, 0, none⟩ = some (.pointer none) := by rw [hw3]; simp [go_sem]
  have s1 : w3.cell? ⟨w2.heap.size + 1, 1, none⟩ = some (.pointer (some ⟨w2.heap.size, 0, none⟩)) := by rw [hw3]; simp [go_sem]
  have m1 : w3.cell? ⟨w2.heap.size, 1, none⟩ = some (.map none) := by rw [hw3]; simp [go_sem]
  have F : ∀ W, Below w3.heap.size w3 W → W.cell? ⟨w.heap.size, 1, none⟩ = some (.int .i64 tx) ∧ W.cell? ⟨w.heap.size, 2, none⟩ = some (.int .i64 snap) ∧ W.cell? ⟨w.heap.size, 3, none⟩ = some (.int .i64 last) ∧ W.cell? ⟨w.heap.size, 4, none⟩ = some (.string a.1) ∧ W.cell? ⟨w.heap.size, 5, none⟩ = some (.string a.2) ∧
      W.cell? ⟨w.heap.size, 6, none⟩ = some (.string u) ∧ W.cell? ⟨w2.heap.size + 1, 0, none⟩ = some (.pointer none) ∧ W.cell? ⟨w2.heap.size + 1, 1, none⟩ = some (.pointer (some ⟨w2.heap.size, 0, none⟩)) ∧ W.cell? ⟨w2.heap.size, 1, none⟩ = some (.map none) := fun W hW => by
    have G : ∀ q j v, w3.cell? ⟨q, j, none⟩ = some v → W.cell? ⟨q, j, none⟩ = some v := fun q j v hv => (hW.cell (World.block_lt_of_cell? _ _ hv)).trans hv
    exact ⟨G _ _ _ (F0 _ _ _ c1), G _ _ _ (F0 _ _ _ c2), G _ _ _ (F0 _ _ _ c3), G _ _ _ (F0 _ _ _ c4), G _ _ _ (F0 _ _ _ c5), G _ _ _ (F0 _ _ _ c6), G _ _ _ s0, G _ _ _ s1, G _ _ _ m1⟩
  have Z0 : ∀ W, Below w3.heap.size w3 W → Mg0 W (.pointer none) := fun W _ => .inl rfl
  have Z1 : ∀ W, Below w3.heap.size w3 W → Mg0 W (.pointer (some ⟨w2.heap.size, 0, none⟩)) := fun W hW => .inr ⟨_, rfl, (F W hW).2.2.2.2.2.2.2.2⟩
  obtain ⟨W0, hW0⟩ : ∃ W0, W0 = w3 := ⟨_, rfl⟩
  have hB0 : Below w3.heap.size w3 W0 := by rw [hW0]; exact Below.refl _ _
  rw [← hw3, ← hW0]
  clear hW0 hw3 c1 c2 c3 c4 c5 c6 F0 s0 s1 m1 hB3 hBw B2 hB1
  have Below_then : ∀ {A B : World}, Below w3.heap.size w3 A → Below A.heap.size A B → Below w3.heap.size w3 B := fun h k => below_then h h.size k
  obtain ⟨c1, c2, c3, c4, c5, c6, s0, s1, _⟩ := F W0 hB0
  refine wp_loop_rounds 3 ?_
  rw [rounds_succ]
  go_wp2_with fail
  refine (Holder_none (.pointer none) a W0 (Z0 W0 hB0)).mono ?_
  rintro e W1 ⟨rfl, D1⟩
  have hB1' := Below_then hB0 D1
  obtain ⟨c1, c2, c3, c4, c5, c6, s0, s1, _⟩ := F W1 hB1'
  go_wp2_with fail
  refine (Take_none (.pointer none) tx snap last a W1 (Z0 W1 hB1')).mono ?_
  rintro e W2 ⟨rfl, D2⟩
  have hB2' := Below_then hB1' D2
  obtain ⟨c1, c2, c3, c4, c5, c6, s0, s1, _⟩ := F W2 hB2'
  go_wp2_with fail
  refine (Holders_none (.pointer none) a.1 a.2 u W2 (Z0 W2 hB2')).mono ?_
  rintro e W3 ⟨rfl, rfl⟩
  go_wp2_with fail
  refine (Held_none (.pointer none) tx W2 (Z0 W2 hB2')).mono ?_
  rintro e W3 ⟨rfl, rfl⟩
  go_wp2_with fail
  refine (Release_none (.pointer none) tx W2 (Z0 W2 hB2')).mono ?_
  rintro e W3 ⟨rfl, rfl⟩
  go_wp2_with fail
  refine (Len_none (.pointer none) W2 (Z0 W2 hB2')).mono ?_
  rintro e W3 ⟨rfl, rfl⟩
  go_wp2_with fail
  refine (Clone_none (.pointer none) W2 (Z0 W2 hB2')).mono ?_
  rintro e W3 ⟨rfl, rfl⟩
  go_wp2
  clear c1 c2 c3 c4 c5 c6 s0 s1
  revert hB2'
  generalize W2 = W0
  intro hB0
  obtain ⟨c1, c2, c3, c4, c5, c6, s0, s1, _⟩ := F W0 hB0
  rw [rounds_succ]
  go_wp2_with fail
  refine (Holder_none (.pointer (some ⟨w2.heap.size, 0, none⟩)) a W0 (Z1 W0 hB0)).mono ?_
  rintro e W1 ⟨rfl, D1⟩
  have hB1' := Below_then hB0 D1
  obtain ⟨c1, c2, c3, c4, c5, c6, s0, s1, _⟩ := F W1 hB1'
  go_wp2_with fail
  refine (Take_none (.pointer (some ⟨w2.heap.size, 0, none⟩)) tx snap last a W1 (Z1 W1 hB1')).mono ?_
  rintro e W2 ⟨rfl, D2⟩
  have hB2' := Below_then hB1' D2
  obtain ⟨c1, c2, c3, c4, c5, c6, s0, s1, _⟩ := F W2 hB2'
  go_wp2_with fail
  refine (Holders_none (.pointer (some ⟨w2.heap.size, 0, none⟩)) a.1 a.2 u W2 (Z1 W2 hB2')).mono ?_
  rintro e W3 ⟨rfl, rfl⟩
  go_wp2_with fail
  refine (Held_none (.pointer (some ⟨w2.heap.size, 0, none⟩)) tx W2 (Z1 W2 hB2')).mono ?_
  rintro e W3 ⟨rfl, rfl⟩
  go_wp2_with fail
  refine (Release_none (.pointer (some ⟨w2.heap.size, 0, none⟩)) tx W2 (Z1 W2 hB2')).mono ?_
  rintro e W3 ⟨rfl, rfl⟩
  go_wp2_with fail
  refine (Len_none (.pointer (some ⟨w2.heap.size, 0, none⟩)) W2 (Z1 W2 hB2')).mono ?_
  rintro e W3 ⟨rfl, rfl⟩
  go_wp2_with fail
  refine (Clone_none (.pointer (some ⟨w2.heap.size, 0, none⟩)) W2 (Z1 W2 hB2')).mono ?_
  rintro e W3 ⟨rfl, rfl⟩
  go_wp2
  rw [rounds_succ]
  go_wp2
  go_ret
  exact ⟨rfl, below_then hBw3 hBw3.size hB2'⟩
end Go.Proofs.Ytbellkkheppofaa
