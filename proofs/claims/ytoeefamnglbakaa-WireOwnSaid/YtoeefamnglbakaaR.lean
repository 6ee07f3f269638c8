import Derived.Test.YtoeefamnglbakaaQ
namespace Go.Proofs.Ytoeefamnglbakaa
open Go.RowKit Go.Shelf Go.Proofs.YtoeefamnglbakaaW.PrintWords Go.Proofs.YtoeefamnglbakaaW.PrintLast Go.Proofs.YtoeefamnglbakaaW.PrintMore
set_option linter.unusedVariables false
set_option linter.unusedSimpArgs false
attribute [local go_sem] t3 ts
set_option maxHeartbeats 4000000 in
set_option maxRecDepth 100000 in
theorem Frames_calls (A : Option Addr) (c : Nat) (l : List Int) (w : World) (hr : Kd.C (Kd.int .u8) w A l.length l) (hc : l.length ≤ c) (hb : bytesOK l) (hmx : l.length ≤ 140737488351232) :
    Calls Try.prog 31 #[.slice A l.length c] w fun e w' => ∃ B A' c', e = .returned (.func (.func 39) #[] #[.pointer (some ⟨B, 0, none⟩)]) ∧ w.heap.size ≤ B ∧ B < w'.heap.size ∧ w'.cell? ⟨B, 0, none⟩ = some (.slice A' l.length c') ∧ Kd.C (Kd.int .u8) w' A' l.length l ∧ l.length ≤ c' ∧ Below w.heap.size w w' := by
  obtain ⟨w1, hw1⟩ : ∃ w1, w1 = w.alloc (.cells #[.slice A l.length c] 22) := ⟨_, rfl⟩
  have hB1 : Below w.heap.size w w1 := by rw [hw1]; exact (Below.refl _ w).alloc (Nat.le_refl _) _
  have hs1 : w1.heap.size = w.heap.size + 1 := by rw [hw1]; simp
  have hc1 : w1.cell? ⟨w.heap.size, 0, none⟩ = some (.slice A l.length c) := by rw [hw1]; simp [go_sem]
  have hf1 : w1.frozen? ⟨w.heap.size, 0, none⟩ = false := by rw [hw1]; simp [go_sem]
  have K := Clone_calls A c l w1 (Kd.C_below hr hB1)
  go_enter Try.func31, Try.ntmps31
  go_wp2_with fail
  rw [← hw1]
  refine (K hmx).mono ?_
  rintro e w2 ⟨v, rfl, H⟩
  have hc2 := (H.2.cell (p := ⟨w.heap.size, 0, none⟩) (by show w.heap.size < _; omega)).trans hc1
  have hf2 := (H.2.frozen (p := ⟨w.heap.size, 0, none⟩) (by show w.heap.size < _; omega)).trans hf1
  obtain ⟨A', c', rfl, hc', C'⟩ := H.reads
  have hB2 := Below_trans hB1 H.2
  have hs2 := H.2.size
  go_wp2
  go_ret
  refine ⟨_, A', c', rfl, Nat.le_refl _, ?_, ?_, ?_, hc', hB2.setCell (p := ⟨w.heap.size, 0, none⟩) (Nat.le_refl _) _⟩
  · simp; omega
  · exact World.cell?_setCell_same' _ _ _ (by rw [hc2]; rfl)
  · have := Kd.R_far (p := ⟨w.heap.size, 0, none⟩) (Kd.R_bound H.1) (fun k hk e => by have := hk.2.1; subst e; simp only at this; omega) (.slice A' l.length c')
    obtain ⟨A3, c3, e3, _, C3⟩ := Kd.R_reads this
    injection e3 with e3 _ _
    subst e3
    exact C3

theorem cells_turns {b : Nat} {A B : World} (t : Turns b A B) {p : Addr} {v : Value} (h : A.cell? p = some v) : B.cell? p = some v := by
  obtain ⟨l, o, o', hl, ho, hc, rfl⟩ := t
  exact cell_kept h (grownBy_putObj' A l o') (fun r e => by cases e; exact ⟨_, ho, hc⟩)
theorem frozen_turns {b : Nat} {A B : World} (t : Turns b A B) {p : Addr} {v : Value} (h : A.cell? p = some v) (hf : A.frozen? p = false) : B.frozen? p = false := by
  obtain ⟨l, o, o', hl, ho, hc, rfl⟩ := t
  exact (frozen_kept h (grownBy_putObj' A l o') (fun r e => by cases e; exact ⟨_, ho, hc⟩)).trans hf
theorem cells_lt {A : World} {p : Addr} {v : Value} (h : A.cell? p = some v) : p.block < A.heap.size := World.block_lt_of_cell? _ _ h
end Go.Proofs.Ytoeefamnglbakaa
