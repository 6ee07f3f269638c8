import Derived.Test.YtbellkkheppofaaT
namespace Go.Proofs.Ytbellkkheppofaa
open Go.RowKit Go.Maps Go.Sort Go.Lib Go.Proofs.YtbellkkheppofaaW.PrintWords Go.Proofs.YtbellkkheppofaaW.PrintLast Go.Proofs.YtbellkkheppofaaW.PrintMore
set_option linter.unusedVariables false
set_option linter.unusedSimpArgs false
set_option linter.unusedSectionVars false
theorem cloneMap_calls (W : World) (b n : Nat) (L : List (Lk × Int)) (h : TabL W b n L) : Calls Try.prog 37 #[.map (some b)] W fun e w' => e = .returned (.map (some W.heap.size)) ∧ TabL w' W.heap.size n L ∧ Below W.heap.size W w' := by
  obtain ⟨D, h1, h2⟩ := h
  refine Calls.mono (AnyW.maps_Clone_owns Try.cloneMap 23 (plainElem Try.prog 2) b n D W h1) ?_
  rintro e w' ⟨rfl, h3, _, h5⟩
  exact ⟨rfl, ⟨D, h3, h2⟩, h5⟩
set_option maxHeartbeats 4000000 in
set_option maxRecDepth 100000 in
theorem Clone_calls (p b : Nat) (most : Int) (L : List (Lk × Int)) (w : World) (h : Mg w p b most L) :
    Calls Try.prog 22 #[.pointer (some ⟨p, 0, none⟩)] w fun e w' => ∃ p' b', e = .returned (.pointer (some ⟨p', 0, none⟩)) ∧ Mg w' p' b' most L ∧ w.heap.size ≤ p' ∧ w.heap.size ≤ b' ∧ Below w.heap.size w w' := by
  have N := none_calls p b w h.map
  have hm := h.map
  have hk := h.most
  have hT := h.tab
  go_enter Try.func22, Try.ntmps22
  go_wp2_with fail
  refine N.mono ?_
  rintro e w' ⟨rfl, rfl⟩
  go_wp2_with fail
  go_region_held3 (fun W => W.cell? ⟨p, 0, none⟩ = some (.int .i64 most) ∧ W.cell? ⟨p, 1, none⟩ = some (.map (some b))) (first | exact ⟨hk, hm⟩ | exact ⟨hk1, hm1⟩ | exact ⟨(((Below.refl _ w1).alloc (Nat.le_refl _) _).cell (World.block_lt_of_cell? _ _ hk1)).trans hk1, (((Below.refl _ w1).alloc (Nat.le_refl _) _).cell (World.block_lt_of_cell? _ _ hm1)).trans hm1⟩)
    ((go_at_call 37; refine (cloneMap_calls _ b L.length L (by exact hT)).mono ?_; rintro e w1 ⟨rfl, T1, B1⟩; have hk1 := (B1.cell (World.block_lt_of_cell? _ _ hk)).trans hk; have hm1 := (B1.cell (World.block_lt_of_cell? _ _ hm)).trans hm))
  go_wp2
  go_ret
  refine ⟨w1.heap.size, w.heap.size, rfl, ⟨by simp [go_sem], by simp [go_sem], T1.kept (World.grownBy_alloc _ _ none) (by simp)⟩, B1.size, Nat.le_refl _, ?_⟩
  exact (show Below w.heap.size w w1 from ⟨B1.os, B1.tape, B1.output, B1.size, B1.block⟩).alloc B1.size _
end Go.Proofs.Ytbellkkheppofaa
