import Derived.Test.YteikmnokmcnmcaaSL
namespace Go.Proofs.Yteikmnokmcnmcaa
open Go.RowKit Go.Maps Go.Sort Go.Lib Go.Proofs.YteikmnokmcnmcaaW.PrintWords Go.Proofs.YteikmnokmcnmcaaW.PrintLast Go.Proofs.YteikmnokmcnmcaaW.PrintMore
set_option linter.unusedVariables false
set_option linter.unusedSimpArgs false
set_option linter.unusedSectionVars false
/-! ### Equal of numbers, alike -/
set_option maxHeartbeats 4000000 in
set_option maxRecDepth 100000 in
theorem Equal_calls (b1 b2 : Nat) (v1 v2 : Value) (xs : List Int) (w : World) (h1 : Lo encI 1 2 w b1 v1 xs) (h2 : Lo encI 1 2 w b2 v2 xs) (hl : xs.length ≤ 9223372036854775806) :
    Calls Try.prog 23 #[v1, v2] w fun e w' => e = .returned (.bool true) ∧ Below w.heap.size w w' := by
  obtain ⟨A, c, rfl, hc, hA⟩ := h1.slice
  obtain ⟨B, d, rfl, hd, hB⟩ := h2.slice
  go_enter Try.func23, Try.ntmps23
  go_wp2_with fail
  go_loopw [5, 13] (fun _ iv wr => ∃ j : Nat, j ≤ xs.length ∧ iv = .int .i64 j ∧ Lo encI 1 2 wr b1 (.slice A xs.length c) xs ∧ Lo encI 1 2 wr b2 (.slice B xs.length d) xs ∧ Below w.heap.size w wr) (fun _ iv _ => xs.length - (intOf iv).toNat)
  case atStart => exact ⟨0, Nat.zero_le _, rfl, h1, h2, Below.refl _ _⟩
  case round =>
    clear h1 h2
    obtain ⟨j, hj, rfl, h1, h2, hb⟩ := hrel
    by_cases hjl : j < xs.length
    · obtain ⟨g, rfl, _⟩ := hA (by omega)
      obtain ⟨k, rfl, _⟩ := hB (by omega)
      have y0 : wr.cell? ⟨g, j, none⟩ = some (.int .i64 xs[j]) := by simpa using h1.cell (fun _ => rfl) rfl j xs[j] (List.getElem?_eq_getElem hjl) 0 _ rfl
      have z0 : wr.cell? ⟨k, j, none⟩ = some (.int .i64 xs[j]) := by simpa using h2.cell (fun _ => rfl) rfl j xs[j] (List.getElem?_eq_getElem hjl) 0 _ rfl
      generalize xs[j] = x at y0 z0
      have D1 := h1.grown (drewG wr) (by simp)
      have D2 := h2.grown (drewG wr) (by simp)
      have DB := hb.grown (drewG wr) hb.size (by simp)
      go_wp2_with fail
      go_region_held3 (fun W => W.cell? ⟨g, j, none⟩ = some (.int .i64 x) ∧ W.cell? ⟨k, j, none⟩ = some (.int .i64 x)) (exact ⟨y0, z0⟩) (fail)
      go_wp2
      go_roundw
      case rel => exact ⟨j + 1, by omega, by go_num, D1, D2, DB⟩
      case measure => simp [intOf]; omega
    · obtain rfl : j = xs.length := by omega
      go_wp2
      go_ret
      exact ⟨rfl, hb⟩
end Go.Proofs.Yteikmnokmcnmcaa
