import Derived.Test.YteikmnokmcnmcaaSD
namespace Go.Proofs.Yteikmnokmcnmcaa
open Go.RowKit Go.Maps Go.Sort Go.Lib Go.Proofs.YteikmnokmcnmcaaW.PrintWords Go.Proofs.YteikmnokmcnmcaaW.PrintLast Go.Proofs.YteikmnokmcnmcaaW.PrintMore
set_option linter.unusedVariables false
set_option linter.unusedSimpArgs false
set_option linter.unusedSectionVars false
/-! ### the manager, the closures -/
def cellsR (x : Rd) : List Value := [.string x.t, .int .i64 x.k, .string x.f, .string x.u]
/-- a manager: the most, its map, how many notes; the notes of each place -/
structure Mr (w : World) (base p b : Nat) (most many : Int) (L : List (Pl × Sv)) (R : Pl → List Rd) : Prop where
  cells : w.heap[p]? = some (.cells #[.int .i64 most, .map (some b), .int .i64 many] 55 (0, 0))
  tab : TabN w b L.length L
  low : base ≤ p
  rows : ∀ e ∈ L, Lo cellsR 4 23 w base (mvS e.2) (R e.1)
  off : ∀ t, got L t = none → R t = []
  good : ∀ e ∈ L, ∀ x ∈ R e.1, x.OK
theorem Mr.cell {w : World} {base p b : Nat} {most many : Int} {L : List (Pl × Sv)} {R : Pl → List Rd} (h : Mr w base p b most many L R) :
    w.cell? ⟨p, 0, none⟩ = some (.int .i64 most) ∧ w.cell? ⟨p, 1, none⟩ = some (.map (some b)) ∧ w.cell? ⟨p, 2, none⟩ = some (.int .i64 many) :=
  ⟨cell_of_row w p 0 _ 55 (0, 0) h.cells, cell_of_row w p 1 _ 55 (0, 0) h.cells, cell_of_row w p 2 _ 55 (0, 0) h.cells⟩
theorem eqm53 (b : Nat) (w : World) : (binOp .eql 53 (.map (some b)) (.map none)).run Try.prog w = .ok (.bool false) w := by kernel_rfl
theorem eqn53 (w : World) : (binOp .eql 53 (.map none) (.map none)).run Try.prog w = .ok (.bool true) w := by kernel_rfl
/-- no manager -/
def Mr0 (w : World) (v : Value) : Prop := v = .pointer none ∨ ∃ p, v = .pointer (some ⟨p, 0, none⟩) ∧ w.cell? ⟨p, 1, none⟩ = some (.map none)
set_option maxRecDepth 100000 in
theorem none0_calls (v : Value) (w : World) (h : Mr0 w v) : Calls Try.prog 27 #[v] w fun e w' => e = .returned (.bool true) ∧ w = w' := by
  rcases h with rfl | ⟨p, rfl, h⟩
  · go_enter Try.func27, Try.ntmps27
    go_wp2
    go_ret
    exact ⟨rfl, rfl⟩
  · have eq := eqn53
    go_enter Try.func27, Try.ntmps27
    go_wp2
    go_ret
    exact ⟨rfl, rfl⟩
set_option maxRecDepth 100000 in
theorem none_calls (p b : Nat) (w : World) (h : w.cell? ⟨p, 1, none⟩ = some (.map (some b))) : Calls Try.prog 27 #[.pointer (some ⟨p, 0, none⟩)] w fun e w' => e = .returned (.bool false) ∧ w = w' := by
  have eq := eqm53 b
  go_enter Try.func27, Try.ntmps27
  go_wp2
  go_ret
  exact ⟨rfl, rfl⟩
set_option maxRecDepth 100000 in
theorem New_bad (most : Int) (w : World) (h : most < 1 ∨ 65536 < most) : Calls Try.prog 11 #[.int .i64 most] w fun e w' => e = .returned (.tuple #[.pointer none, .int .i64 1]) ∧ w = w' := by
  by_cases h1 : most < 1
  · go_enter Try.func11, Try.ntmps11
    go_wp2
    go_ret2
    exact ⟨rfl, rfl⟩
  · have h2 : 65536 < most := by omega
    go_enter Try.func11, Try.ntmps11
    go_wp2
    go_ret2
    exact ⟨rfl, rfl⟩
set_option maxRecDepth 100000 in
theorem New_calls (most : Int) (base : Nat) (w : World) (hb : base ≤ w.heap.size) (h1 : 1 ≤ most) (h2 : most ≤ 65536) : Calls Try.prog 11 #[.int .i64 most] w fun e w' => e = .returned (.tuple #[.pointer (some ⟨w.heap.size + 1, 0, none⟩), .int .i64 0]) ∧ Mr w' base (w.heap.size + 1) w.heap.size most 0 [] (fun _ => []) ∧ Below w.heap.size w w' := by
  have hmm := @run_makeMap Try.prog
  go_enter Try.func11, Try.ntmps11
  go_wp2
  go_ret2
  refine ⟨rfl, ⟨?_, (Tab.made w).kept (World.grownBy_alloc _ _ none) (by simp), by omega, by simp, fun _ _ => rfl, by simp⟩, ((Below.refl _ w).alloc (Nat.le_refl _) _).alloc (by simp) _⟩
  have := heap_alloc_new (w.alloc (.map #[] 0)) (.cells #[.int .i64 most, .map (some w.heap.size), .int .i64 0] 55)
  simpa using this
/-! the key of a note -/
def holdB (y : Rd) (key : ByteArray) : Bool :=
  if y.k = 1 then y.f.toList == key.toList
  else if y.k = 2 then !Op.bytesLess key.toList y.f.toList && (y.u.toList == [] || Op.bytesLess key.toList y.u.toList)
  else true
end Go.Proofs.Yteikmnokmcnmcaa
