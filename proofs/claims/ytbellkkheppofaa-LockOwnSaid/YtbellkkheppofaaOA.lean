import Derived.Test.YtbellkkheppofaaM
namespace Go.Proofs.Ytbellkkheppofaa
open Go.ChangeShapes Go.WideShapes Go.ChangeAt Go.RowKit Go.Proofs.YtbellkkheppofaaW.PrintWords Go.Proofs.YtbellkkheppofaaW.PrintLast Go.Proofs.YtbellkkheppofaaW.PrintMore
set_option linter.unusedVariables false
set_option linter.unusedSectionVars false
def dOp : Kd Op := Kd.flat Op.cells 7 (fun _ => rfl) (fun x u hu => by simp [Op.cells] at hu; rcases hu with rfl | rfl | rfl | rfl | rfl | rfl | rfl <;> rfl)
/-- a script as it came -/
structure Scr where
  A : Option Addr
  c : Nat
  xs : List Op
def Scr.val (z : Scr) : Value := .slice z.A z.xs.length z.c
structure Scr.OK (z : Scr) (w : World) : Prop where
  reads : dOp.C w z.A z.xs.length z.xs
  ops : ∀ x ∈ z.xs, x.OK
  len : z.xs.length * 80 ≤ reachBytes
section
variable {H : Type} {enc : TypeId × Value → H} {w : World} {base : Nat} {spare : Nat → Bool} {held : Bool}
set_option maxRecDepth 100000 in
theorem open_lockp {ts : List TypeId} {ds : List (DataW H)} (hsz : (DataW.weightsEach Try.prog ts ds).all (· ≤ reachBytes) = true) {j : Nat} {r : Reach} {b0 : Nat} {v : Value} {d : DataW H} {p : List MemPlace} (ht : ts[j]? = some 23) (hd : ds[j]? = some d)
    (hv : Value.okWide Try.prog w r b0 23 v) (h : DataW.Trod enc Try.prog w base spare held 23 v d p) : ∃ x : Lk, v = mkL x ∧ okL x := by
  obtain ⟨ca, rfl, hs⟩ := okWide_struct Try.underlying23 hv
  obtain ⟨fuel, hf⟩ := h
  obtain ⟨x, e, hx⟩ := opens_lock hf (light_of hsz ht hd)
  refine ⟨x, ?_, hx⟩
  have e' : ca.toList = [.string x.1, .string x.2] := e
  unfold mkL
  rw [← Array.toArray_toList (xs := ca), e']
set_option maxRecDepth 100000 in
theorem open_script {ts : List TypeId} {ds : List (DataW H)} (hsz : (DataW.weightsEach Try.prog ts ds).all (· ≤ reachBytes) = true) {j : Nat} {r : Reach} {b0 : Nat} {v : Value} {d : DataW H} {p : List MemPlace} (ht : ts[j]? = some 24) (hd : ds[j]? = some d)
    (hv : Value.okWide Try.prog w r b0 24 v) (h : DataW.Trod enc Try.prog w base spare held 24 v d p) : ∃ z : Scr, v = z.val ∧ z.OK w := by
  obtain ⟨a, n, c, rfl⟩ := okWide_slice Try.underlying24 hv
  obtain ⟨fuel, hf⟩ := h
  obtain ⟨A, c', xs, e, h1, h2, h3, h4, h5⟩ := opens_C (d := dOp) Try.underlying24 (by kernel_rfl) opens_op hf (light_of hsz ht hd)
  simp [Value.cells] at e
  obtain ⟨rfl, rfl, rfl⟩ := e
  exact ⟨⟨a, c, xs⟩, rfl, h3, h5, by have hb : Try.prog.bytesOf 32 = 80 := by kernel_rfl
                                     rw [hb] at h4; exact h4⟩
end
end Go.Proofs.Ytbellkkheppofaa
