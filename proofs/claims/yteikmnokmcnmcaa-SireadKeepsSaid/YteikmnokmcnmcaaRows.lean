/-
  No cell of these rows narrows 'for every input' (looked for: loops, veiled, ifaces, maps, wideKeys, modest, calm, conditions, laid).
  DERIVED. THE GIVEN ROWS OF THIS SEAT. 5 by the template 'for every input the law returns true; each argument reads behind the call as it read before'; 0 by the template 'total and deterministic' (their statements: YteikmnokmcnmcaaTotals.lean).
  GIVEN WITH THE SEED: the statements are not yours to turn. If you find one false, say at which input.
  Laid BY PROGRAM, IN A SANDBOX (cutbox-rows.mjs): the forced cells as the released guide's own fill.sh prints them over the translation 75a1f3452b09aced… (all of the seat's roots in one cut). By AI agents, Wed Nov 11 2026. No macro, syntax, notation, axiom, sorry.
-/
import Derived.Test.YteikmnokmcnmcaaChecked
import GoSem.Claim
import GoSem.ClaimJoined
import GoSem.ClaimMapViews
import Derived.JoinedTies
import Derived.KernelRfl
namespace Go.Proofs.Yteikmnokmcnmcaa
/- THE CELL 'sum', in the pinned program and in every row, IS THE sha256 OF THE DUMP (.gsa) THAT YteikmnokmcnmcaaProg.lean LOADS. Nothing in Lean hashes anything: it is a label: what it is worth is what the hold of that sum in a sandbox is worth. -/
noncomputable def Try.pinned : Pinned := { name := "yteikmnokmcnmcaa", sum := "75a1f3452b09acedb563ed8b4cf665afd5c984180a7baeb609c939a522493787", checked := Try.checked }
namespace Rows
def none {H : Type} : Left H := { results := [], args := [] }

/-- 'keystonelaw09.SireadCovers': WHATEVER THE INPUT: true; the input reads as it did. -/
def sireadCoversSpec : ChangeSpec := { name := "sireadCovers", fn := fun _ => fun
  | [d1, d2] => { results := [.lit (.bool true)], args := [d1, d2] }
  | _ => none }
def sireadCoversRow : OpenClaim := { program := "yteikmnokmcnmcaa", sum := "75a1f3452b09acedb563ed8b4cf665afd5c984180a7baeb609c939a522493787", func := "keystone/keystonelaw09.SireadCovers", spec := "sireadCovers", inPlace := ["maps.clone"], unfollowed := true, recurses := true, plainKeys := false, apart := false }
def SireadCoversSaid : Prop := sireadCoversRow.holds Try.pinned (OpenSpec.ofChange sireadCoversSpec)

/-- ITS FALSE NEIGHBOUR: 'it returns false'. Refute it at one input. -/
def sireadCoversWrong : ChangeSpec := { name := "sireadCovers", fn := fun _ => fun
  | [d1, d2] => { results := [.lit (.bool false)], args := [d1, d2] }
  | _ => none }
def SireadCoversWrongFalsely : Prop := sireadCoversRow.holds Try.pinned (OpenSpec.ofChange sireadCoversWrong)

/-- 'keystonelaw09.SireadHolds': WHATEVER THE INPUT: true; the input reads as it did. -/
def sireadHoldsSpec : ChangeSpec := { name := "sireadHolds", fn := fun _ => fun
  | [d1, d2, d3] => { results := [.lit (.bool true)], args := [d1, d2, d3] }
  | _ => none }
def sireadHoldsRow : OpenClaim := { program := "yteikmnokmcnmcaa", sum := "75a1f3452b09acedb563ed8b4cf665afd5c984180a7baeb609c939a522493787", func := "keystone/keystonelaw09.SireadHolds", spec := "sireadHolds", inPlace := ["maps.clone"], unfollowed := true, recurses := true, plainKeys := false, apart := false }
def SireadHoldsSaid : Prop := sireadHoldsRow.holds Try.pinned (OpenSpec.ofChange sireadHoldsSpec)

/-- ITS FALSE NEIGHBOUR: 'it returns false'. Refute it at one input. -/
def sireadHoldsWrong : ChangeSpec := { name := "sireadHolds", fn := fun _ => fun
  | [d1, d2, d3] => { results := [.lit (.bool false)], args := [d1, d2, d3] }
  | _ => none }
def SireadHoldsWrongFalsely : Prop := sireadHoldsRow.holds Try.pinned (OpenSpec.ofChange sireadHoldsWrong)

/-- 'keystonelaw09.SireadLean': WHATEVER THE INPUT: true; the input reads as it did. -/
def sireadLeanSpec : ChangeSpec := { name := "sireadLean", fn := fun _ => fun
  | [d1, d2] => { results := [.lit (.bool true)], args := [d1, d2] }
  | _ => none }
def sireadLeanRow : OpenClaim := { program := "yteikmnokmcnmcaa", sum := "75a1f3452b09acedb563ed8b4cf665afd5c984180a7baeb609c939a522493787", func := "keystone/keystonelaw09.SireadLean", spec := "sireadLean", inPlace := ["maps.clone"], unfollowed := true, recurses := true, plainKeys := false, apart := false }
def SireadLeanSaid : Prop := sireadLeanRow.holds Try.pinned (OpenSpec.ofChange sireadLeanSpec)

/-- ITS FALSE NEIGHBOUR: 'it returns false'. Refute it at one input. -/
def sireadLeanWrong : ChangeSpec := { name := "sireadLean", fn := fun _ => fun
  | [d1, d2] => { results := [.lit (.bool false)], args := [d1, d2] }
  | _ => none }
def SireadLeanWrongFalsely : Prop := sireadLeanRow.holds Try.pinned (OpenSpec.ofChange sireadLeanWrong)

/-- 'keystonelaw09.SireadKeeps': WHATEVER THE INPUT: true; the input reads as it did. -/
def sireadKeepsSpec : ChangeSpec := { name := "sireadKeeps", fn := fun _ => fun
  | [d1, d2] => { results := [.lit (.bool true)], args := [d1, d2] }
  | _ => none }
def sireadKeepsRow : OpenClaim := { program := "yteikmnokmcnmcaa", sum := "75a1f3452b09acedb563ed8b4cf665afd5c984180a7baeb609c939a522493787", func := "keystone/keystonelaw09.SireadKeeps", spec := "sireadKeeps", inPlace := ["maps.clone"], unfollowed := true, recurses := true, plainKeys := false, apart := false }
def SireadKeepsSaid : Prop := sireadKeepsRow.holds Try.pinned (OpenSpec.ofChange sireadKeepsSpec)

/-- ITS FALSE NEIGHBOUR: 'it returns false'. Refute it at one input. -/
def sireadKeepsWrong : ChangeSpec := { name := "sireadKeeps", fn := fun _ => fun
  | [d1, d2] => { results := [.lit (.bool false)], args := [d1, d2] }
  | _ => none }
def SireadKeepsWrongFalsely : Prop := sireadKeepsRow.holds Try.pinned (OpenSpec.ofChange sireadKeepsWrong)

/-- 'keystonelaw09.SireadNone': WHATEVER THE INPUT: true; the input reads as it did. -/
def sireadNoneSpec : ChangeSpec := { name := "sireadNone", fn := fun _ => fun
  | [d] => { results := [.lit (.bool true)], args := [d] }
  | _ => none }
def sireadNoneRow : OpenClaim := { program := "yteikmnokmcnmcaa", sum := "75a1f3452b09acedb563ed8b4cf665afd5c984180a7baeb609c939a522493787", func := "keystone/keystonelaw09.SireadNone", spec := "sireadNone", inPlace := ["maps.clone"], unfollowed := true, recurses := true, plainKeys := false, apart := false }
def SireadNoneSaid : Prop := sireadNoneRow.holds Try.pinned (OpenSpec.ofChange sireadNoneSpec)

/-- ITS FALSE NEIGHBOUR: 'it returns false'. Refute it at one input. -/
def sireadNoneWrong : ChangeSpec := { name := "sireadNone", fn := fun _ => fun
  | [d] => { results := [.lit (.bool false)], args := [d] }
  | _ => none }
def SireadNoneWrongFalsely : Prop := sireadNoneRow.holds Try.pinned (OpenSpec.ofChange sireadNoneWrong)

/- THE SECOND FORM. 'bulk': how many values and letters a reading holds, each counted each time it is reached (what is shared counts as often as it is met; a slice's spare places count too). A statement '..UptoSaid' is the law's where the arguments, and the package variables that the reading takes, are together of bulk at most 1048576: NARROWER than '..Said'. Prove '..Said' where nothing that the law and all that it calls make is longer than what came in: it says more and counts as full. Else prove '..UptoSaid'. A law counts once. -/
mutual
def uptoBulk {H : Type} : DataW H → Nat
  | .lit (.string bytes) => bytes.length + 1
  | .lit _ => 1
  | .nil => 1
  | .ptr d => uptoBulk d + 1
  | .slice elems spare => uptoBulkAll elems + uptoBulkAll spare + 1
  | .agg parts => uptoBulkAll parts + 1
  | .iface _ d => uptoBulk d + 1
  | .map entries => uptoBulkEntries entries + 1
  | .held _ => 1
def uptoBulkAll {H : Type} : List (DataW H) → Nat
  | [] => 0
  | d :: r => uptoBulk d + uptoBulkAll r
def uptoBulkEntries {H : Type} : List (Lit × DataW H) → Nat
  | [] => 0
  | x :: r => uptoBulkEntry x + uptoBulkEntries r
def uptoBulkEntry {H : Type} : Lit × DataW H → Nat
  | (.string bytes, d) => bytes.length + uptoBulk d + 1
  | (_, d) => uptoBulk d + 1
 end
def uptoSmall : (H : Type) → List (DataW H) → Bool := fun _ ds => decide (uptoBulkAll ds ≤ 1048576)
def OpenSpec.upto (s : _root_.Go.ChangeSpec) : _root_.Go.OpenSpec := { _root_.Go.OpenSpec.ofChange s with cond := some uptoSmall }

/-- 'keystonelaw09.SireadCovers', WHERE WHAT IT READS IS OF BULK AT MOST 1048576: true; the input reads as it did. -/
def sireadCoversUptoRow : OpenClaim := { program := "yteikmnokmcnmcaa", sum := "75a1f3452b09acedb563ed8b4cf665afd5c984180a7baeb609c939a522493787", func := "keystone/keystonelaw09.SireadCovers", spec := "sireadCovers", inPlace := ["maps.clone"], unfollowed := true, recurses := true, plainKeys := false, apart := false, narrowed := true }
def SireadCoversUptoSaid : Prop := sireadCoversUptoRow.holds Try.pinned (OpenSpec.upto sireadCoversSpec)

/-- 'keystonelaw09.SireadHolds', WHERE WHAT IT READS IS OF BULK AT MOST 1048576: true; the input reads as it did. -/
def sireadHoldsUptoRow : OpenClaim := { program := "yteikmnokmcnmcaa", sum := "75a1f3452b09acedb563ed8b4cf665afd5c984180a7baeb609c939a522493787", func := "keystone/keystonelaw09.SireadHolds", spec := "sireadHolds", inPlace := ["maps.clone"], unfollowed := true, recurses := true, plainKeys := false, apart := false, narrowed := true }
def SireadHoldsUptoSaid : Prop := sireadHoldsUptoRow.holds Try.pinned (OpenSpec.upto sireadHoldsSpec)

/-- 'keystonelaw09.SireadLean', WHERE WHAT IT READS IS OF BULK AT MOST 1048576: true; the input reads as it did. -/
def sireadLeanUptoRow : OpenClaim := { program := "yteikmnokmcnmcaa", sum := "75a1f3452b09acedb563ed8b4cf665afd5c984180a7baeb609c939a522493787", func := "keystone/keystonelaw09.SireadLean", spec := "sireadLean", inPlace := ["maps.clone"], unfollowed := true, recurses := true, plainKeys := false, apart := false, narrowed := true }
def SireadLeanUptoSaid : Prop := sireadLeanUptoRow.holds Try.pinned (OpenSpec.upto sireadLeanSpec)

/-- 'keystonelaw09.SireadKeeps', WHERE WHAT IT READS IS OF BULK AT MOST 1048576: true; the input reads as it did. -/
def sireadKeepsUptoRow : OpenClaim := { program := "yteikmnokmcnmcaa", sum := "75a1f3452b09acedb563ed8b4cf665afd5c984180a7baeb609c939a522493787", func := "keystone/keystonelaw09.SireadKeeps", spec := "sireadKeeps", inPlace := ["maps.clone"], unfollowed := true, recurses := true, plainKeys := false, apart := false, narrowed := true }
def SireadKeepsUptoSaid : Prop := sireadKeepsUptoRow.holds Try.pinned (OpenSpec.upto sireadKeepsSpec)

/-- 'keystonelaw09.SireadNone', WHERE WHAT IT READS IS OF BULK AT MOST 1048576: true; the input reads as it did. -/
def sireadNoneUptoRow : OpenClaim := { program := "yteikmnokmcnmcaa", sum := "75a1f3452b09acedb563ed8b4cf665afd5c984180a7baeb609c939a522493787", func := "keystone/keystonelaw09.SireadNone", spec := "sireadNone", inPlace := ["maps.clone"], unfollowed := true, recurses := true, plainKeys := false, apart := false, narrowed := true }
def SireadNoneUptoSaid : Prop := sireadNoneUptoRow.holds Try.pinned (OpenSpec.upto sireadNoneSpec)

end Rows
end Go.Proofs.Yteikmnokmcnmcaa
