/-
  No cell of these rows narrows 'for every input' (looked for: loops, veiled, ifaces, maps, wideKeys, modest, calm, conditions, laid).
  DERIVED. THE GIVEN ROWS OF THIS SEAT. 2 by the template 'for every input the law returns true; each argument reads behind the call as it read before'; 0 by the template 'total and deterministic' (their statements: YtedcnpaomphffaaTotals.lean).
  GIVEN WITH THE SEED: the statements are not yours to turn. If you find one false, say at which input.
  Laid BY PROGRAM, IN A SANDBOX (cutbox-rows.mjs): the forced cells as the released guide's own fill.sh prints them over the translation 219272440cc173cb… (all of the seat's roots in one cut). By AI agents, Wed Nov 11 2026. No macro, syntax, notation, axiom, sorry.
-/
import Derived.Test.YtedcnpaomphffaaChecked
import GoSem.Claim
import GoSem.ClaimJoined
import GoSem.ClaimMapViews
import Derived.JoinedTies
import Derived.KernelRfl
namespace Go.Proofs.Ytedcnpaomphffaa
/- THE CELL 'sum', in the pinned program and in every row, IS THE sha256 OF THE DUMP (.gsa) THAT YtedcnpaomphffaaProg.lean LOADS. Nothing in Lean hashes anything: it is a label: what it is worth is what the hold of that sum in a sandbox is worth. -/
noncomputable def Try.pinned : Pinned := { name := "ytedcnpaomphffaa", sum := "219272440cc173cbb9d7a717f2a996fa6cc1ab80fe194d73dfa572eed00e89cc", checked := Try.checked }
namespace Rows
def none {H : Type} : Left H := { results := [], args := [] }

/-- 'keystonelaw11.SerialDangers': WHATEVER THE INPUT: true; the input reads as it did. -/
def serialDangersSpec : ChangeSpec := { name := "serialDangers", fn := fun _ => fun
  | [d] => { results := [.lit (.bool true)], args := [d] }
  | _ => none }
def serialDangersRow : OpenClaim := { program := "ytedcnpaomphffaa", sum := "219272440cc173cbb9d7a717f2a996fa6cc1ab80fe194d73dfa572eed00e89cc", func := "keystone/keystonelaw11.SerialDangers", spec := "serialDangers", unfollowed := true, recurses := true, plainKeys := false, apart := false }
def SerialDangersSaid : Prop := serialDangersRow.holds Try.pinned (OpenSpec.ofChange serialDangersSpec)

/-- ITS FALSE NEIGHBOUR: 'it returns false'. Refute it at one input. -/
def serialDangersWrong : ChangeSpec := { name := "serialDangers", fn := fun _ => fun
  | [d] => { results := [.lit (.bool false)], args := [d] }
  | _ => none }
def SerialDangersWrongFalsely : Prop := serialDangersRow.holds Try.pinned (OpenSpec.ofChange serialDangersWrong)

/-- 'keystonelaw11.SerialReplays': WHATEVER THE INPUT: true; the input reads as it did. -/
def serialReplaysSpec : ChangeSpec := { name := "serialReplays", fn := fun _ => fun
  | [d] => { results := [.lit (.bool true)], args := [d] }
  | _ => none }
def serialReplaysRow : OpenClaim := { program := "ytedcnpaomphffaa", sum := "219272440cc173cbb9d7a717f2a996fa6cc1ab80fe194d73dfa572eed00e89cc", func := "keystone/keystonelaw11.SerialReplays", spec := "serialReplays", unfollowed := true, recurses := true, plainKeys := false, apart := false }
def SerialReplaysSaid : Prop := serialReplaysRow.holds Try.pinned (OpenSpec.ofChange serialReplaysSpec)

/-- ITS FALSE NEIGHBOUR: 'it returns false'. Refute it at one input. -/
def serialReplaysWrong : ChangeSpec := { name := "serialReplays", fn := fun _ => fun
  | [d] => { results := [.lit (.bool false)], args := [d] }
  | _ => none }
def SerialReplaysWrongFalsely : Prop := serialReplaysRow.holds Try.pinned (OpenSpec.ofChange serialReplaysWrong)

/- THE SECOND FORM. 'bulk': how many values and letters a reading holds, each counted each time it is reached (what is shared counts as often as it is met; a slice's spare places count too). A statement '..UptoSaid' is the law's where the arguments, and the package variables that the reading takes, are together of bulk at most 1048576: NARROWER than '..Said'. Prove '..Said' where nothing that the law and all that it calls make is longer than what came in: it says more and counts as full. Else prove '..UptoSaid'. A law counts once. -/
mutual
def uptoBulk {H : Type} : DataW H → Nat
  | .lit (.string bytes) => bytes.length + 1
  | .lit _ => 1
  | .nil => 1
  | .ptr d => uptoBulk d + 1
  | .slice elems spare => uptoBulkAll elems + uptoBulkAll spare + 1
  | .agg parts => uptoBulkAll parts + 1
  | .iface _ d => uptoBulk d + 1
  | .map entries => uptoBulkEntries entries + 1
  | .held _ => 1
def uptoBulkAll {H : Type} : List (DataW H) → Nat
  | [] => 0
  | d :: r => uptoBulk d + uptoBulkAll r
def uptoBulkEntries {H : Type} : List (Lit × DataW H) → Nat
  | [] => 0
  | x :: r => uptoBulkEntry x + uptoBulkEntries r
def uptoBulkEntry {H : Type} : Lit × DataW H → Nat
  | (.string bytes, d) => bytes.length + uptoBulk d + 1
  | (_, d) => uptoBulk d + 1
 end
def uptoSmall : (H : Type) → List (DataW H) → Bool := fun _ ds => decide (uptoBulkAll ds ≤ 1048576)
def OpenSpec.upto (s : _root_.Go.ChangeSpec) : _root_.Go.OpenSpec := { _root_.Go.OpenSpec.ofChange s with cond := some uptoSmall }

/-- 'keystonelaw11.SerialDangers', WHERE WHAT IT READS IS OF BULK AT MOST 1048576: true; the input reads as it did. -/
def serialDangersUptoRow : OpenClaim := { program := "ytedcnpaomphffaa", sum := "219272440cc173cbb9d7a717f2a996fa6cc1ab80fe194d73dfa572eed00e89cc", func := "keystone/keystonelaw11.SerialDangers", spec := "serialDangers", unfollowed := true, recurses := true, plainKeys := false, apart := false, narrowed := true }
def SerialDangersUptoSaid : Prop := serialDangersUptoRow.holds Try.pinned (OpenSpec.upto serialDangersSpec)

/-- 'keystonelaw11.SerialReplays', WHERE WHAT IT READS IS OF BULK AT MOST 1048576: true; the input reads as it did. -/
def serialReplaysUptoRow : OpenClaim := { program := "ytedcnpaomphffaa", sum := "219272440cc173cbb9d7a717f2a996fa6cc1ab80fe194d73dfa572eed00e89cc", func := "keystone/keystonelaw11.SerialReplays", spec := "serialReplays", unfollowed := true, recurses := true, plainKeys := false, apart := false, narrowed := true }
def SerialReplaysUptoSaid : Prop := serialReplaysUptoRow.holds Try.pinned (OpenSpec.upto serialReplaysSpec)

end Rows
end Go.Proofs.Ytedcnpaomphffaa
