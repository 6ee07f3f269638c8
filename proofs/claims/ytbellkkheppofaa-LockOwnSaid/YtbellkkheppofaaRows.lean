/-
  No cell of these rows narrows 'for every input' (looked for: loops, veiled, ifaces, maps, wideKeys, modest, calm, conditions, laid).
  DERIVED. THE GIVEN ROWS OF THIS SEAT. 5 by the template 'for every input the law returns true; each argument reads behind the call as it read before'; 0 by the template 'total and deterministic' (their statements: YtbellkkheppofaaTotals.lean).
  GIVEN WITH THE SEED: the statements are not yours to turn. If you find one false, say at which input.
  Laid BY PROGRAM, IN A SANDBOX (cutbox-rows.mjs): the forced cells as the released guide's own fill.sh prints them over the translation f7df8d81e874af74… (all of the seat's roots in one cut). By AI agents, Wed Nov 11 2026. No macro, syntax, notation, axiom, sorry.
-/
import Derived.Test.YtbellkkheppofaaChecked
import GoSem.Claim
import GoSem.ClaimJoined
import GoSem.ClaimMapViews
import Derived.JoinedTies
import Derived.KernelRfl
namespace Go.Proofs.Ytbellkkheppofaa
/- THE CELL 'sum', in the pinned program and in every row, IS THE sha256 OF THE DUMP (.gsa) THAT YtbellkkheppofaaProg.lean LOADS. Nothing in Lean hashes anything: it is a label: what it is worth is what the hold of that sum in a sandbox is worth. -/
noncomputable def Try.pinned : Pinned := { name := "ytbellkkheppofaa", sum := "f7df8d81e874af749d9cf5b7c40d176c97a0152995ede329d45c6c362ed3eea0", checked := Try.checked }
namespace Rows
def none {H : Type} : Left H := { results := [], args := [] }

/-- 'keystonelaw08.LockFirst': WHATEVER THE INPUT: true; the input reads as it did. -/
def lockFirstSpec : ChangeSpec := { name := "lockFirst", fn := fun _ => fun
  | [d1, d2, d3] => { results := [.lit (.bool true)], args := [d1, d2, d3] }
  | _ => none }
def lockFirstRow : OpenClaim := { program := "ytbellkkheppofaa", sum := "f7df8d81e874af749d9cf5b7c40d176c97a0152995ede329d45c6c362ed3eea0", func := "keystone/keystonelaw08.LockFirst", spec := "lockFirst", unfollowed := true, recurses := true, plainKeys := false, apart := false }
def LockFirstSaid : Prop := lockFirstRow.holds Try.pinned (OpenSpec.ofChange lockFirstSpec)

/-- ITS FALSE NEIGHBOUR: 'it returns false'. Refute it at one input. -/
def lockFirstWrong : ChangeSpec := { name := "lockFirst", fn := fun _ => fun
  | [d1, d2, d3] => { results := [.lit (.bool false)], args := [d1, d2, d3] }
  | _ => none }
def LockFirstWrongFalsely : Prop := lockFirstRow.holds Try.pinned (OpenSpec.ofChange lockFirstWrong)

/-- 'keystonelaw08.LockOne': WHATEVER THE INPUT: true; the input reads as it did. -/
def lockOneSpec : ChangeSpec := { name := "lockOne", fn := fun _ => fun
  | [d1, d2] => { results := [.lit (.bool true)], args := [d1, d2] }
  | _ => none }
def lockOneRow : OpenClaim := { program := "ytbellkkheppofaa", sum := "f7df8d81e874af749d9cf5b7c40d176c97a0152995ede329d45c6c362ed3eea0", func := "keystone/keystonelaw08.LockOne", spec := "lockOne", unfollowed := true, recurses := true, plainKeys := false, apart := false }
def LockOneSaid : Prop := lockOneRow.holds Try.pinned (OpenSpec.ofChange lockOneSpec)

/-- ITS FALSE NEIGHBOUR: 'it returns false'. Refute it at one input. -/
def lockOneWrong : ChangeSpec := { name := "lockOne", fn := fun _ => fun
  | [d1, d2] => { results := [.lit (.bool false)], args := [d1, d2] }
  | _ => none }
def LockOneWrongFalsely : Prop := lockOneRow.holds Try.pinned (OpenSpec.ofChange lockOneWrong)

/-- 'keystonelaw08.LockOwn': WHATEVER THE INPUT: true; the input reads as it did. -/
def lockOwnSpec : ChangeSpec := { name := "lockOwn", fn := fun _ => fun
  | [d1, d2] => { results := [.lit (.bool true)], args := [d1, d2] }
  | _ => none }
def lockOwnRow : OpenClaim := { program := "ytbellkkheppofaa", sum := "f7df8d81e874af749d9cf5b7c40d176c97a0152995ede329d45c6c362ed3eea0", func := "keystone/keystonelaw08.LockOwn", spec := "lockOwn", unfollowed := true, recurses := true, plainKeys := false, apart := false }
def LockOwnSaid : Prop := lockOwnRow.holds Try.pinned (OpenSpec.ofChange lockOwnSpec)

/-- ITS FALSE NEIGHBOUR: 'it returns false'. Refute it at one input. -/
def lockOwnWrong : ChangeSpec := { name := "lockOwn", fn := fun _ => fun
  | [d1, d2] => { results := [.lit (.bool false)], args := [d1, d2] }
  | _ => none }
def LockOwnWrongFalsely : Prop := lockOwnRow.holds Try.pinned (OpenSpec.ofChange lockOwnWrong)

/-- 'keystonelaw08.LockDoes': WHATEVER THE INPUT: true; the input reads as it did. -/
def lockDoesSpec : ChangeSpec := { name := "lockDoes", fn := fun _ => fun
  | [d1, d2] => { results := [.lit (.bool true)], args := [d1, d2] }
  | _ => none }
def lockDoesRow : OpenClaim := { program := "ytbellkkheppofaa", sum := "f7df8d81e874af749d9cf5b7c40d176c97a0152995ede329d45c6c362ed3eea0", func := "keystone/keystonelaw08.LockDoes", spec := "lockDoes", inPlace := ["maps.clone"], unfollowed := true, recurses := true, plainKeys := false, apart := false }
def LockDoesSaid : Prop := lockDoesRow.holds Try.pinned (OpenSpec.ofChange lockDoesSpec)

/-- ITS FALSE NEIGHBOUR: 'it returns false'. Refute it at one input. -/
def lockDoesWrong : ChangeSpec := { name := "lockDoes", fn := fun _ => fun
  | [d1, d2] => { results := [.lit (.bool false)], args := [d1, d2] }
  | _ => none }
def LockDoesWrongFalsely : Prop := lockDoesRow.holds Try.pinned (OpenSpec.ofChange lockDoesWrong)

/-- 'keystonelaw08.LockNone': WHATEVER THE INPUT: true; the input reads as it did. -/
def lockNoneSpec : ChangeSpec := { name := "lockNone", fn := fun _ => fun
  | [d] => { results := [.lit (.bool true)], args := [d] }
  | _ => none }
def lockNoneRow : OpenClaim := { program := "ytbellkkheppofaa", sum := "f7df8d81e874af749d9cf5b7c40d176c97a0152995ede329d45c6c362ed3eea0", func := "keystone/keystonelaw08.LockNone", spec := "lockNone", inPlace := ["maps.clone"], unfollowed := true, recurses := true, plainKeys := false, apart := false }
def LockNoneSaid : Prop := lockNoneRow.holds Try.pinned (OpenSpec.ofChange lockNoneSpec)

/-- ITS FALSE NEIGHBOUR: 'it returns false'. Refute it at one input. -/
def lockNoneWrong : ChangeSpec := { name := "lockNone", fn := fun _ => fun
  | [d] => { results := [.lit (.bool false)], args := [d] }
  | _ => none }
def LockNoneWrongFalsely : Prop := lockNoneRow.holds Try.pinned (OpenSpec.ofChange lockNoneWrong)

/- THE SECOND FORM. 'bulk': how many values and letters a reading holds, each counted each time it is reached (what is shared counts as often as it is met; a slice's spare places count too). A statement '..UptoSaid' is the law's where the arguments, and the package variables that the reading takes, are together of bulk at most 1048576: NARROWER than '..Said'. Prove '..Said' where nothing that the law and all that it calls make is longer than what came in: it says more and counts as full. Else prove '..UptoSaid'. A law counts once. -/
mutual
def uptoBulk {H : Type} : DataW H → Nat
  | .lit (.string bytes) => bytes.length + 1
  | .lit _ => 1
  | .nil => 1
  | .ptr d => uptoBulk d + 1
  | .slice elems spare => uptoBulkAll elems + uptoBulkAll spare + 1
  | .agg parts => uptoBulkAll parts + 1
  | .iface _ d => uptoBulk d + 1
  | .map entries => uptoBulkEntries entries + 1
  | .held _ => 1
def uptoBulkAll {H : Type} : List (DataW H) → Nat
  | [] => 0
  | d :: r => uptoBulk d + uptoBulkAll r
def uptoBulkEntries {H : Type} : List (Lit × DataW H) → Nat
  | [] => 0
  | x :: r => uptoBulkEntry x + uptoBulkEntries r
def uptoBulkEntry {H : Type} : Lit × DataW H → Nat
  | (.string bytes, d) => bytes.length + uptoBulk d + 1
  | (_, d) => uptoBulk d + 1
 end
def uptoSmall : (H : Type) → List (DataW H) → Bool := fun _ ds => decide (uptoBulkAll ds ≤ 1048576)
def OpenSpec.upto (s : _root_.Go.ChangeSpec) : _root_.Go.OpenSpec := { _root_.Go.OpenSpec.ofChange s with cond := some uptoSmall }

/-- 'keystonelaw08.LockFirst', WHERE WHAT IT READS IS OF BULK AT MOST 1048576: true; the input reads as it did. -/
def lockFirstUptoRow : OpenClaim := { program := "ytbellkkheppofaa", sum := "f7df8d81e874af749d9cf5b7c40d176c97a0152995ede329d45c6c362ed3eea0", func := "keystone/keystonelaw08.LockFirst", spec := "lockFirst", unfollowed := true, recurses := true, plainKeys := false, apart := false, narrowed := true }
def LockFirstUptoSaid : Prop := lockFirstUptoRow.holds Try.pinned (OpenSpec.upto lockFirstSpec)

/-- 'keystonelaw08.LockOne', WHERE WHAT IT READS IS OF BULK AT MOST 1048576: true; the input reads as it did. -/
def lockOneUptoRow : OpenClaim := { program := "ytbellkkheppofaa", sum := "f7df8d81e874af749d9cf5b7c40d176c97a0152995ede329d45c6c362ed3eea0", func := "keystone/keystonelaw08.LockOne", spec := "lockOne", unfollowed := true, recurses := true, plainKeys := false, apart := false, narrowed := true }
def LockOneUptoSaid : Prop := lockOneUptoRow.holds Try.pinned (OpenSpec.upto lockOneSpec)

/-- 'keystonelaw08.LockOwn', WHERE WHAT IT READS IS OF BULK AT MOST 1048576: true; the input reads as it did. -/
def lockOwnUptoRow : OpenClaim := { program := "ytbellkkheppofaa", sum := "f7df8d81e874af749d9cf5b7c40d176c97a0152995ede329d45c6c362ed3eea0", func := "keystone/keystonelaw08.LockOwn", spec := "lockOwn", unfollowed := true, recurses := true, plainKeys := false, apart := false, narrowed := true }
def LockOwnUptoSaid : Prop := lockOwnUptoRow.holds Try.pinned (OpenSpec.upto lockOwnSpec)

/-- 'keystonelaw08.LockDoes', WHERE WHAT IT READS IS OF BULK AT MOST 1048576: true; the input reads as it did. -/
def lockDoesUptoRow : OpenClaim := { program := "ytbellkkheppofaa", sum := "f7df8d81e874af749d9cf5b7c40d176c97a0152995ede329d45c6c362ed3eea0", func := "keystone/keystonelaw08.LockDoes", spec := "lockDoes", inPlace := ["maps.clone"], unfollowed := true, recurses := true, plainKeys := false, apart := false, narrowed := true }
def LockDoesUptoSaid : Prop := lockDoesUptoRow.holds Try.pinned (OpenSpec.upto lockDoesSpec)

/-- 'keystonelaw08.LockNone', WHERE WHAT IT READS IS OF BULK AT MOST 1048576: true; the input reads as it did. -/
def lockNoneUptoRow : OpenClaim := { program := "ytbellkkheppofaa", sum := "f7df8d81e874af749d9cf5b7c40d176c97a0152995ede329d45c6c362ed3eea0", func := "keystone/keystonelaw08.LockNone", spec := "lockNone", inPlace := ["maps.clone"], unfollowed := true, recurses := true, plainKeys := false, apart := false, narrowed := true }
def LockNoneUptoSaid : Prop := lockNoneUptoRow.holds Try.pinned (OpenSpec.upto lockNoneSpec)

end Rows
end Go.Proofs.Ytbellkkheppofaa
