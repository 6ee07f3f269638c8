/-
  No cell of these rows narrows 'for every input' (looked for: loops, veiled, ifaces, maps, wideKeys, modest, calm, conditions, laid).
  DERIVED. THE GIVEN ROWS OF THIS SEAT. 8 by the template 'for every input the law returns true; each argument reads behind the call as it read before'; 0 by the template 'total and deterministic' (their statements: YthaoedfalkebbaaGreatTotals.lean).
  GIVEN WITH THE SEED: the statements are not yours to turn. If you find one false, say at which input.
  Laid BY PROGRAM, IN A SANDBOX (cutbox-rows.mjs): the forced cells as the released guide's own fill.sh prints them over the translation 6d5be9a6738ae568… (all of the seat's roots in one cut). By AI agents, Wed Nov 11 2026. No macro, syntax, notation, axiom, sorry.
-/
import Derived.Test.YthaoedfalkebbaaGreatChecked
import GoSem.Claim
import GoSem.ClaimJoined
import GoSem.ClaimMapViews
import Derived.JoinedTies
import Derived.KernelRfl
namespace Go.Proofs.YthaoedfalkebbaaGreat
/- THE CELL 'sum', in the pinned program and in every row, IS THE sha256 OF THE DUMP (.gsa) THAT YthaoedfalkebbaaGreatProg.lean LOADS. Nothing in Lean hashes anything: it is a label: what it is worth is what the hold of that sum in a sandbox is worth. -/
noncomputable def Tryz.pinned : Pinned := { name := "ythaoedfalkebbaagreat", sum := "6d5be9a6738ae56869b4e8f779b57860af026948bc4ad0b95147f6fb58a8411e", checked := Tryz.checked }
namespace Rows
def none {H : Type} : Left H := { results := [], args := [] }

/-- 'keystonelaw10.SsiSkew': WHATEVER THE INPUT: true; the input reads as it did. -/
def ssiSkewSpec : ChangeSpec := { name := "ssiSkew", fn := fun _ => fun
  | [d1, d2, d3, d4] => { results := [.lit (.bool true)], args := [d1, d2, d3, d4] }
  | _ => none }
def ssiSkewRow : OpenClaim := { program := "ythaoedfalkebbaagreat", sum := "6d5be9a6738ae56869b4e8f779b57860af026948bc4ad0b95147f6fb58a8411e", func := "keystone/keystonelaw10.SsiSkew", spec := "ssiSkew", inPlace := ["maps.clone"], unfollowed := true, recurses := true, plainKeys := false, apart := false }
def SsiSkewSaid : Prop := ssiSkewRow.holds Tryz.pinned (OpenSpec.ofChange ssiSkewSpec)

/-- ITS FALSE NEIGHBOUR: 'it returns false'. Refute it at one input. -/
def ssiSkewWrong : ChangeSpec := { name := "ssiSkew", fn := fun _ => fun
  | [d1, d2, d3, d4] => { results := [.lit (.bool false)], args := [d1, d2, d3, d4] }
  | _ => none }
def SsiSkewWrongFalsely : Prop := ssiSkewRow.holds Tryz.pinned (OpenSpec.ofChange ssiSkewWrong)

/-- 'keystonelaw10.SsiSerial': WHATEVER THE INPUT: true; the input reads as it did. -/
def ssiSerialSpec : ChangeSpec := { name := "ssiSerial", fn := fun _ => fun
  | [d1, d2] => { results := [.lit (.bool true)], args := [d1, d2] }
  | _ => none }
def ssiSerialRow : OpenClaim := { program := "ythaoedfalkebbaagreat", sum := "6d5be9a6738ae56869b4e8f779b57860af026948bc4ad0b95147f6fb58a8411e", func := "keystone/keystonelaw10.SsiSerial", spec := "ssiSerial", inPlace := ["maps.clone"], unfollowed := true, recurses := true, plainKeys := false, apart := false }
def SsiSerialSaid : Prop := ssiSerialRow.holds Tryz.pinned (OpenSpec.ofChange ssiSerialSpec)

/-- ITS FALSE NEIGHBOUR: 'it returns false'. Refute it at one input. -/
def ssiSerialWrong : ChangeSpec := { name := "ssiSerial", fn := fun _ => fun
  | [d1, d2] => { results := [.lit (.bool false)], args := [d1, d2] }
  | _ => none }
def SsiSerialWrongFalsely : Prop := ssiSerialRow.holds Tryz.pinned (OpenSpec.ofChange ssiSerialWrong)

/-- 'keystonelaw10.SsiFirst': WHATEVER THE INPUT: true; the input reads as it did. -/
def ssiFirstSpec : ChangeSpec := { name := "ssiFirst", fn := fun _ => fun
  | [d1, d2] => { results := [.lit (.bool true)], args := [d1, d2] }
  | _ => none }
def ssiFirstRow : OpenClaim := { program := "ythaoedfalkebbaagreat", sum := "6d5be9a6738ae56869b4e8f779b57860af026948bc4ad0b95147f6fb58a8411e", func := "keystone/keystonelaw10.SsiFirst", spec := "ssiFirst", inPlace := ["maps.clone"], unfollowed := true, recurses := true, plainKeys := false, apart := false }
def SsiFirstSaid : Prop := ssiFirstRow.holds Tryz.pinned (OpenSpec.ofChange ssiFirstSpec)

/-- ITS FALSE NEIGHBOUR: 'it returns false'. Refute it at one input. -/
def ssiFirstWrong : ChangeSpec := { name := "ssiFirst", fn := fun _ => fun
  | [d1, d2] => { results := [.lit (.bool false)], args := [d1, d2] }
  | _ => none }
def SsiFirstWrongFalsely : Prop := ssiFirstRow.holds Tryz.pinned (OpenSpec.ofChange ssiFirstWrong)

/-- 'keystonelaw10.SsiAlone': WHATEVER THE INPUT: true; the input reads as it did. -/
def ssiAloneSpec : ChangeSpec := { name := "ssiAlone", fn := fun _ => fun
  | [d1, d2] => { results := [.lit (.bool true)], args := [d1, d2] }
  | _ => none }
def ssiAloneRow : OpenClaim := { program := "ythaoedfalkebbaagreat", sum := "6d5be9a6738ae56869b4e8f779b57860af026948bc4ad0b95147f6fb58a8411e", func := "keystone/keystonelaw10.SsiAlone", spec := "ssiAlone", inPlace := ["maps.clone"], unfollowed := true, recurses := true, plainKeys := false, apart := false }
def SsiAloneSaid : Prop := ssiAloneRow.holds Tryz.pinned (OpenSpec.ofChange ssiAloneSpec)

/-- ITS FALSE NEIGHBOUR: 'it returns false'. Refute it at one input. -/
def ssiAloneWrong : ChangeSpec := { name := "ssiAlone", fn := fun _ => fun
  | [d1, d2] => { results := [.lit (.bool false)], args := [d1, d2] }
  | _ => none }
def SsiAloneWrongFalsely : Prop := ssiAloneRow.holds Tryz.pinned (OpenSpec.ofChange ssiAloneWrong)

/-- 'keystonelaw10.SsiBounded': WHATEVER THE INPUT: true; the input reads as it did. -/
def ssiBoundedSpec : ChangeSpec := { name := "ssiBounded", fn := fun _ => fun
  | [d1, d2] => { results := [.lit (.bool true)], args := [d1, d2] }
  | _ => none }
def ssiBoundedRow : OpenClaim := { program := "ythaoedfalkebbaagreat", sum := "6d5be9a6738ae56869b4e8f779b57860af026948bc4ad0b95147f6fb58a8411e", func := "keystone/keystonelaw10.SsiBounded", spec := "ssiBounded", inPlace := ["maps.clone"], unfollowed := true, recurses := true, plainKeys := false, apart := false }
def SsiBoundedSaid : Prop := ssiBoundedRow.holds Tryz.pinned (OpenSpec.ofChange ssiBoundedSpec)

/-- ITS FALSE NEIGHBOUR: 'it returns false'. Refute it at one input. -/
def ssiBoundedWrong : ChangeSpec := { name := "ssiBounded", fn := fun _ => fun
  | [d1, d2] => { results := [.lit (.bool false)], args := [d1, d2] }
  | _ => none }
def SsiBoundedWrongFalsely : Prop := ssiBoundedRow.holds Tryz.pinned (OpenSpec.ofChange ssiBoundedWrong)

/-- 'keystonelaw10.SsiLeaves': WHATEVER THE INPUT: true; the input reads as it did. -/
def ssiLeavesSpec : ChangeSpec := { name := "ssiLeaves", fn := fun _ => fun
  | [d1, d2] => { results := [.lit (.bool true)], args := [d1, d2] }
  | _ => none }
def ssiLeavesRow : OpenClaim := { program := "ythaoedfalkebbaagreat", sum := "6d5be9a6738ae56869b4e8f779b57860af026948bc4ad0b95147f6fb58a8411e", func := "keystone/keystonelaw10.SsiLeaves", spec := "ssiLeaves", inPlace := ["maps.clone"], unfollowed := true, recurses := true, plainKeys := false, apart := false }
def SsiLeavesSaid : Prop := ssiLeavesRow.holds Tryz.pinned (OpenSpec.ofChange ssiLeavesSpec)

/-- ITS FALSE NEIGHBOUR: 'it returns false'. Refute it at one input. -/
def ssiLeavesWrong : ChangeSpec := { name := "ssiLeaves", fn := fun _ => fun
  | [d1, d2] => { results := [.lit (.bool false)], args := [d1, d2] }
  | _ => none }
def SsiLeavesWrongFalsely : Prop := ssiLeavesRow.holds Tryz.pinned (OpenSpec.ofChange ssiLeavesWrong)

/-- 'keystonelaw10.SsiDoes': WHATEVER THE INPUT: true; the input reads as it did. -/
def ssiDoesSpec : ChangeSpec := { name := "ssiDoes", fn := fun _ => fun
  | [d1, d2, d3] => { results := [.lit (.bool true)], args := [d1, d2, d3] }
  | _ => none }
def ssiDoesRow : OpenClaim := { program := "ythaoedfalkebbaagreat", sum := "6d5be9a6738ae56869b4e8f779b57860af026948bc4ad0b95147f6fb58a8411e", func := "keystone/keystonelaw10.SsiDoes", spec := "ssiDoes", inPlace := ["maps.clone"], unfollowed := true, recurses := true, plainKeys := false, apart := false }
def SsiDoesSaid : Prop := ssiDoesRow.holds Tryz.pinned (OpenSpec.ofChange ssiDoesSpec)

/-- ITS FALSE NEIGHBOUR: 'it returns false'. Refute it at one input. -/
def ssiDoesWrong : ChangeSpec := { name := "ssiDoes", fn := fun _ => fun
  | [d1, d2, d3] => { results := [.lit (.bool false)], args := [d1, d2, d3] }
  | _ => none }
def SsiDoesWrongFalsely : Prop := ssiDoesRow.holds Tryz.pinned (OpenSpec.ofChange ssiDoesWrong)

/-- 'keystonelaw10.SsiNone': WHATEVER THE INPUT: true; the input reads as it did. -/
def ssiNoneSpec : ChangeSpec := { name := "ssiNone", fn := fun _ => fun
  | [d] => { results := [.lit (.bool true)], args := [d] }
  | _ => none }
def ssiNoneRow : OpenClaim := { program := "ythaoedfalkebbaagreat", sum := "6d5be9a6738ae56869b4e8f779b57860af026948bc4ad0b95147f6fb58a8411e", func := "keystone/keystonelaw10.SsiNone", spec := "ssiNone", inPlace := ["maps.clone"], unfollowed := true, recurses := true, plainKeys := false, apart := false }
def SsiNoneSaid : Prop := ssiNoneRow.holds Tryz.pinned (OpenSpec.ofChange ssiNoneSpec)

/-- ITS FALSE NEIGHBOUR: 'it returns false'. Refute it at one input. -/
def ssiNoneWrong : ChangeSpec := { name := "ssiNone", fn := fun _ => fun
  | [d] => { results := [.lit (.bool false)], args := [d] }
  | _ => none }
def SsiNoneWrongFalsely : Prop := ssiNoneRow.holds Tryz.pinned (OpenSpec.ofChange ssiNoneWrong)

/- THE SECOND FORM. 'bulk': how many values and letters a reading holds, each counted each time it is reached (what is shared counts as often as it is met; a slice's spare places count too). A statement '..UptoSaid' is the law's where the arguments, and the package variables that the reading takes, are together of bulk at most 1048576: NARROWER than '..Said'. Prove '..Said' where nothing that the law and all that it calls make is longer than what came in: it says more and counts as full. Else prove '..UptoSaid'. A law counts once. -/
mutual
def uptoBulk {H : Type} : DataW H → Nat
  | .lit (.string bytes) => bytes.length + 1
  | .lit _ => 1
  | .nil => 1
  | .ptr d => uptoBulk d + 1
  | .slice elems spare => uptoBulkAll elems + uptoBulkAll spare + 1
  | .agg parts => uptoBulkAll parts + 1
  | .iface _ d => uptoBulk d + 1
  | .map entries => uptoBulkEntries entries + 1
  | .held _ => 1
def uptoBulkAll {H : Type} : List (DataW H) → Nat
  | [] => 0
  | d :: r => uptoBulk d + uptoBulkAll r
def uptoBulkEntries {H : Type} : List (Lit × DataW H) → Nat
  | [] => 0
  | x :: r => uptoBulkEntry x + uptoBulkEntries r
def uptoBulkEntry {H : Type} : Lit × DataW H → Nat
  | (.string bytes, d) => bytes.length + uptoBulk d + 1
  | (_, d) => uptoBulk d + 1
 end
def uptoSmall : (H : Type) → List (DataW H) → Bool := fun _ ds => decide (uptoBulkAll ds ≤ 1048576)
def OpenSpec.upto (s : _root_.Go.ChangeSpec) : _root_.Go.OpenSpec := { _root_.Go.OpenSpec.ofChange s with cond := some uptoSmall }

/-- 'keystonelaw10.SsiSkew', WHERE WHAT IT READS IS OF BULK AT MOST 1048576: true; the input reads as it did. -/
def ssiSkewUptoRow : OpenClaim := { program := "ythaoedfalkebbaagreat", sum := "6d5be9a6738ae56869b4e8f779b57860af026948bc4ad0b95147f6fb58a8411e", func := "keystone/keystonelaw10.SsiSkew", spec := "ssiSkew", inPlace := ["maps.clone"], unfollowed := true, recurses := true, plainKeys := false, apart := false, narrowed := true }
def SsiSkewUptoSaid : Prop := ssiSkewUptoRow.holds Tryz.pinned (OpenSpec.upto ssiSkewSpec)

/-- 'keystonelaw10.SsiSerial', WHERE WHAT IT READS IS OF BULK AT MOST 1048576: true; the input reads as it did. -/
def ssiSerialUptoRow : OpenClaim := { program := "ythaoedfalkebbaagreat", sum := "6d5be9a6738ae56869b4e8f779b57860af026948bc4ad0b95147f6fb58a8411e", func := "keystone/keystonelaw10.SsiSerial", spec := "ssiSerial", inPlace := ["maps.clone"], unfollowed := true, recurses := true, plainKeys := false, apart := false, narrowed := true }
def SsiSerialUptoSaid : Prop := ssiSerialUptoRow.holds Tryz.pinned (OpenSpec.upto ssiSerialSpec)

/-- 'keystonelaw10.SsiFirst', WHERE WHAT IT READS IS OF BULK AT MOST 1048576: true; the input reads as it did. -/
def ssiFirstUptoRow : OpenClaim := { program := "ythaoedfalkebbaagreat", sum := "6d5be9a6738ae56869b4e8f779b57860af026948bc4ad0b95147f6fb58a8411e", func := "keystone/keystonelaw10.SsiFirst", spec := "ssiFirst", inPlace := ["maps.clone"], unfollowed := true, recurses := true, plainKeys := false, apart := false, narrowed := true }
def SsiFirstUptoSaid : Prop := ssiFirstUptoRow.holds Tryz.pinned (OpenSpec.upto ssiFirstSpec)

/-- 'keystonelaw10.SsiAlone', WHERE WHAT IT READS IS OF BULK AT MOST 1048576: true; the input reads as it did. -/
def ssiAloneUptoRow : OpenClaim := { program := "ythaoedfalkebbaagreat", sum := "6d5be9a6738ae56869b4e8f779b57860af026948bc4ad0b95147f6fb58a8411e", func := "keystone/keystonelaw10.SsiAlone", spec := "ssiAlone", inPlace := ["maps.clone"], unfollowed := true, recurses := true, plainKeys := false, apart := false, narrowed := true }
def SsiAloneUptoSaid : Prop := ssiAloneUptoRow.holds Tryz.pinned (OpenSpec.upto ssiAloneSpec)

/-- 'keystonelaw10.SsiBounded', WHERE WHAT IT READS IS OF BULK AT MOST 1048576: true; the input reads as it did. -/
def ssiBoundedUptoRow : OpenClaim := { program := "ythaoedfalkebbaagreat", sum := "6d5be9a6738ae56869b4e8f779b57860af026948bc4ad0b95147f6fb58a8411e", func := "keystone/keystonelaw10.SsiBounded", spec := "ssiBounded", inPlace := ["maps.clone"], unfollowed := true, recurses := true, plainKeys := false, apart := false, narrowed := true }
def SsiBoundedUptoSaid : Prop := ssiBoundedUptoRow.holds Tryz.pinned (OpenSpec.upto ssiBoundedSpec)

/-- 'keystonelaw10.SsiLeaves', WHERE WHAT IT READS IS OF BULK AT MOST 1048576: true; the input reads as it did. -/
def ssiLeavesUptoRow : OpenClaim := { program := "ythaoedfalkebbaagreat", sum := "6d5be9a6738ae56869b4e8f779b57860af026948bc4ad0b95147f6fb58a8411e", func := "keystone/keystonelaw10.SsiLeaves", spec := "ssiLeaves", inPlace := ["maps.clone"], unfollowed := true, recurses := true, plainKeys := false, apart := false, narrowed := true }
def SsiLeavesUptoSaid : Prop := ssiLeavesUptoRow.holds Tryz.pinned (OpenSpec.upto ssiLeavesSpec)

/-- 'keystonelaw10.SsiDoes', WHERE WHAT IT READS IS OF BULK AT MOST 1048576: true; the input reads as it did. -/
def ssiDoesUptoRow : OpenClaim := { program := "ythaoedfalkebbaagreat", sum := "6d5be9a6738ae56869b4e8f779b57860af026948bc4ad0b95147f6fb58a8411e", func := "keystone/keystonelaw10.SsiDoes", spec := "ssiDoes", inPlace := ["maps.clone"], unfollowed := true, recurses := true, plainKeys := false, apart := false, narrowed := true }
def SsiDoesUptoSaid : Prop := ssiDoesUptoRow.holds Tryz.pinned (OpenSpec.upto ssiDoesSpec)

/-- 'keystonelaw10.SsiNone', WHERE WHAT IT READS IS OF BULK AT MOST 1048576: true; the input reads as it did. -/
def ssiNoneUptoRow : OpenClaim := { program := "ythaoedfalkebbaagreat", sum := "6d5be9a6738ae56869b4e8f779b57860af026948bc4ad0b95147f6fb58a8411e", func := "keystone/keystonelaw10.SsiNone", spec := "ssiNone", inPlace := ["maps.clone"], unfollowed := true, recurses := true, plainKeys := false, apart := false, narrowed := true }
def SsiNoneUptoSaid : Prop := ssiNoneUptoRow.holds Tryz.pinned (OpenSpec.upto ssiNoneSpec)

end Rows
end Go.Proofs.YthaoedfalkebbaaGreat
