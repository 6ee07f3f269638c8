/-
  No cell of these rows narrows 'for every input' (looked for: loops, veiled, ifaces, maps, wideKeys, modest, calm, conditions, laid).
  DERIVED. THE GIVEN ROWS OF THIS SEAT. 5 by the template 'for every input the law returns true; each argument reads behind the call as it read before'; 0 by the template 'total and deterministic' (their statements: YtedcnpaomphffaaGreatTotals.lean).
  GIVEN WITH THE SEED: the statements are not yours to turn. If you find one false, say at which input.
  Laid BY PROGRAM, IN A SANDBOX (cutbox-rows.mjs): the forced cells as the released guide's own fill.sh prints them over the translation 31936f0773fbd05e… (all of the seat's roots in one cut). By AI agents, Wed Nov 11 2026. No macro, syntax, notation, axiom, sorry.
-/
import Derived.Test.YtedcnpaomphffaaGreatChecked
import GoSem.Claim
import GoSem.ClaimJoined
import GoSem.ClaimMapViews
import Derived.JoinedTies
import Derived.KernelRfl
namespace Go.Proofs.YtedcnpaomphffaaGreat
/- THE CELL 'sum', in the pinned program and in every row, IS THE sha256 OF THE DUMP (.gsa) THAT YtedcnpaomphffaaGreatProg.lean LOADS. Nothing in Lean hashes anything: it is a label: what it is worth is what the hold of that sum in a sandbox is worth. -/
noncomputable def Tryz.pinned : Pinned := { name := "ytedcnpaomphffaagreat", sum := "31936f0773fbd05e5f64d15aefdc0065c901bbfab69ee5717925f4b3e5914d3a", checked := Tryz.checked }
namespace Rows
def none {H : Type} : Left H := { results := [], args := [] }

/-- 'keystonelaw11.SerialGraphs': WHATEVER THE INPUT: true; the input reads as it did. -/
def serialGraphsSpec : ChangeSpec := { name := "serialGraphs", fn := fun _ => fun
  | [d] => { results := [.lit (.bool true)], args := [d] }
  | _ => none }
def serialGraphsRow : OpenClaim := { program := "ytedcnpaomphffaagreat", sum := "31936f0773fbd05e5f64d15aefdc0065c901bbfab69ee5717925f4b3e5914d3a", func := "keystone/keystonelaw11.SerialGraphs", spec := "serialGraphs", unfollowed := true, recurses := true, plainKeys := false, apart := false }
def SerialGraphsSaid : Prop := serialGraphsRow.holds Tryz.pinned (OpenSpec.ofChange serialGraphsSpec)

/-- ITS FALSE NEIGHBOUR: 'it returns false'. Refute it at one input. -/
def serialGraphsWrong : ChangeSpec := { name := "serialGraphs", fn := fun _ => fun
  | [d] => { results := [.lit (.bool false)], args := [d] }
  | _ => none }
def SerialGraphsWrongFalsely : Prop := serialGraphsRow.holds Tryz.pinned (OpenSpec.ofChange serialGraphsWrong)

/-- 'keystonelaw11.SerialOrders': WHATEVER THE INPUT: true; the input reads as it did. -/
def serialOrdersSpec : ChangeSpec := { name := "serialOrders", fn := fun _ => fun
  | [d1, d2] => { results := [.lit (.bool true)], args := [d1, d2] }
  | _ => none }
def serialOrdersRow : OpenClaim := { program := "ytedcnpaomphffaagreat", sum := "31936f0773fbd05e5f64d15aefdc0065c901bbfab69ee5717925f4b3e5914d3a", func := "keystone/keystonelaw11.SerialOrders", spec := "serialOrders", unfollowed := true, recurses := true, plainKeys := false, apart := false }
def SerialOrdersSaid : Prop := serialOrdersRow.holds Tryz.pinned (OpenSpec.ofChange serialOrdersSpec)

/-- ITS FALSE NEIGHBOUR: 'it returns false'. Refute it at one input. -/
def serialOrdersWrong : ChangeSpec := { name := "serialOrders", fn := fun _ => fun
  | [d1, d2] => { results := [.lit (.bool false)], args := [d1, d2] }
  | _ => none }
def SerialOrdersWrongFalsely : Prop := serialOrdersRow.holds Tryz.pinned (OpenSpec.ofChange serialOrdersWrong)

/-- 'keystonelaw11.SerialRounds': WHATEVER THE INPUT: true; the input reads as it did. -/
def serialRoundsSpec : ChangeSpec := { name := "serialRounds", fn := fun _ => fun
  | [d] => { results := [.lit (.bool true)], args := [d] }
  | _ => none }
def serialRoundsRow : OpenClaim := { program := "ytedcnpaomphffaagreat", sum := "31936f0773fbd05e5f64d15aefdc0065c901bbfab69ee5717925f4b3e5914d3a", func := "keystone/keystonelaw11.SerialRounds", spec := "serialRounds", unfollowed := true, recurses := true, plainKeys := false, apart := false }
def SerialRoundsSaid : Prop := serialRoundsRow.holds Tryz.pinned (OpenSpec.ofChange serialRoundsSpec)

/-- ITS FALSE NEIGHBOUR: 'it returns false'. Refute it at one input. -/
def serialRoundsWrong : ChangeSpec := { name := "serialRounds", fn := fun _ => fun
  | [d] => { results := [.lit (.bool false)], args := [d] }
  | _ => none }
def SerialRoundsWrongFalsely : Prop := serialRoundsRow.holds Tryz.pinned (OpenSpec.ofChange serialRoundsWrong)

/-- 'keystonelaw11.SerialTells': WHATEVER THE INPUT: true; the input reads as it did. -/
def serialTellsSpec : ChangeSpec := { name := "serialTells", fn := fun _ => fun
  | [d1, d2] => { results := [.lit (.bool true)], args := [d1, d2] }
  | _ => none }
def serialTellsRow : OpenClaim := { program := "ytedcnpaomphffaagreat", sum := "31936f0773fbd05e5f64d15aefdc0065c901bbfab69ee5717925f4b3e5914d3a", func := "keystone/keystonelaw11.SerialTells", spec := "serialTells", unfollowed := true, recurses := true, plainKeys := false, apart := false }
def SerialTellsSaid : Prop := serialTellsRow.holds Tryz.pinned (OpenSpec.ofChange serialTellsSpec)

/-- ITS FALSE NEIGHBOUR: 'it returns false'. Refute it at one input. -/
def serialTellsWrong : ChangeSpec := { name := "serialTells", fn := fun _ => fun
  | [d1, d2] => { results := [.lit (.bool false)], args := [d1, d2] }
  | _ => none }
def SerialTellsWrongFalsely : Prop := serialTellsRow.holds Tryz.pinned (OpenSpec.ofChange serialTellsWrong)

/-- 'keystonelaw11.SerialOwn': WHATEVER THE INPUT: true; the input reads as it did. -/
def serialOwnSpec : ChangeSpec := { name := "serialOwn", fn := fun _ => fun
  | [d1, d2] => { results := [.lit (.bool true)], args := [d1, d2] }
  | _ => none }
def serialOwnRow : OpenClaim := { program := "ytedcnpaomphffaagreat", sum := "31936f0773fbd05e5f64d15aefdc0065c901bbfab69ee5717925f4b3e5914d3a", func := "keystone/keystonelaw11.SerialOwn", spec := "serialOwn", unfollowed := true, recurses := true, plainKeys := false, apart := false }
def SerialOwnSaid : Prop := serialOwnRow.holds Tryz.pinned (OpenSpec.ofChange serialOwnSpec)

/-- ITS FALSE NEIGHBOUR: 'it returns false'. Refute it at one input. -/
def serialOwnWrong : ChangeSpec := { name := "serialOwn", fn := fun _ => fun
  | [d1, d2] => { results := [.lit (.bool false)], args := [d1, d2] }
  | _ => none }
def SerialOwnWrongFalsely : Prop := serialOwnRow.holds Tryz.pinned (OpenSpec.ofChange serialOwnWrong)

/- THE SECOND FORM. 'bulk': how many values and letters a reading holds, each counted each time it is reached (what is shared counts as often as it is met; a slice's spare places count too). A statement '..UptoSaid' is the law's where the arguments, and the package variables that the reading takes, are together of bulk at most 1048576: NARROWER than '..Said'. Prove '..Said' where nothing that the law and all that it calls make is longer than what came in: it says more and counts as full. Else prove '..UptoSaid'. A law counts once. -/
mutual
def uptoBulk {H : Type} : DataW H → Nat
  | .lit (.string bytes) => bytes.length + 1
  | .lit _ => 1
  | .nil => 1
  | .ptr d => uptoBulk d + 1
  | .slice elems spare => uptoBulkAll elems + uptoBulkAll spare + 1
  | .agg parts => uptoBulkAll parts + 1
  | .iface _ d => uptoBulk d + 1
  | .map entries => uptoBulkEntries entries + 1
  | .held _ => 1
def uptoBulkAll {H : Type} : List (DataW H) → Nat
  | [] => 0
  | d :: r => uptoBulk d + uptoBulkAll r
def uptoBulkEntries {H : Type} : List (Lit × DataW H) → Nat
  | [] => 0
  | x :: r => uptoBulkEntry x + uptoBulkEntries r
def uptoBulkEntry {H : Type} : Lit × DataW H → Nat
  | (.string bytes, d) => bytes.length + uptoBulk d + 1
  | (_, d) => uptoBulk d + 1
 end
def uptoSmall : (H : Type) → List (DataW H) → Bool := fun _ ds => decide (uptoBulkAll ds ≤ 1048576)
def OpenSpec.upto (s : _root_.Go.ChangeSpec) : _root_.Go.OpenSpec := { _root_.Go.OpenSpec.ofChange s with cond := some uptoSmall }

/-- 'keystonelaw11.SerialGraphs', WHERE WHAT IT READS IS OF BULK AT MOST 1048576: true; the input reads as it did. -/
def serialGraphsUptoRow : OpenClaim := { program := "ytedcnpaomphffaagreat", sum := "31936f0773fbd05e5f64d15aefdc0065c901bbfab69ee5717925f4b3e5914d3a", func := "keystone/keystonelaw11.SerialGraphs", spec := "serialGraphs", unfollowed := true, recurses := true, plainKeys := false, apart := false, narrowed := true }
def SerialGraphsUptoSaid : Prop := serialGraphsUptoRow.holds Tryz.pinned (OpenSpec.upto serialGraphsSpec)

/-- 'keystonelaw11.SerialOrders', WHERE WHAT IT READS IS OF BULK AT MOST 1048576: true; the input reads as it did. -/
def serialOrdersUptoRow : OpenClaim := { program := "ytedcnpaomphffaagreat", sum := "31936f0773fbd05e5f64d15aefdc0065c901bbfab69ee5717925f4b3e5914d3a", func := "keystone/keystonelaw11.SerialOrders", spec := "serialOrders", unfollowed := true, recurses := true, plainKeys := false, apart := false, narrowed := true }
def SerialOrdersUptoSaid : Prop := serialOrdersUptoRow.holds Tryz.pinned (OpenSpec.upto serialOrdersSpec)

/-- 'keystonelaw11.SerialRounds', WHERE WHAT IT READS IS OF BULK AT MOST 1048576: true; the input reads as it did. -/
def serialRoundsUptoRow : OpenClaim := { program := "ytedcnpaomphffaagreat", sum := "31936f0773fbd05e5f64d15aefdc0065c901bbfab69ee5717925f4b3e5914d3a", func := "keystone/keystonelaw11.SerialRounds", spec := "serialRounds", unfollowed := true, recurses := true, plainKeys := false, apart := false, narrowed := true }
def SerialRoundsUptoSaid : Prop := serialRoundsUptoRow.holds Tryz.pinned (OpenSpec.upto serialRoundsSpec)

/-- 'keystonelaw11.SerialTells', WHERE WHAT IT READS IS OF BULK AT MOST 1048576: true; the input reads as it did. -/
def serialTellsUptoRow : OpenClaim := { program := "ytedcnpaomphffaagreat", sum := "31936f0773fbd05e5f64d15aefdc0065c901bbfab69ee5717925f4b3e5914d3a", func := "keystone/keystonelaw11.SerialTells", spec := "serialTells", unfollowed := true, recurses := true, plainKeys := false, apart := false, narrowed := true }
def SerialTellsUptoSaid : Prop := serialTellsUptoRow.holds Tryz.pinned (OpenSpec.upto serialTellsSpec)

/-- 'keystonelaw11.SerialOwn', WHERE WHAT IT READS IS OF BULK AT MOST 1048576: true; the input reads as it did. -/
def serialOwnUptoRow : OpenClaim := { program := "ytedcnpaomphffaagreat", sum := "31936f0773fbd05e5f64d15aefdc0065c901bbfab69ee5717925f4b3e5914d3a", func := "keystone/keystonelaw11.SerialOwn", spec := "serialOwn", unfollowed := true, recurses := true, plainKeys := false, apart := false, narrowed := true }
def SerialOwnUptoSaid : Prop := serialOwnUptoRow.holds Tryz.pinned (OpenSpec.upto serialOwnSpec)

end Rows
end Go.Proofs.YtedcnpaomphffaaGreat
