/- Cut by a program out of the seat's texts (VA): what the theorem needs, one behind the other. -/
import Derived.Test.YthaoedfalkebbaaGreatPCQ
namespace Go.Proofs.YthaoedfalkebbaaGreat
open Go.RowKit Go.Maps Go.Sort Go.Lib Go.Shelf Go.Proofs.YthaoedfalkebbaaGreatW.PrintWords Go.Proofs.YthaoedfalkebbaaGreatW.PrintLast Go.Proofs.YthaoedfalkebbaaGreatW.PrintMore
set_option linter.unusedVariables false
set_option linter.unusedSimpArgs false
set_option linter.unusedSectionVars false
abbrev UpFrom (n : Nat) : Nat → Prop := fun k => n ≤ k
theorem top_up (w : World) : Top (UpFrom w.heap.size) w := fun k hk => hk
end Go.Proofs.YthaoedfalkebbaaGreat
