/- Cut by a program out of the seat's texts (VD): what the theorem needs, one behind the other. -/
import Derived.Test.YthaoedfalkebbaaGreatPCR
namespace Go.Proofs.YthaoedfalkebbaaGreat
open Go.RowKit Go.Maps Go.Sort Go.Lib Go.Shelf Go.Proofs.YthaoedfalkebbaaGreatW.PrintWords Go.Proofs.YthaoedfalkebbaaGreatW.PrintLast Go.Proofs.YthaoedfalkebbaaGreatW.PrintMore
set_option linter.unusedVariables false
set_option linter.unusedSimpArgs false
set_option linter.unusedSectionVars false
theorem okN_small (n : Int) (h : 0 ≤ n ∧ n ≤ 4000000000000) : okN n := by
  show (Lit.int .i64 n).wf = true
  simp only [Lit.wf, Bool.and_eq_true, decide_eq_true_eq]
  have e1 : IntKind.i64.min = -9223372036854775808 := by decide
  have e2 : IntKind.i64.max = 9223372036854775807 := by decide
  rw [e1, e2]
  omega
end Go.Proofs.YthaoedfalkebbaaGreat
