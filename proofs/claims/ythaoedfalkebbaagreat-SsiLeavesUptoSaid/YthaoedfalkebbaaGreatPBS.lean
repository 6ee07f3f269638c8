/- Cut by a program out of the seat's texts (VB): what the theorem needs, one behind the other. -/
import Derived.Test.YthaoedfalkebbaaGreatPBL
import Derived.Test.YthaoedfalkebbaaGreatRows
namespace Go.Proofs.YthaoedfalkebbaaGreat
open Go.ChangeShapes Go.WideShapes Go.ChangeAt Go.RowKit Go.Lib Go.Proofs.YthaoedfalkebbaaGreatW.PrintWords Go.Proofs.YthaoedfalkebbaaGreatW.PrintLast Go.Proofs.YthaoedfalkebbaaGreatW.PrintMore
set_option linter.unusedVariables false
set_option linter.unusedSimpArgs false
set_option linter.unusedSectionVars false
theorem bulk_count {H : Type} : ∀ (l : List (DataW H)), l.length ≤ Rows.uptoBulkAll l
  | [] => Nat.zero_le _
  | d :: l => by
    have h := bulk_count l
    have h1 : 1 ≤ Rows.uptoBulk d := by
      cases d with
      | lit l => cases l <;> simp [Rows.uptoBulk]
      | nil => simp [Rows.uptoBulk]
      | ptr d => simp [Rows.uptoBulk]
      | slice elems spare => simp [Rows.uptoBulk]
      | agg parts => simp [Rows.uptoBulk]
      | iface t d => simp [Rows.uptoBulk]
      | map entries => simp [Rows.uptoBulk]
      | held h => simp [Rows.uptoBulk]
    simp only [Rows.uptoBulkAll, List.length_cons]
    omega
section
variable {H : Type} {enc : TypeId × Value → H} {w : World} {base : Nat} {spare : Nat → Bool} {held : Bool}
theorem bulk_scp (z : Scp) {d : DataW H} {p : List MemPlace} (h : DataW.Trod enc Tryz.prog w base spare held 24 z.val d p) (hd : Rows.uptoBulk d ≤ 1048576) : z.xs.length ≤ 1048576 := by
  obtain ⟨fuel, hf⟩ := h
  have hf : DataW.trod enc Tryz.prog w base spare held fuel 24 [.slice z.A z.xs.length z.c] = some (d, p) := hf
  rcases Go.Deep.open_slice Tryz.underlying24 hf with ⟨e, _⟩ | ⟨a, len', cap, m, n, D, Pl, e, _, _, _, _, hy, _⟩
  · injection e with e _
    injection e with _ e _
    omega
  · injection e with e _
    injection e with _ e _
    injection hy with hy _
    subst hy
    have := bulk_count ((List.range len').map D)
    simp only [List.length_map, List.length_range] at this
    simp only [Rows.uptoBulk] at hd
    omega
end
end Go.Proofs.YthaoedfalkebbaaGreat
