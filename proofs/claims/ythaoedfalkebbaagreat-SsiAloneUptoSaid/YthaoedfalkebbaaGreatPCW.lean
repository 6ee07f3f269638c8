/- Cut by a program out of the seat's texts (VJ): what the theorem needs, one behind the other. -/
import Derived.Test.YthaoedfalkebbaaGreatPCM
namespace Go.Proofs.YthaoedfalkebbaaGreat
open Go.ChangeShapes Go.WideShapes Go.ChangeAt Go.RowKit Go.Lib Go.Proofs.YthaoedfalkebbaaGreatW.PrintWords Go.Proofs.YthaoedfalkebbaaGreatW.PrintLast Go.Proofs.YthaoedfalkebbaaGreatW.PrintMore
set_option linter.unusedVariables false
set_option linter.unusedSimpArgs false
set_option linter.unusedSectionVars false
theorem bulk_twice {H : Type} : ∀ (l : List (DataW H)), (∀ d ∈ l, 2 ≤ Rows.uptoBulk d) → 2 * l.length ≤ Rows.uptoBulkAll l
  | [], _ => Nat.zero_le _
  | d :: l, h => by
    have h1 := bulk_twice l (fun x hx => h x (List.mem_cons_of_mem _ hx))
    have h2 := h d (List.mem_cons_self ..)
    simp only [Rows.uptoBulkAll, List.length_cons]
    omega
section
variable {H : Type} {enc : TypeId × Value → H} {w : World} {base : Nat} {spare : Nat → Bool} {held : Bool}
theorem bulk_scp2 (z : Scp) {d : DataW H} {p : List MemPlace} (h : DataW.Trod enc Tryz.prog w base spare held 24 z.val d p) (hd : Rows.uptoBulk d ≤ 1048576) : z.xs.length ≤ 524288 := by
  obtain ⟨fuel, hf⟩ := h
  have hf : DataW.trod enc Tryz.prog w base spare held fuel 24 [.slice z.A z.xs.length z.c] = some (d, p) := hf
  rcases Go.Deep.open_slice Tryz.underlying24 hf with ⟨e, _⟩ | ⟨a, len', cap, m, n, D, Pl, e, h1, h2, h3, h4, hy, h5⟩
  · injection e with e _
    injection e with _ e _
    omega
  · injection e with e _
    injection e with _ e _
    injection hy with hy _
    subst hy
    have hle : len' ≤ m := by
      rw [h4]
      split
      · exact h2
      · exact Nat.le_refl _
    have two : ∀ d ∈ (List.range len').map D, 2 ≤ Rows.uptoBulk d := fun d hd => by
      obtain ⟨i, hi, rfl⟩ := List.mem_map.1 hd
      obtain ⟨cs', _, hc⟩ := h5 i (Nat.lt_of_lt_of_le (List.mem_range.1 hi) hle)
      obtain ⟨ys, k, _, ey, _, hlen, _⟩ := DataW.trod_struct Tryz.underlying36 hc
      injection ey with ey _
      rw [ey]
      have := bulk_count (ys.map (·.1))
      rw [List.length_map, hlen] at this
      have e5 : 1 ≤ ys.length := by rw [hlen]; decide
      rw [← hlen] at this
      simp only [Rows.uptoBulk]
      omega
    have := bulk_twice ((List.range len').map D) two
    simp only [List.length_map, List.length_range] at this
    simp only [Rows.uptoBulk] at hd
    omega
end
end Go.Proofs.YthaoedfalkebbaaGreat
