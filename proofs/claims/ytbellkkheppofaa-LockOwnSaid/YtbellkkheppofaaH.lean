import Derived.Test.YtbellkkheppofaaG
import Derived.Sort.Walk0
import Derived.Sort.Statements
namespace Go.Proofs.Ytbellkkheppofaa
open Go.RowKit Go.Maps Go.Sort
set_option linter.unusedVariables false
set_option linter.unusedSimpArgs false
theorem toList_inj {s u : ByteArray} (h : s.toList = u.toList) : s = u := by
  have e := ByteArray.toList_eq
  rw [e, e] at h
  cases s
  cases u
  simp at h
  rw [h]
/-- which lock comes first -/
def ltL (a b : Lk) : Prop := a.1.toList < b.1.toList ∨ a.1.toList = b.1.toList ∧ a.2.toList < b.2.toList
theorem lt3 (x y : List UInt8) : x < y ∨ x = y ∨ y < x := by
  by_cases h1 : x < y
  · exact .inl h1
  · by_cases h2 : y < x
    · exact .inr (.inr h2)
    · exact .inr (.inl (List.le_antisymm (List.not_lt.1 h2) (List.not_lt.1 h1)))
theorem cmpS_lt (s u : ByteArray) : (cmpS s u < 0 ↔ s.toList < u.toList) ∧ (cmpS s u = 0 ↔ s.toList = u.toList) := by
  unfold cmpS
  rw [bytesLess_eq]
  by_cases h1 : s.toList < u.toList
  · have : s.toList ≠ u.toList := fun e => by rw [e] at h1; exact List.lt_irrefl _ h1
    simp [h1, this]
  · by_cases h2 : s.toList = u.toList
    · have h3 : ¬ u.toList < u.toList := List.lt_irrefl _
      simp [h2, h3]
    · simp [h1, h2]
theorem cmpL_lt (a b : Lk) : (cmpL a b < 0 ↔ ltL a b) ∧ (cmpL a b = 0 ↔ a = b) := by
  have h1 := cmpS_lt a.1 b.1
  have h2 := cmpS_lt a.2 b.2
  unfold cmpL ltL
  by_cases e : cmpS a.1 b.1 = 0
  · have e1 := h1.2.1 e
    rw [if_neg (by simpa using e)]
    refine ⟨?_, ?_⟩
    · rw [h2.1, e1]
      constructor
      · exact fun h => .inr ⟨rfl, h⟩
      · rintro (h | h)
        · exact absurd h (List.lt_irrefl _)
        · exact h.2
    · rw [h2.2]
      constructor
      · intro h; exact Prod.ext (toList_inj e1) (toList_inj h)
      · intro h; rw [h]
  · rw [if_pos e]
    have hne : a.1.toList ≠ b.1.toList := fun h => e (h1.2.2 h)
    refine ⟨?_, ?_⟩
    · rw [h1.1]
      constructor
      · exact .inl
      · rintro (h | h)
        · exact h
        · exact absurd h.1 hne
    · constructor
      · intro h; exact absurd h e
      · intro h; rw [h] at hne; exact absurd rfl hne
theorem ltL_irrefl (a : Lk) : ¬ ltL a a := by
  rintro (h | h)
  · exact List.lt_irrefl _ h
  · exact List.lt_irrefl _ h.2
theorem ltL_trans {a b c : Lk} (h : ltL a b) (k : ltL b c) : ltL a c := by
  unfold ltL at *
  rcases h with h | ⟨h, h'⟩ <;> rcases k with k | ⟨k, k'⟩
  · exact .inl (List.lt_trans h k)
  · exact .inl (k ▸ h)
  · exact .inl (h ▸ k)
  · exact .inr ⟨h.trans k, List.lt_trans h' k'⟩
theorem ltL_total (a b : Lk) : ltL a b ∨ a = b ∨ ltL b a := by
  unfold ltL
  rcases lt3 a.1.toList b.1.toList with h | h | h
  · exact .inl (.inl h)
  · rcases lt3 a.2.toList b.2.toList with k | k | k
    · exact .inl (.inr ⟨h, k⟩)
    · exact .inr (.inl (Prod.ext (toList_inj h) (toList_inj k)))
    · exact .inr (.inr (.inr ⟨h.symm, k⟩))
  · exact .inr (.inr (.inl h))
end Go.Proofs.Ytbellkkheppofaa
