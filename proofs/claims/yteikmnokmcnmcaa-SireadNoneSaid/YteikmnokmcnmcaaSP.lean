import Derived.Test.YteikmnokmcnmcaaSO
namespace Go.Proofs.Yteikmnokmcnmcaa
open Go.RowKit Go.Maps Go.Sort Go.Lib Go.Proofs.YteikmnokmcnmcaaW.PrintWords Go.Proofs.YteikmnokmcnmcaaW.PrintLast Go.Proofs.YteikmnokmcnmcaaW.PrintMore
set_option linter.unusedVariables false
set_option linter.unusedSimpArgs false
set_option linter.unusedSectionVars false
/-! ### what covers a note holds each of its keys -/
theorem less_trans {a b c : List UInt8} (h : Op.bytesLess a b = true) (h' : Op.bytesLess b c = true) : Op.bytesLess a c = true := by
  rw [bytesLess_eq, decide_eq_true_eq] at *
  exact List.lt_trans h h'
theorem less_le {a b c : List UInt8} (h : Op.bytesLess a b = true) (h' : Op.bytesLess c b = false) : Op.bytesLess a c = true := by
  rw [bytesLess_eq, decide_eq_true_eq] at h ⊢
  rw [bytesLess_eq, decide_eq_false_iff_not] at h'
  exact Std.lt_of_lt_of_le h (List.not_lt.1 h')
theorem le_trans' {a b c : List UInt8} (h : Op.bytesLess b a = false) (h' : Op.bytesLess c b = false) : Op.bytesLess c a = false := by
  rw [bytesLess_eq, decide_eq_false_iff_not] at *
  exact List.not_lt.2 (List.le_trans (List.not_lt.1 h) (List.not_lt.1 h'))
theorem less_snoc : ∀ (a b : List UInt8), Op.bytesLess a (b ++ [0]) = !Op.bytesLess b a
  | [], [] => rfl
  | [], y :: b => rfl
  | x :: a, [] => by
    simp only [List.nil_append, Op.bytesLess]
    by_cases h : x < 0
    · exact absurd h (by simp)
    · cases a <;> simp [Op.bytesLess, h]
  | x :: a, y :: b => by
    have := less_snoc a b
    simp only [List.cons_append, Op.bytesLess]
    rcases Nat.lt_trichotomy x.toNat y.toNat with h | h | h
    · have h3 : x < y := h
      have h2 : ¬ y < x := UInt8.lt_asymm h3
      have h4 : ¬ y = x := by rintro rfl; omega
      simp [h3, h2, h4]
    · have h := UInt8.toNat_inj.1 h
      subst h
      simp [this]
    · have h3 : y < x := h
      have h2 : ¬ x < y := UInt8.lt_asymm h3
      have h4 : x ≠ y := by rintro rfl; omega
      simp [h3, h2, h4]
theorem less_irrefl (a : List UInt8) : Op.bytesLess a a = false := by
  rw [bytesLess_eq, decide_eq_false_iff_not]
  exact List.lt_irrefl _
theorem less_nil (a : List UInt8) : Op.bytesLess a [] = false := by cases a <;> rfl
theorem holdB_span (y : Rd) (key : ByteArray) : holdB y key = (!Op.bytesLess key.toList (spn y).1.toList && (!(spn y).2.2 || Op.bytesLess key.toList (spn y).2.1.toList)) := by
  unfold holdB spn
  by_cases h1 : y.k = 1
  · simp only [h1, if_true]
    have e : (y.f ++ ⟨#[0]⟩ : ByteArray).toList = y.f.toList ++ [0] := by rw [Lib.toList_data, Lib.toList_data, ByteArray.toList_data_append]
    rw [e, less_snoc]
    by_cases hk : y.f.toList = key.toList
    · simp [hk, less_irrefl]
    · have := gtr_less y.f.toList key.toList
      have e2 : (y.f.toList == key.toList) = false := by simpa using hk
      rw [e2] at this ⊢
      rw [← this]
      cases Op.bytesLess y.f.toList key.toList <;> rfl
  · by_cases h2 : y.k = 2
    · simp [h2, h1]
    · simp [h1, h2, less_nil]
theorem cov_holds {a b : Rd} (h : cov a b = true) {key : ByteArray} (hb : holdB b key = true) : holdB a key = true := by
  rw [holdB_span] at *
  unfold cov at h
  simp only [Bool.and_eq_true, Bool.or_eq_true, Bool.not_eq_true'] at *
  obtain ⟨h1, h2⟩ := h
  obtain ⟨g1, g2⟩ := hb
  refine ⟨le_trans' h1 g1, ?_⟩
  rcases h2 with h2 | ⟨h2, h3⟩
  · exact .inl h2
  · rw [h2] at g2
    rcases g2 with g2 | g2
    · cases g2
    · exact .inr (less_le g2 h3)
end Go.Proofs.Yteikmnokmcnmcaa
