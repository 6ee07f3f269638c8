import Derived.WalkKit
import Derived.WalkLawsBesides
import Derived.Laws.BitsAllLaws
import Derived.Laws.BitsLemmas
namespace Go.Proofs.Ytoeefamnglbakaa
open Go Go.RowKit

/-! ### numbers' bytes -/
def bytesOK (l : List Int) : Prop := ∀ x ∈ l, 0 ≤ x ∧ x < 256
def ta : Nat → Int → List Int → Option (Int × Int)
  | _, _, [] => none
  | i, n, c :: l => if 10 ≤ i then none else if i = 9 ∧ 1 < c then none else
      if c < 128 then (if c = 0 ∧ 0 < i then none else some (n + c * 2 ^ (7 * i), (i : Int) + 1)) else ta (i + 1) (n + (c - 128) * 2 ^ (7 * i)) l
def tr : Option (Int × Int) → Int × Int × Int
  | none => (0, 0, 10)
  | some (v, s) => (v, s, 0)
def tu (l : List Int) (a : Int) : Int × Int × Int := if a < 0 ∨ a > l.length then (0, 0, 1) else tr (ta 0 0 (l.drop a.toNat))

theorem ta_ten (i : Nat) (n : Int) (l : List Int) (h : 10 ≤ i) : ta i n l = none := by
  cases l with
  | nil => rfl
  | cons c l => simp [ta, h]

theorem and127 (x : Int) (h0 : 0 ≤ x) (h1 : x < 256) : bits .and .u8 x 127 = x % 128 := bits_mask .u8 8 (by decide) wraps_u8 7 (by decide) x h0 h1
theorem and128 (x : Int) (h0 : 0 ≤ x) (h1 : x < 256) : bits .and .u8 x 128 = if x < 128 then 0 else 128 := by
  rw [u8_and x 128 h0 h1 (by omega) (by omega)]
  have e := nat_bit 7 x.toNat
  have e2 : (2 : Nat) ^ 7 = 128 := by decide
  rw [e2] at e
  show ((x.toNat &&& 128 : Nat) : Int) = _
  rw [e]
  split <;> omega
theorem pow7 (k : Nat) (h : k ≤ 9) : ∃ p : Nat, (2 : Int) ^ (7 * k) = p ∧ 2 ^ (7 * k) = p ∧ 0 < p ∧ p ≤ 9223372036854775808 ∧ (k ≤ 8 → p * 128 ≤ 9223372036854775808) ∧ (k ≤ 8 → (2 : Int) ^ (7 * (k + 1)) = p * 128) := by
  have hk : k = 0 ∨ k = 1 ∨ k = 2 ∨ k = 3 ∨ k = 4 ∨ k = 5 ∨ k = 6 ∨ k = 7 ∨ k = 8 ∨ k = 9 := by omega
  rcases hk with rfl | rfl | rfl | rfl | rfl | rfl | rfl | rfl | rfl | rfl <;> exact ⟨_, by decide, rfl, by decide, by decide, by decide, by decide⟩
theorem dig_or (k : Nat) (q x : Int) (hk : k ≤ 9) (hq : 0 ≤ q) (hq1 : q < 2 ^ (7 * k)) (h0 : 0 ≤ x) (h1 : x < 128) (h9 : k = 9 → x < 2) :
    bits .or .u64 q (IntKind.u64.wrap (x * 2 ^ (7 * k))) = q + x * 2 ^ (7 * k) ∧ 0 ≤ q + x * 2 ^ (7 * k) ∧ (k ≤ 8 → q + x * 2 ^ (7 * k) < 2 ^ (7 * (k + 1))) ∧ q + x * 2 ^ (7 * k) < 18446744073709551616 := by
  obtain ⟨p, e, e', hp, hp1, hp2, hp3⟩ := pow7 k hk
  rw [e] at hq1
  rw [e]
  obtain ⟨x, rfl⟩ := Int.eq_ofNat_of_zero_le h0
  obtain ⟨q, rfl⟩ := Int.eq_ofNat_of_zero_le hq
  have hxp : x * p + p ≤ 18446744073709551616 := by
    by_cases hk8 : k ≤ 8
    · have := hp2 hk8
      have : x * p ≤ 127 * p := Nat.mul_le_mul_right _ (by omega)
      omega
    · have : x * p ≤ 1 * p := Nat.mul_le_mul_right _ (by have := h9 (by omega); omega)
      omega
  have hc : ((x : Int) * (p : Int)) = ((x * p : Nat) : Int) := by simp
  rw [hc]
  have hw : IntKind.u64.wrap ((x * p : Nat) : Int) = ((x * p : Nat) : Int) := by
    rw [IntKind.wrap_u64]
    omega
  rw [hw, u64_or_nat q (x * p) (by omega) (by omega), Nat.or_comm, nat_join (7 * k) (x * p) q (by rw [e']; exact Nat.mul_mod_left _ _) (by omega)]
  refine ⟨by omega, by omega, fun hk8 => ?_, by omega⟩
  rw [hp3 hk8]
  have : x * p ≤ 127 * p := Nat.mul_le_mul_right _ (by omega)
  have : ((x * p : Nat) : Int) ≤ ((127 * p : Nat) : Int) := by omega
  omega
end Go.Proofs.Ytoeefamnglbakaa
