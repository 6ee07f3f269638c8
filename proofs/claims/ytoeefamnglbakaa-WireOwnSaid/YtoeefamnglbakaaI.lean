import Derived.Test.YtoeefamnglbakaaH
namespace Go.Proofs.Ytoeefamnglbakaa
open Go.RowKit Go.Proofs.YtoeefamnglbakaaW.PrintWords Go.Proofs.YtoeefamnglbakaaW.PrintLast Go.Proofs.YtoeefamnglbakaaW.PrintMore
set_option linter.unusedVariables false
set_option linter.unusedSimpArgs false
/-! ### there and back, in plain numbers -/
theorem pow7_step (i : Nat) (a : Int) : a * 2 ^ (7 * (i + 1)) = a * 128 * 2 ^ (7 * i) := by
  rw [show 7 * (i + 1) = 7 * i + 7 by omega, Int.pow_add, Int.mul_assoc, Int.mul_comm (128 : Int), Int.mul_comm (2 ^ (7 * i) : Int)]
  rw [Int.mul_comm ((2 : Int) ^ (7 * i)) 128]
  rfl
theorem ta_ub : ∀ (n i : Nat) (acc : Int) (m : List Int), i ≤ 9 → n < 2 ^ (64 - 7 * i) → (0 < i → 0 < n) → ta i acc (ub n ++ m) = some (acc + n * 2 ^ (7 * i), (i : Int) + (ub n).length) := by
  intro n
  induction n using Nat.strongRecOn with
  | _ n ih =>
    intro i acc m hi hn h0
    have h9 : i = 9 → n < 2 := by rintro rfl; simpa using hn
    by_cases h : n < 128
    · rw [ub_low n h, List.cons_append, ta, if_neg (by omega), if_neg (by omega), if_pos (by omega), if_neg (by omega)]
      simp
    · have hi9 : i < 9 := by
        rcases Nat.lt_or_ge i 9 with h1 | h1
        · exact h1
        · have := h9 (by omega); omega
      rw [ub_high n h, List.cons_append, ta, if_neg (by omega), if_neg (by omega), if_neg (by omega)]
      have hn2 : n / 128 < 2 ^ (64 - 7 * (i + 1)) := by
        refine Nat.div_lt_of_lt_mul ?_
        rw [show (128 : Nat) = 2 ^ 7 from rfl, ← Nat.pow_add, show 7 + (64 - 7 * (i + 1)) = 64 - 7 * i by omega]
        exact hn
      rw [ih (n / 128) (by omega) (i + 1) _ m (by omega) hn2 (by omega)]
      congr 2
      · rw [pow7_step]
        have e : ((n % 128 + 128 : Nat) : Int) - 128 = ((n % 128 : Nat) : Int) := by omega
        have e2 : ((n % 128 : Nat) : Int) + ((n / 128 : Nat) : Int) * 128 = (n : Int) := by omega
        rw [e, Int.add_assoc, ← Int.add_mul, e2]
      · simp
        omega
theorem tu_ub (n : Nat) (m : List Int) (h : n < 18446744073709551616) : tu (ub n ++ m) 0 = ((n : Int), ((ub n).length : Int), 0) := by
  unfold tu
  rw [if_neg (by simp; omega)]
  have e64 : (2 : Nat) ^ (64 - 7 * 0) = 18446744073709551616 := by decide
  have := ta_ub n 0 0 m (by omega) (by rw [e64]; exact h) (by omega)
  rw [show (0 : Int).toNat = 0 from rfl, List.drop_zero, this]
  show ((0 + (n : Int) * 2 ^ (7 * 0), ((0 : Nat) : Int) + ((ub n).length : Int), (0 : Int)) : Int × Int × Int) = _
  have e1 : (2 : Int) ^ (7 * 0) = 1 := by decide
  rw [e1, Int.mul_one, Int.zero_add, Int.natCast_zero, Int.zero_add]
theorem zz_zu (n : Int) (h0 : -9223372036854775808 ≤ n) (h1 : n ≤ 9223372036854775807) : zz (zu n) = n := by
  unfold zz zu
  split <;> split <;> omega
theorem zu_lt (n : Int) (h0 : -9223372036854775808 ≤ n) (h1 : n ≤ 9223372036854775807) : zu n < 18446744073709551616 := by unfold zu; split <;> omega
theorem ti_ub (n : Int) (m : List Int) (h0 : -9223372036854775808 ≤ n) (h1 : n ≤ 9223372036854775807) : ti (ub (zu n) ++ m) 0 = (n, ((ub (zu n)).length : Int), 0) := by
  unfold ti
  rw [tu_ub _ m (zu_lt n h0 h1)]
  simp only
  rw [zz_zu n h0 h1]
theorem str_bytes (s : ByteArray) : strOfNums (bytesOf s) = s := by
  have : (strOfNums (bytesOf s)).data.toList = s.data.toList := by
    rw [strOfNums_data, bytesOf, List.map_map]
    conv => rhs; rw [← List.map_id s.data.toList]
    refine List.map_congr_left fun b _ => ?_
    simp
  cases hs : strOfNums (bytesOf s)
  cases s
  rw [hs] at this
  simp at this
  rw [this]
theorem sub_mid (x y z : List Int) : sub (x ++ y ++ z) x.length ((x.length : Int) + y.length) = y := by
  unfold sub
  have e1 : ((x.length : Int)).toNat = x.length := by omega
  have e2 : ((x.length : Int) + (y.length : Int)).toNat = (x ++ y).length := by rw [List.length_append]; omega
  rw [e1, e2, List.take_left, List.drop_left]
theorem tt_text (s : ByteArray) (m : List Int) (hs : s.size ≤ 140737488351232) : tt (text s ++ m) 0 s.size = (s, ((text s).length : Int), 0) := by
  have hl : (text s).length = (ub s.size).length + s.size := by unfold text; rw [List.length_append, bytesOf_length]
  unfold tt
  have hu : tu (text s ++ m) 0 = ((s.size : Int), ((ub s.size).length : Int), 0) := by
    unfold text
    rw [List.append_assoc]
    exact tu_ub s.size _ (by omega)
  rw [hu, if_neg (by simp; omega)]
  simp only
  rw [if_neg (by simp), if_neg (by omega), if_neg (by rw [List.length_append, hl]; omega)]
  have e := sub_mid (ub s.size) (bytesOf s) m
  rw [bytesOf_length] at e
  unfold text
  rw [Int.zero_add, e, str_bytes]
  simp [bytesOf_length]
theorem un4_w4 (n : Int) (h0 : 0 ≤ n) (h1 : n < 4294967296) (m : List Int) : un4 (w4 n ++ m) 0 = n := by
  unfold un4 w4 rd
  simp
  omega
theorem un4_at4 (n k : Int) (m : List Int) : un4 (w4 k ++ m) 4 = un4 m 0 := by
  unfold un4 w4 rd
  simp
theorem tf_fr (b m : List Int) (hb : bytesOK b) (hl : b.length ≤ 1048576) : tf ((fr b).1 ++ m) 0 = (b, (b.length : Int) + 8, 0) := by
  have e : (fr b).1 = w4 b.length ++ w4 (crc b) ++ b := by unfold fr; rw [if_neg (by omega)]
  obtain ⟨q0, q1⟩ := crc_rng b hb
  rw [e]
  have hlen : (w4 b.length ++ w4 (crc b) ++ b ++ m).length = 8 + b.length + m.length := by simp [w4]; omega
  have hn : un4 (w4 b.length ++ w4 (crc b) ++ b ++ m) 0 = b.length := by
    rw [List.append_assoc, List.append_assoc]
    exact un4_w4 _ (by omega) (by omega) _
  have hq : un4 (w4 b.length ++ w4 (crc b) ++ b ++ m) (0 + 4) = crc b := by
    rw [List.append_assoc, List.append_assoc, Int.zero_add, un4_at4 0]
    exact un4_w4 _ q0 q1 _
  have hs : sub (w4 b.length ++ w4 (crc b) ++ b ++ m) (0 + 8) (0 + 8 + (b.length : Int)) = b := sub_mid (w4 b.length ++ w4 (crc b)) b m
  unfold tf
  rw [if_neg (by simp; omega), hlen, if_neg (by omega), hn, if_neg (by omega), hs, hq, if_neg (by simp)]
end Go.Proofs.Ytoeefamnglbakaa
