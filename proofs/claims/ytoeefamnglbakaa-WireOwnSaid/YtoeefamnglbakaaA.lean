import Derived.Test.YtoeefamnglbakaaWMore
import Derived.WalkLawsBesides
import Derived.Test.YtoeefamnglbakaaProg
import Derived.Test.YtoeefamnglbakaaS
namespace Go.Proofs.Ytoeefamnglbakaa
open Go.RowKit Go.Proofs.YtoeefamnglbakaaW.PrintWords Go.Proofs.YtoeefamnglbakaaW.PrintLast Go.Proofs.YtoeefamnglbakaaW.PrintMore
set_option linter.unusedVariables false
set_option linter.unusedSimpArgs false
def t3 (k1 k2 k3 : IntKind) (r : Int × Int × Int) : Value := .tuple #[.int k1 r.1, .int k2 r.2.1, .int k3 r.2.2]

theorem ret3_eq {k1 k2 k3 : IntKind} {a b c a' b' c' : Int} (h1 : a = a') (h2 : b = b') (h3 : c = c') : Ending.returned (.tuple #[.int k1 a, .int k2 b, .int k3 c]) = .returned (t3 k1 k2 k3 (a', b', c')) := by subst h1 h2 h3; rfl
theorem info5 : (Try.prog.info? 5).map (fun i => (i.zero, i.size, i.bytes)) = some (some (.int .u8 0), 1, 1) := by kernel_rfl

def len8 : ByteArray := ⟨#[0, 1, 2, 2, 3, 3, 3, 3, 4, 4, 4, 4, 4, 4, 4, 4, 5, 5, 5, 5, 5, 5, 5, 5, 5, 5, 5, 5, 5, 5, 5, 5, 6, 6, 6, 6, 6, 6, 6, 6, 6, 6, 6, 6, 6, 6, 6, 6, 6, 6, 6, 6, 6, 6, 6, 6, 6, 6, 6, 6, 6, 6, 6, 6, 7, 7, 7, 7, 7, 7, 7, 7, 7, 7, 7, 7, 7, 7, 7, 7, 7, 7, 7, 7, 7, 7, 7, 7, 7, 7, 7, 7, 7, 7, 7, 7, 7, 7, 7, 7, 7, 7, 7, 7, 7, 7, 7, 7, 7, 7, 7, 7, 7, 7, 7, 7, 7, 7, 7, 7, 7, 7, 7, 7, 7, 7, 7, 7, 8, 8, 8, 8, 8, 8, 8, 8, 8, 8, 8, 8, 8, 8, 8, 8, 8, 8, 8, 8, 8, 8, 8, 8, 8, 8, 8, 8, 8, 8, 8, 8, 8, 8, 8, 8, 8, 8, 8, 8, 8, 8, 8, 8, 8, 8, 8, 8, 8, 8, 8, 8, 8, 8, 8, 8, 8, 8, 8, 8, 8, 8, 8, 8, 8, 8, 8, 8, 8, 8, 8, 8, 8, 8, 8, 8, 8, 8, 8, 8, 8, 8, 8, 8, 8, 8, 8, 8, 8, 8, 8, 8, 8, 8, 8, 8, 8, 8, 8, 8, 8, 8, 8, 8, 8, 8, 8, 8, 8, 8, 8, 8, 8, 8, 8, 8, 8, 8, 8, 8, 8, 8, 8, 8, 8, 8, 8, 8]⟩
def lenOK (k : Nat) : Bool := decide (0 ≤ bt len8 k ∧ bt len8 k ≤ 8 ∧ (k ≤ 1 → bt len8 k ≤ 1) ∧ (2 ≤ k → 2 ≤ bt len8 k) ∧ (k < 128 → bt len8 k ≤ 7))
theorem len8_all : (List.range 256).all lenOK = true := by decide +kernel
theorem len8_ok (k : Nat) (h : k < 256) : 0 ≤ bt len8 k ∧ bt len8 k ≤ 8 ∧ (k ≤ 1 → bt len8 k ≤ 1) ∧ (2 ≤ k → 2 ≤ bt len8 k) ∧ (k < 128 → bt len8 k ≤ 7) :=
  of_decide_eq_true (List.all_eq_true.1 len8_all k (List.mem_range.2 h))
def LzOK (n : Int) (w : World) (e : Ending) (w' : World) : Prop := ∃ r : Int, e = .returned (.int .i64 r) ∧ w = w' ∧ 57 ≤ r ∧ r ≤ 64 ∧ (r < 63 ↔ 2 ≤ n)
set_option maxRecDepth 100000 in
theorem lz_small (n : Int) (w : World) (h0 : 0 ≤ n) (h1 : n < 128) : Calls Try.prog 37 #[.int .u64 n] w (LzOK n w) := by
  go_enter Try.func37, Try.ntmps37
  go_wp2
  go_ret
  obtain ⟨k1, k2, k3, k4, k5⟩ := len8_ok n.toNat (by omega)
  refine ⟨_, rfl, rfl, ?_⟩
  have hx := bt_at len8 n
  have hs : len8.size = 256 := by decide +kernel
  have hx := hx (by omega)
  have hn : ((n.toNat : Nat) : Int) = n := by omega
  rw [hn] at k1 k2 k3 k4 k5
  have e : ∀ q : Int, 0 ≤ q → q ≤ 8 → (q ≤ 7) → (n ≤ 1 → q ≤ 1) → (2 ≤ n → 2 ≤ q) → 57 ≤ wrap64 (64 - wrap64 (wrap64 q)) ∧ wrap64 (64 - wrap64 (wrap64 q)) ≤ 64 ∧ (wrap64 (64 - wrap64 (wrap64 q)) < 63 ↔ 2 ≤ n) := by
    intro q q0 q1 q2 q3 q4
    unfold wrap64
    refine ⟨by omega, by omega, by omega⟩
  have := e (bt len8 n) k1 k2 (k5 (by omega)) (fun h => k3 (by omega)) (fun h => k4 (by omega))
  rw [← hx] at this
  exact this
set_option maxRecDepth 100000 in
theorem TakeUint_bad (A : Option Addr) (c : Nat) (l : List Int) (a : Int) (w : World) (hb : a < 0 ∨ (l.length : Int) < a) :
    Calls Try.prog 17 #[.slice A l.length c, .int .i64 a] w fun e w' => e = .returned (.tuple #[.int .u64 0, .int .i64 0, .int .i64 1]) ∧ w = w' := by
  rcases hb with hb | hb
  · go_enter Try.func17, Try.ntmps17
    go_wp2
    go_ret3
    exact ⟨rfl, rfl⟩
  · have hb0 : 0 ≤ a := by omega
    go_enter Try.func17, Try.ntmps17
    go_wp2
    go_ret3
    exact ⟨rfl, rfl⟩
set_option maxRecDepth 100000 in
theorem TakeUint_good (A : Option Addr) (c : Nat) (l : List Int) (a : Int) (w : World) (hr : Kd.C (Kd.int .u8) w A l.length l) (hc : l.length ≤ c) (hb : bytesOK l) (h0 : 0 ≤ a) (h1 : a ≤ (l.length : Int)) :
    Calls Try.prog 17 #[.slice A l.length c, .int .i64 a] w fun e w' => e = .returned (t3 .u64 .i64 .i64 (tr (ta 0 0 (l.drop a.toNat)))) ∧ w = w' := by
  obtain ⟨i08, hi08, _, hsz8, _⟩ := info_parts info5
  obtain ⟨A8, hcut8, hA8, hC8⟩ := print_drop_of (P := Try.prog) (Value.int .u8) 0 22 5 .i64 Try.underlying22 hi08 hsz8 A c l a h0 h1 hc
  have HC := Aside0.mk (Kd.C_of_reads (h1 := fun _ => rfl) (hA8 _ (Kd.reads_of_C hr)))
  have hm : ∀ x ∈ l.drop a.toNat, 0 ≤ x ∧ x < 256 := fun x hx => hb x (List.mem_of_mem_drop hx)
  have hln : (l.drop a.toNat).length ≤ 9223372036854775807 := HC.out.2.1
  generalize l.drop a.toNat = m at *
  clear hA8 hC8 hi08 hsz8 hr
  obtain ⟨R, hR⟩ : ∃ R, ta 0 0 m = R := ⟨_, rfl⟩
  rw [hR]
  have HR := Aside0.mk hR
  have HM := Aside0.mk hm
  clear hR hb hm
  go_enter Try.func17, Try.ntmps17
  go_wp2
  go_loop [7, 23] (fun n i => ∃ (k : Nat) (q : Int), k ≤ m.length ∧ i = .int .i64 k ∧ n = .int .u64 q ∧ Aside0 (ta k q (m.drop k) = R ∧ 0 ≤ q ∧ (k ≤ 9 → q < 2 ^ (7 * k)))) (fun _ i => m.length - (intOf i).toNat)
  case atStart => exact ⟨0, 0, Nat.zero_le _, rfl, rfl, ⟨by simpa using HR.out, by omega, by simp⟩⟩
  case round =>
    obtain ⟨k, q, hk, rfl, rfl, HT⟩ := hrel
    by_cases hlt : k < m.length
    · obtain ⟨ad, rfl, hcell⟩ := Kd.at_int HC.out (k : Int) (by omega) (by omega)
      rw [Int.toNat_natCast] at hcell
      have hdk : m.drop k = rd m k :: m.drop (k + 1) := by simp [rd, List.getD_eq_getElem?_getD, List.getElem?_eq_getElem hlt]
      obtain ⟨x, hx0⟩ : ∃ x, rd m k = x := ⟨_, rfl⟩
      have hxb := HM.out (rd m k) (List.mem_of_mem_drop (hdk ▸ List.mem_cons_self))
      rw [hx0] at hcell hxb hdk
      obtain ⟨HT, hq0, hq1⟩ := HT.out
      rw [hdk] at HT
      obtain ⟨hx2, hx3⟩ := hxb
      have HT := Aside0.mk HT
      have hq1 := Aside0.mk hq1
      clear hx0 hdk
      have hd : bits BinOp.and IntKind.u8 x 127 = x % 128 := and127 x hx2 hx3
      by_cases hx1 : x < 128
      · have hd2 : bits BinOp.and IntKind.u8 x 128 = 0 := by rw [and128 x hx2 hx3, if_pos hx1]
        go_wp2_with (go_at_call 37; refine (lz_small _ _ (by omega) (by omega)).mono ?_; rintro e w' ⟨r, rfl, rfl, hr⟩)
        · have e : R = none := by
            rw [← HT.out]
            by_cases h10 : 10 ≤ k
            · exact ta_ten _ _ _ h10
            · have : k = 9 ∧ 1 < x := by omega
              simp [ta, this]
          subst e
          go_ret3
          exact ⟨rfl, rfl⟩
        · have e : R = none := by
            rw [← HT.out]
            have a1 : ¬ 10 ≤ k := by omega
            have a2 : ¬ (k = 9 ∧ 1 < x) := by omega
            have a3 : x = 0 ∧ 0 < k := by omega
            rw [ta, if_neg a1, if_neg a2, if_pos hx1, if_pos a3]
          subst e
          go_ret3
          exact ⟨rfl, rfl⟩
        · have e : R = some (q + x * 2 ^ (7 * k), (k : Int) + 1) := by
            rw [← HT.out]
            have a1 : ¬ 10 ≤ k := by omega
            have a2 : ¬ (k = 9 ∧ 1 < x) := by omega
            have a3 : ¬ (x = 0 ∧ 0 < k) := by omega
            rw [ta, if_neg a1, if_neg a2, if_pos hx1, if_neg a3]
          subst e
          obtain rfl : k = 0 := by omega
          have hq9 := hq1.out (by omega)
          obtain rfl : q = 0 := by simp at hq9; omega
          obtain rfl : x = 0 := by assumption
          go_ret3
          exact ⟨rfl, rfl⟩
        · have e : R = some (q + x * 2 ^ (7 * k), (k : Int) + 1) := by
            rw [← HT.out]
            have a1 : ¬ 10 ≤ k := by omega
            have a2 : ¬ (k = 9 ∧ 1 < x) := by omega
            have a3 : ¬ (x = 0 ∧ 0 < k) := by omega
            rw [ta, if_neg a1, if_neg a2, if_pos hx1, if_neg a3]
          subst e
          obtain ⟨d1, d2, d3, d4⟩ := dig_or k q (x % 128) (by omega) hq0 (hq1.out (by omega)) (by omega) (by omega) (by omega)
          have hmx : x % 128 = x := by omega
          go_ret3
          refine ⟨?_, rfl⟩
          exact ret3_eq (by rw [d1, hmx]) rfl rfl
        · have e : R = none := by rw [← HT.out]; exact ta_ten _ _ _ (by omega)
          subst e
          go_ret3
          exact ⟨rfl, rfl⟩
      · have hd2 : bits BinOp.and IntKind.u8 x 128 = 128 := by rw [and128 x hx2 hx3, if_neg hx1]
        go_wp2_with (go_at_call 37; refine (lz_small _ _ (by omega) (by omega)).mono ?_; rintro e w' ⟨r, rfl, rfl, hr⟩)
        · have e : R = none := by
            rw [← HT.out]
            by_cases h10 : 10 ≤ k
            · exact ta_ten _ _ _ h10
            · have : k = 9 ∧ 1 < x := by omega
              simp [ta, this]
          subst e
          go_ret3
          exact ⟨rfl, rfl⟩
        · obtain ⟨d1, d2, d3, d4⟩ := dig_or k q (x % 128) (by omega) hq0 (hq1.out (by omega)) (by omega) (by omega) (by omega)
          have hmx : x % 128 = x - 128 := by omega
          go_round
          case rel =>
            refine ⟨k + 1, _, by omega, by go_num, rfl, ⟨?_, by rw [d1]; exact d2, fun h => by rw [d1]; exact d3 (by omega)⟩⟩
            rw [d1, ← HT.out]
            by_cases h9 : k = 9
            · subst h9
              have : 1 < x := by omega
              rw [ta_ten _ _ _ (by omega)]
              simp [ta, this]
            · have a1 : ¬ 10 ≤ k := by omega
              have a2 : ¬ (k = 9 ∧ 1 < x) := by omega
              rw [ta, if_neg a1, if_neg a2, if_neg (by omega), hmx]
          case measure => simp [intOf]; omega
        · have e : R = none := by rw [← HT.out]; exact ta_ten _ _ _ (by omega)
          subst e
          go_ret3
          exact ⟨rfl, rfl⟩
    · go_wp2
      obtain rfl : k = m.length := by omega
      obtain ⟨HT, _, _⟩ := HT.out
      rw [List.drop_length] at HT
      obtain rfl : none = R := HT
      go_ret3
      exact ⟨rfl, rfl⟩
theorem TakeUint_calls (A : Option Addr) (c : Nat) (l : List Int) (a : Int) (w : World) (hr : Kd.C (Kd.int .u8) w A l.length l) (hc : l.length ≤ c) (hb : bytesOK l) :
    Calls Try.prog 17 #[.slice A l.length c, .int .i64 a] w fun e w' => e = .returned (t3 .u64 .i64 .i64 (tu l a)) ∧ w = w' := by
  unfold tu
  by_cases h : a < 0 ∨ a > l.length
  · rw [if_pos h]; exact TakeUint_bad A c l a w (by omega)
  · rw [if_neg h]; exact TakeUint_good A c l a w hr hc hb (by omega) (by omega)
end Go.Proofs.Ytoeefamnglbakaa
