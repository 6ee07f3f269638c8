import Derived.Test.YtoeefamnglbakaaB
namespace Go.Proofs.Ytoeefamnglbakaa
open Go.RowKit Go.Proofs.YtoeefamnglbakaaW.PrintWords Go.Proofs.YtoeefamnglbakaaW.PrintLast Go.Proofs.YtoeefamnglbakaaW.PrintMore
set_option linter.unusedVariables false
set_option linter.unusedSimpArgs false
attribute [local go_sem] t3
set_option maxRecDepth 100000 in
theorem WireSums_calls (A : Option Addr) (c : Nat) (l : List Int) (w : World) (hr : Kd.C (Kd.int .u8) w A l.length l) (hb : bytesOK l) :
    Calls Try.prog 3 #[.slice A l.length c] w fun e w' => e = .returned (.bool true) ∧ Below w.heap.size w w' := by
  have L1 := fun W (h : Below w.heap.size w W) => Sum_calls A c l W (Kd.C_below hr h) hb
  have L2 := fun W (h : Below w.heap.size w W) => refSum_calls A c l W (Kd.C_below hr h) hb
  clear hr hb
  go_enter Try.func3, Try.ntmps3
  go_wp2_with (first | (go_at_call 14; refine (live_calls _).mono ?_; rintro e w' ⟨rfl, hw⟩) | (go_at_call 15; refine (L1 _ hw).mono ?_; rintro e w' ⟨rfl, rfl⟩) | (go_at_call 16; refine (L2 _ hw).mono ?_; rintro e w' ⟨rfl, rfl⟩))
  go_ret
  exact ⟨rfl, hw⟩

theorem ref_or (k : Nat) (q x : Int) (hk : k ≤ 9) (hq : 0 ≤ q) (hq1 : q < 2 ^ (7 * k)) (h0 : 0 ≤ x) (h1 : x < 128) (h9 : k = 9 → x < 2) :
    IntKind.u64.wrap (q + IntKind.u64.wrap (x * 2 ^ (7 * k))) = q + x * 2 ^ (7 * k) := by
  obtain ⟨d1, d2, d3, d4⟩ := dig_or k q x hk hq hq1 h0 h1 h9
  obtain ⟨p, e, e', hp, hp1, hp2, hp3⟩ := pow7 k hk
  rw [IntKind.wrap_u64, IntKind.wrap_u64]
  have : 0 ≤ x * 2 ^ (7 * k) := Int.mul_nonneg h0 (by rw [e]; omega)
  omega
set_option maxRecDepth 100000 in
theorem refTakeUint_bad (A : Option Addr) (c : Nat) (l : List Int) (a : Int) (w : World) (hb : a < 0 ∨ (l.length : Int) < a) :
    Calls Try.prog 18 #[.slice A l.length c, .int .i64 a] w fun e w' => e = .returned (.tuple #[.int .u64 0, .int .i64 0, .int .i64 1]) ∧ w = w' := by
  rcases hb with hb | hb
  · go_enter Try.func18, Try.ntmps18
    go_wp2
    go_ret3
    exact ⟨rfl, rfl⟩
  · have hb0 : 0 ≤ a := by omega
    go_enter Try.func18, Try.ntmps18
    go_wp2
    go_ret3
    exact ⟨rfl, rfl⟩
def RT (s : Nat) (l : List Int) (R : Option (Int × Int)) (n i : Value) : Prop :=
  ∃ (k : Nat) (q : Int), k ≤ 10 ∧ s + k ≤ l.length ∧ i = .int .i64 k ∧ n = .int .u64 q ∧ ta k q (l.drop (s + k)) = R ∧ 0 ≤ q ∧ (k ≤ 9 → q < 2 ^ (7 * k))
set_option maxHeartbeats 2000000 in
set_option maxRecDepth 100000 in
theorem refTakeUint_good (A : Option Addr) (c : Nat) (l : List Int) (a : Int) (w : World) (hr : Kd.C (Kd.int .u8) w A l.length l) (hb : bytesOK l) (h0 : 0 ≤ a) (h1 : a ≤ (l.length : Int)) (hmx : l.length ≤ 140737488351232) :
    Calls Try.prog 18 #[.slice A l.length c, .int .i64 a] w fun e w' => e = .returned (t3 .u64 .i64 .i64 (tr (ta 0 0 (l.drop a.toNat)))) ∧ w = w' := by
  have HC := Aside0.mk hr
  have HM := Aside0.mk hb
  obtain ⟨s, rfl⟩ := Int.eq_ofNat_of_zero_le h0
  rw [Int.toNat_natCast]
  have h1 : s ≤ l.length := by omega
  obtain ⟨R, hR⟩ : ∃ R, ta 0 0 (l.drop s) = R := ⟨_, rfl⟩
  rw [hR]
  have HR := Aside0.mk hR
  clear hR hr hb h0
  go_enter Try.func18, Try.ntmps18
  go_wp2
  go_loop [7, 8] (fun n i => RT s l R n i) (fun _ i => 10 - (intOf i).toNat)
  case atStart => exact ⟨0, 0, by omega, by omega, rfl, rfl, by simpa using HR.out, by omega, by simp⟩
  case round =>
    obtain ⟨k, q, hk, hk2, rfl, rfl, HT0⟩ := hrel
    have HT := Aside0.mk HT0
    clear HT0
    by_cases hlt : s + k < l.length
    · by_cases hk10 : k < 10
      · obtain ⟨ad, rfl, hcell⟩ := Kd.at_int HC.out ((s + k : Nat) : Int) (by omega) (by omega)
        rw [Int.toNat_natCast] at hcell
        have hdk : l.drop (s + k) = rd l (s + k : Nat) :: l.drop (s + (k + 1)) := by
          rw [← Nat.add_assoc]
          simp only [rd, Int.toNat_natCast, List.getD_eq_getElem?_getD, List.getElem?_eq_getElem hlt]
          simp
        obtain ⟨x, hx0⟩ : ∃ x, rd l (s + k : Nat) = x := ⟨_, rfl⟩
        have hxb := HM.out (rd l (s + k : Nat)) (List.mem_of_mem_drop (hdk ▸ List.mem_cons_self))
        rw [hx0] at hcell hxb hdk
        obtain ⟨HT, hq0, hq1⟩ := HT.out
        rw [hdk] at HT
        obtain ⟨hx2, hx3⟩ := hxb
        have HT := Aside0.mk HT
        have hq1 := Aside0.mk hq1
        clear hx0 hdk
        by_cases hx1 : x < 128
        · by_cases hbad : (k = 9 ∧ 1 < x) ∨ (x = 0 ∧ 0 < k)
          · have e : R = none := by
              rw [← HT.out, ta, if_neg (by omega)]
              by_cases h9 : k = 9 ∧ 1 < x
              · rw [if_pos h9]
              · rw [if_neg h9, if_pos hx1, if_pos (by omega)]
            subst e
            rcases hbad with ⟨h9, hb⟩ | ⟨hb0, hb⟩
            · have h9' : 9 ≤ k := by omega
              clear h9
              go_wp2
              go_ret3
              exact ⟨rfl, rfl⟩
            · have hx1' : x ≤ 0 := by omega
              clear hb0
              go_wp2
              all_goals
                go_ret3
                exact ⟨rfl, rfl⟩
          · have e : R = some (q + x * 2 ^ (7 * k), (k : Int) + 1) := by
              rw [← HT.out, ta, if_neg (by omega), if_neg (by omega), if_pos hx1, if_neg (by omega)]
            subst e
            have ho := ref_or k q x (by omega) hq0 (hq1.out (by omega)) (by omega) (by omega) (by omega)
            have hmx : x % 128 = x := by omega
            by_cases hx0 : x = 0
            · have hk0 : k ≤ 0 := by omega
              have hx0' : x ≤ 0 := by omega
              clear hbad hx0 hmx
              have ho := Aside0.mk ho
              go_wp2
              all_goals
                go_ret3
                refine ⟨ret3_eq ?_ (by omega) rfl, rfl⟩
                obtain rfl : k = 0 := by omega
                have hq9 := hq1.out (by omega)
                obtain rfl : q = 0 := by simp at hq9; omega
                rfl
            · have ho := Aside0.mk ho
              have hmx := Aside0.mk hmx
              have hx0' : 1 ≤ x := by omega
              go_wp2
              all_goals
                go_ret3
                refine ⟨ret3_eq ?_ (by omega) rfl, rfl⟩
                first
                  | (rw [← ho.out, hmx.out]; done)
                  | (rw [← ho.out]; done)
                  | (obtain rfl : k = 9 := by omega
                     have ho := ho.out
                     rw [IntKind.wrap_u64, IntKind.wrap_u64] at ho
                     rw [IntKind.wrap_u64]
                     omega)
        · go_wp2
          · have e : R = none := by
              rw [← HT.out]
              have : k = 9 ∧ 1 < x := by omega
              simp [ta, this]
            subst e
            go_ret3
            exact ⟨rfl, rfl⟩
          · have ho := ref_or k q (x % 128) (by omega) hq0 (hq1.out (by omega)) (by omega) (by omega) (by omega)
            obtain ⟨d1, d2, d3, d4⟩ := dig_or k q (x % 128) (by omega) hq0 (hq1.out (by omega)) (by omega) (by omega) (by omega)
            have hmx : x % 128 = x - 128 := by omega
            refine ⟨⟨_, _, _, _, _, ?_, rfl, rfl, rfl, rfl, rfl⟩, by simp [intOf]; omega⟩
            rw [ho]
            refine ⟨k + 1, _, by omega, by omega, by go_num, rfl, ?_, d2, fun h => d3 (by omega)⟩
            rw [← HT.out]
            have a1 : ¬ 10 ≤ k := by omega
            have a2 : ¬ (k = 9 ∧ 1 < x) := by omega
            rw [ta, if_neg a1, if_neg a2, if_neg (by omega), hmx]
      · go_wp2
        obtain rfl : k = 10 := by omega
        obtain ⟨HT, _, _⟩ := HT.out
        rw [ta_ten _ _ _ (by omega)] at HT
        subst HT
        go_ret3
        exact ⟨rfl, rfl⟩
    · obtain ⟨HT, _, _⟩ := HT.out
      rw [List.drop_eq_nil_of_le (by omega)] at HT
      obtain rfl : none = R := HT
      go_wp2
      all_goals
        go_ret3
        exact ⟨rfl, rfl⟩
theorem refTakeUint_calls (A : Option Addr) (c : Nat) (l : List Int) (a : Int) (w : World) (hr : Kd.C (Kd.int .u8) w A l.length l) (hb : bytesOK l) (hmx : l.length ≤ 140737488351232) :
    Calls Try.prog 18 #[.slice A l.length c, .int .i64 a] w fun e w' => e = .returned (t3 .u64 .i64 .i64 (tu l a)) ∧ w = w' := by
  unfold tu
  by_cases h : a < 0 ∨ a > l.length
  · rw [if_pos h]; exact refTakeUint_bad A c l a w (by omega)
  · rw [if_neg h]; exact refTakeUint_good A c l a w hr hb (by omega) (by omega) hmx

theorem ta_rng : ∀ (l : List Int) (i : Nat) (n : Int), bytesOK l → 0 ≤ n → (i ≤ 9 → n < 2 ^ (7 * i)) → ∀ v s, ta i n l = some (v, s) → 0 ≤ v ∧ v < 18446744073709551616 ∧ 0 < s ∧ s ≤ 10
  | [], _, _, _, _, _, _, _, h => by simp [ta] at h
  | c :: l, i, n, hb, h0, h1, v, s, h => by
    have hc := hb c (by simp)
    rw [ta] at h
    by_cases a1 : 10 ≤ i
    · simp [a1] at h
    · rw [if_neg a1] at h
      by_cases a2 : i = 9 ∧ 1 < c
      · simp [a2] at h
      · rw [if_neg a2] at h
        by_cases a3 : c < 128
        · rw [if_pos a3] at h
          by_cases a4 : c = 0 ∧ 0 < i
          · simp [a4] at h
          · rw [if_neg a4] at h
            obtain ⟨d1, d2, d3, d4⟩ := dig_or i n c (by omega) h0 (h1 (by omega)) (by omega) a3 (by omega)
            simp at h
            omega
        · rw [if_neg a3] at h
          by_cases h9 : i = 9
          · exfalso; omega
          · obtain ⟨d1, d2, d3, d4⟩ := dig_or i n (c - 128) (by omega) h0 (h1 (by omega)) (by omega) (by omega) (by omega)
            exact ta_rng l (i + 1) _ (fun x hx => hb x (List.mem_cons_of_mem _ hx)) d2 (fun _ => d3 (by omega)) v s h
theorem tu_rng (l : List Int) (a : Int) (hb : bytesOK l) : 0 ≤ (tu l a).1 ∧ (tu l a).1 < 18446744073709551616 ∧ 0 ≤ (tu l a).2.1 ∧ (tu l a).2.1 ≤ 10 ∧ ((tu l a).2.2 ≠ 0 → (tu l a).1 = 0 ∧ (tu l a).2.1 = 0) := by
  unfold tu
  split
  · simp
  · cases h : ta 0 0 (l.drop a.toNat) with
    | none => simp [tr]
    | some r =>
      obtain ⟨v, s⟩ := r
      have := ta_rng _ 0 0 (fun x hx => hb x (List.mem_of_mem_drop hx)) (by omega) (by simp) v s h
      simp [tr]; omega
/-- a number with a sign, out of one without -/
def zz (u : Int) : Int := if u % 2 = 1 then -(u / 2) - 1 else u / 2
def ti (l : List Int) (a : Int) : Int × Int × Int := (zz (tu l a).1, (tu l a).2.1, (tu l a).2.2)
theorem bits_xor64 (x y : Int) : bits .xor .i64 x y = ((((BitVec.ofInt 64 x ^^^ BitVec.ofInt 64 y : BitVec 64).toNat : Int) + 9223372036854775808) % 18446744073709551616 - 9223372036854775808) := by
  show IntKind.i64.wrap _ = _
  rw [IntKind.wrap_i64]
  rfl
theorem xor_zero64 (x : Int) (h0 : 0 ≤ x) (h1 : x < 9223372036854775808) : bits .xor .i64 x (wrap64 (-0)) = x := by
  have : wrap64 (-0) = 0 := by unfold wrap64; omega
  rw [this, bits_xor64]
  rw [show BitVec.ofInt 64 x ^^^ BitVec.ofInt 64 0 = BitVec.ofInt 64 x by simp]
  rw [BitVec.toNat_ofInt]
  omega
theorem xor_ones64 (x : Int) (h0 : 0 ≤ x) (h1 : x < 9223372036854775808) : bits .xor .i64 x (wrap64 (-1)) = -x - 1 := by
  have : wrap64 (-1) = -1 := by unfold wrap64; omega
  rw [this, bits_xor64]
  rw [show BitVec.ofInt 64 x ^^^ BitVec.ofInt 64 (-1) = ~~~ BitVec.ofInt 64 x by rw [show BitVec.ofInt 64 (-1) = BitVec.allOnes 64 by decide, BitVec.xor_allOnes]]
  rw [BitVec.toNat_not, BitVec.toNat_ofInt]
  omega
set_option maxRecDepth 100000 in
theorem TakeInt_calls (A : Option Addr) (c : Nat) (l : List Int) (a : Int) (w : World) (hr : Kd.C (Kd.int .u8) w A l.length l) (hc : l.length ≤ c) (hb : bytesOK l) :
    Calls Try.prog 19 #[.slice A l.length c, .int .i64 a] w fun e w' => e = .returned (t3 .i64 .i64 .i64 (ti l a)) ∧ w = w' := by
  have L1 := TakeUint_calls A c l a w hr hc hb
  obtain ⟨h1, h2, h3, h4, h5⟩ := tu_rng l a hb
  unfold ti
  generalize tu l a = r at *
  obtain ⟨u, s, e⟩ := r
  clear hr hc hb
  simp only at *
  have e1 : bits .and .u64 u 1 = u % 2 := by
    rw [u64_and u 1 h1 h2 (by omega) (by omega)]
    show ((u.toNat &&& 1 : Nat) : Int) = _
    rw [nat_mask1]; omega
  have e2 : bits .xor .i64 (u / 2) (wrap64 (-(u % 2))) = zz u := by
    unfold zz
    rcases (by omega : u % 2 = 0 ∨ u % 2 = 1) with h | h
    · rw [h, if_neg (by omega)]
      exact xor_zero64 _ (by omega) (by omega)
    · rw [h, if_pos rfl]
      exact xor_ones64 _ (by omega) (by omega)
  rw [← e1] at e2
  have e3 : wrap64 (-wrap64 (bits .and .u64 u 1)) = wrap64 (-(bits .and .u64 u 1)) := by rw [e1]; unfold wrap64; omega
  go_enter Try.func19, Try.ntmps19
  clear e1
  have e2 := Aside0.mk e2
  have e3 := Aside0.mk e3
  go_wp2_with (go_at_call 17; refine L1.mono ?_; rintro e w' ⟨rfl, rfl⟩)
  go_ret3
  exact ⟨ret3_eq (by rw [← e2.out, ← e3.out]) rfl rfl, rfl⟩
set_option maxRecDepth 100000 in
theorem refTakeInt_calls (A : Option Addr) (c : Nat) (l : List Int) (a : Int) (w : World) (hr : Kd.C (Kd.int .u8) w A l.length l) (hb : bytesOK l) (hmx : l.length ≤ 140737488351232) :
    Calls Try.prog 20 #[.slice A l.length c, .int .i64 a] w fun e w' => e = .returned (t3 .i64 .i64 .i64 (ti l a)) ∧ w = w' := by
  have L1 := refTakeUint_calls A c l a w hr hb hmx
  obtain ⟨h1, h2, h3, h4, h5⟩ := tu_rng l a hb
  unfold ti
  generalize tu l a = r at *
  obtain ⟨u, s, e⟩ := r
  clear hr hmx hb
  simp only at *
  have h5 := Aside0.mk h5
  go_enter Try.func20, Try.ntmps20
  go_wp2_with (go_at_call 18; refine L1.mono ?_; rintro e w' ⟨rfl, rfl⟩)
  · go_ret3
    have h6 := h5.out (by simpa using ‹(e != 0) = true›)
    exact ⟨ret3_eq (by rw [h6.1]; rfl) (by omega) rfl, rfl⟩
  · go_ret3
    have h6 : u % 2 = 1 := by simpa using ‹(u % 2 == 1) = true›
    exact ⟨ret3_eq (by unfold zz; rw [if_pos h6]) rfl (Eq.symm (by simpa using ‹(e != 0) = false›)), rfl⟩
  · go_ret3
    have h6 : ¬ u % 2 = 1 := by simpa using ‹(u % 2 == 1) = false›
    exact ⟨ret3_eq (by unfold zz; rw [if_neg h6]) rfl (Eq.symm (by simpa using ‹(e != 0) = false›)), rfl⟩
set_option maxRecDepth 100000 in
theorem WireTakes_calls (A : Option Addr) (c : Nat) (l : List Int) (a : Int) (w : World) (hr : Kd.C (Kd.int .u8) w A l.length l) (hc : l.length ≤ c) (hb : bytesOK l) (hmx : l.length ≤ 140737488351232) :
    Calls Try.prog 4 #[.slice A l.length c, .int .i64 a] w fun e w' => e = .returned (.bool true) ∧ Below w.heap.size w w' := by
  have L1 := TakeUint_calls A c l a w hr hc hb
  have L2 := refTakeUint_calls A c l a w hr hb hmx
  have L3 := TakeInt_calls A c l a w hr hc hb
  have L4 := refTakeInt_calls A c l a w hr hb hmx
  clear hr hb hc hmx
  generalize tu l a = r1 at *
  generalize ti l a = r2 at *
  go_enter Try.func4, Try.ntmps4
  go_wp2_with (first | (go_at_call 14; refine (live_calls _).mono ?_; rintro e w' ⟨rfl, hw⟩) | (go_at_call 17; refine L1.mono ?_; rintro e w' ⟨rfl, rfl⟩) | (go_at_call 18; refine L2.mono ?_; rintro e w' ⟨rfl, rfl⟩) | (go_at_call 19; refine L3.mono ?_; rintro e w' ⟨rfl, rfl⟩) | (go_at_call 20; refine L4.mono ?_; rintro e w' ⟨rfl, rfl⟩))
  go_ret
  exact ⟨rfl, hw⟩
end Go.Proofs.Ytoeefamnglbakaa
