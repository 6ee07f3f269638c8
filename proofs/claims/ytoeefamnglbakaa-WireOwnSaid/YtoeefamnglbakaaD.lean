import Derived.Test.YtoeefamnglbakaaC
import Derived.Lib.Strings
namespace Go.Proofs.Ytoeefamnglbakaa
open Go.RowKit Go.Proofs.YtoeefamnglbakaaW.PrintWords Go.Proofs.YtoeefamnglbakaaW.PrintLast Go.Proofs.YtoeefamnglbakaaW.PrintMore
set_option linter.unusedVariables false
set_option linter.unusedSimpArgs false
attribute [local go_sem] t3
/-! ### bytes that were made since w -/
def Fr (w W : World) (v : Value) (xs : List Int) : Prop := Kd.R (Kd.int .u8) 5 W w.heap.size (fun _ => True) v xs ∧ Below w.heap.size w W
theorem Fr.nil {w W : World} (h : Below w.heap.size w W) : Fr w W (.slice none 0 0) [] := ⟨Kd.R_nil _ _ _ _ _, h⟩
theorem Fr.alloc {w W : World} {v : Value} {xs : List Int} (h : Fr w W v xs) (o : Obj) : Fr w (W.alloc o) v xs :=
  ⟨Kd.R_below h.1 (below_alloc (Below.refl _ _) o), below_alloc h.2 o⟩
theorem Fr.later {w W W1 : World} {v : Value} {xs : List Int} (h : Fr w W v xs) (k : Below W.heap.size W W1) : Fr w W1 v xs :=
  ⟨Kd.R_below h.1 k, below_then h.2 h.2.size k⟩
theorem Fr.reads {w W : World} {v : Value} {xs : List Int} (h : Fr w W v xs) : ∃ A c, v = .slice A xs.length c ∧ xs.length ≤ c ∧ Kd.C (Kd.int .u8) W A xs.length xs := Kd.R_reads h.1
theorem Fr.len {w W : World} {v : Value} {xs : List Int} (h : Fr w W v xs) : xs.length ≤ 9223372036854775807 := by
  obtain ⟨A, c, _, _, h⟩ := h.reads
  exact h.2.1
section
variable {ops : Array Oper} {rest : List Oper} {o : Oper} {a : Act} {Q : Exit → Act → World → Prop}
theorem app1 {w W : World} {s x : Operand} {v : Value} {xs : List Int} {y : Int} (hgd : o.guard = none) (ho : o.op = .call { callee := .builtin .append, args := #[s, x], argTypes := #[22, 22] })
    (hs : a.eval s = v) (hx : a.eval x = .slice (some ⟨W.heap.size, 0, none⟩) 1 1) (HO : Fr w W v xs) (hl : xs.length + 1 ≤ 140737488355328)
    (h : ∀ v1 w1, Fr w w1 v1 (xs ++ [y]) → wpList Try.prog ops Q rest (a.put o.dst v1) w1) : wpList Try.prog ops Q (o :: rest) a (W.alloc (.cells #[.int .u8 y] 5)) := by
  refine Kd.R_append (Kd.int .u8) (w0 := w) w.heap.size hgd s x 22 5 (.int .u8 0) 1 ho Try.underlying22 info5 rfl (by decide) (by omega) v xs y [.int .u8 y] (fun _ => True) (fun _ => False) hs hx rfl (fun _ hk => hk.elim) (fun _ _ => trivial) HO.1 HO.2 HO.2.size (by omega) ?_
  intro v1 w1 h1 h2 _ _
  exact h v1 w1 ⟨h1, h2⟩
end
/-! ### numbers put -/
def ub (n : Nat) : List Int := if h : n < 128 then [(n : Int)] else ((n % 128 + 128 : Nat) : Int) :: ub (n / 128)
termination_by n
decreasing_by omega
theorem ub_low (n : Nat) (h : n < 128) : ub n = [(n : Int)] := by rw [ub, dif_pos h]
theorem ub_high (n : Nat) (h : ¬ n < 128) : ub n = ((n % 128 + 128 : Nat) : Int) :: ub (n / 128) := by rw [ub, dif_neg h]
theorem ub_len : ∀ (n k : Nat), n < 128 ^ (k + 1) → (ub n).length ≤ k + 1
  | n, 0, h => by rw [ub_low n (by simpa using h)]; simp
  | n, k + 1, h => by
    by_cases hn : n < 128
    · rw [ub_low n hn]; simp
    · rw [ub_high n hn]
      have : n / 128 < 128 ^ (k + 1) := Nat.div_lt_of_lt_mul (by rw [Nat.pow_succ, Nat.mul_comm] at h; exact h)
      have := ub_len (n / 128) k this
      simp; omega
theorem ub_len10 (n : Nat) (h : n < 18446744073709551616) : (ub n).length ≤ 10 := ub_len n 9 (Nat.lt_of_lt_of_le h (by decide))
theorem or128 (x : Int) (h0 : 0 ≤ x) (h1 : x < 128) : bits .or .u8 x 128 = x + 128 := by
  rw [u8_or x 128 h0 (by omega) (by omega) (by omega)]
  show ((x.toNat ||| 128 : Nat) : Int) = _
  rw [Nat.or_comm, nat_join 7 128 x.toNat (by decide) (by omega)]
  omega
def UR (w : World) (n0 : Nat) (n b : Value) (W : World) : Prop := ∃ (n1 : Nat) (xs : List Int), n = .int .u64 (n1 : Int) ∧ n1 ≤ n0 ∧ xs ++ ub n1 = ub n0 ∧ Fr w W b xs
def natOf (v : Value) : Nat := (intOf v).toNat
set_option maxRecDepth 100000 in
theorem Uint_calls (n0 : Nat) (w : World) (hn : n0 < 18446744073709551616) :
    Calls Try.prog 22 #[.int .u64 (n0 : Int)] w fun e w' => ∃ v, e = .returned v ∧ Fr w w' v (ub n0) := by
  have hlen := ub_len10 n0 hn
  go_enter Try.func22, Try.ntmps22
  go_wp2
  go_loopw [0, 3] (fun n b W => UR w n0 n b W) (fun n b W => natOf n)
  case atStart => exact ⟨n0, [], rfl, Nat.le_refl _, rfl, Fr.nil (Below.refl _ _)⟩
  case round =>
    obtain ⟨n, xs, rfl, hn1, hx, HO⟩ := hrel
    have hxl : xs.length + 1 ≤ 140737488355328 := by
      have := congrArg List.length hx
      simp at this; omega
    have ha : bits .and .u64 (n : Int) 127 = (n : Int) % 128 := by
      rw [u64_and (n : Int) 127 (by omega) (by omega) (by omega) (by omega)]
      show (((n : Int).toNat &&& 127 : Nat) : Int) = _
      rw [nat_mask7]; omega
    by_cases h : n < 128
    · rw [ub_low n h] at hx
      have hx := Aside0.mk hx
      go_wp2_with (at_builtin; refine app1 rfl rfl rfl rfl HO hxl ?_; intro v1 w1 HO1; clear HO)
      go_ret
      refine ⟨_, rfl, ?_⟩
      rw [hx.out] at HO1
      exact HO1
    · rw [ub_high n h] at hx
      have hx := Aside0.mk hx
      have hob : bits .or .u8 ((n : Int) % 128) 128 = (n : Int) % 128 + 128 := or128 _ (by omega) (by omega)
      go_wp2_with (at_builtin; refine app1 rfl rfl rfl rfl HO hxl ?_; intro v1 w1 HO1; clear HO)
      go_roundw
      case rel => exact ⟨n / 128, xs ++ [(n : Int) % 128 + 128], by go_num, by omega, by rw [← hx.out]; simp, HO1⟩
      case measure => simp [natOf, intOf]; omega
set_option maxRecDepth 100000 in
theorem refUint_calls (n0 : Nat) (w : World) (hn : n0 < 18446744073709551616) :
    Calls Try.prog 23 #[.int .u64 (n0 : Int)] w fun e w' => ∃ v, e = .returned v ∧ Fr w w' v (ub n0) := by
  have hlen := ub_len10 n0 hn
  go_enter Try.func23, Try.ntmps23
  go_wp2
  go_loopw [0, 3] (fun n b W => UR w n0 n b W) (fun n b W => natOf n)
  case atStart => exact ⟨n0, [], rfl, Nat.le_refl _, rfl, Fr.nil (Below.refl _ _)⟩
  case round =>
    obtain ⟨n, xs, rfl, hn1, hx, HO⟩ := hrel
    have hxl : xs.length + 1 ≤ 140737488355328 := by
      have := congrArg List.length hx
      simp at this; omega
    by_cases h : n < 128
    · rw [ub_low n h] at hx
      have hx := Aside0.mk hx
      go_wp2_with (at_builtin; refine app1 rfl rfl rfl rfl HO hxl ?_; intro v1 w1 HO1; clear HO)
      go_ret
      refine ⟨_, rfl, ?_⟩
      rw [hx.out] at HO1
      exact HO1
    · rw [ub_high n h] at hx
      have hx := Aside0.mk hx
      go_wp2_with (at_builtin; refine app1 rfl rfl rfl rfl HO hxl ?_; intro v1 w1 HO1; clear HO)
      go_roundw
      case rel => exact ⟨n / 128, xs ++ [(n : Int) % 128 + 128], by go_num, by omega, by rw [← hx.out]; simp, HO1⟩
      case measure => simp [natOf, intOf]; omega
/-- the number without a sign of a number with one -/
def zu (n : Int) : Nat := if n < 0 then (-2 * n - 1).toNat else (2 * n).toNat
theorem xor_zero_u64 (x : Int) (h0 : 0 ≤ x) (h1 : x < 18446744073709551616) : bits .xor .u64 x 0 = x := by
  rw [u64_xor x 0 h0 h1 (by omega) (by omega)]
  simp; omega
theorem xor_ones_u64 (x : Int) (h0 : 0 ≤ x) (h1 : x < 18446744073709551616) : bits .xor .u64 x 18446744073709551615 = 18446744073709551615 - x := by
  have e : bits .xor .u64 x 18446744073709551615 = IntKind.u64.wrap (((BitVec.ofInt 64 x ^^^ BitVec.ofInt 64 18446744073709551615 : BitVec 64).toNat : Int)) := rfl
  rw [e, show BitVec.ofInt 64 x ^^^ BitVec.ofInt 64 18446744073709551615 = ~~~ BitVec.ofInt 64 x by rw [show BitVec.ofInt 64 18446744073709551615 = BitVec.allOnes 64 by decide, BitVec.xor_allOnes], BitVec.toNat_not, BitVec.toNat_ofInt, IntKind.wrap_u64]
  omega
set_option maxRecDepth 100000 in
theorem Int_calls (n : Int) (w : World) (h0 : -9223372036854775808 ≤ n) (h1 : n ≤ 9223372036854775807) :
    Calls Try.prog 24 #[.int .i64 n] w fun e w' => ∃ v, e = .returned v ∧ Fr w w' v (ub (zu n)) := by
  have hz : zu n < 18446744073709551616 := by unfold zu; split <;> omega
  have L1 := Uint_calls (zu n) w hz
  have e1 : bits .xor .u64 (IntKind.u64.wrap (IntKind.u64.wrap n * 2)) (IntKind.u64.wrap (n / 9223372036854775808)) = ((zu n : Nat) : Int) := by
    rw [IntKind.wrap_u64, IntKind.wrap_u64, IntKind.wrap_u64]
    unfold zu
    by_cases hn : n < 0
    · rw [if_pos hn, show n / 9223372036854775808 = -1 by omega, show (-1 : Int) % 18446744073709551616 = 18446744073709551615 by decide, xor_ones_u64 _ (by omega) (by omega)]
      omega
    · rw [if_neg hn, show n / 9223372036854775808 = 0 by omega, show (0 : Int) % 18446744073709551616 = 0 by decide, xor_zero_u64 _ (by omega) (by omega)]
      omega
  have E1 := Aside0.mk e1
  clear e1 hz
  go_enter Try.func24, Try.ntmps24
  go_wp2_with (go_at_call 22; rw [E1.out]; refine L1.mono ?_; rintro e w' ⟨v, rfl, HO⟩)
  go_ret
  exact ⟨_, rfl, HO⟩
set_option maxRecDepth 100000 in
theorem refInt_calls (n : Int) (w : World) (h0 : -9223372036854775808 ≤ n) (h1 : n ≤ 9223372036854775807) :
    Calls Try.prog 25 #[.int .i64 n] w fun e w' => ∃ v, e = .returned v ∧ Fr w w' v (ub (zu n)) := by
  have hz : zu n < 18446744073709551616 := by unfold zu; split <;> omega
  have L1 := refUint_calls (zu n) w hz
  by_cases hn : n < 0
  · have e1 : 2 * -(n + 1) + 1 = ((zu n : Nat) : Int) := by unfold zu; rw [if_pos hn]; omega
    have E1 := Aside0.mk e1
    clear e1 hz
    go_enter Try.func25, Try.ntmps25
    go_wp2_with (go_at_call 23; rw [E1.out]; refine L1.mono ?_; rintro e w' ⟨v, rfl, HO⟩)
    go_ret
    exact ⟨_, rfl, HO⟩
  · have e1 : 2 * n = ((zu n : Nat) : Int) := by unfold zu; rw [if_neg hn]; omega
    have E1 := Aside0.mk e1
    clear e1 hz
    go_enter Try.func25, Try.ntmps25
    go_wp2_with (go_at_call 23; rw [E1.out]; refine L1.mono ?_; rintro e w' ⟨v, rfl, HO⟩)
    go_ret
    exact ⟨_, rfl, HO⟩
section
variable {ops : Array Oper} {rest : List Oper} {o : Oper} {a : Act} {Q : Exit → Act → World → Prop}
theorem appS {w W : World} {s x : Operand} {v : Value} {xs : List Int} {y : ByteArray} (hgd : o.guard = none) (ho : o.op = .call { callee := .builtin .append, args := #[s, x], argTypes := #[22, 9] })
    (hs : a.eval s = v) (hx : a.eval x = .string y) (HO : Fr w W v xs) (hl : xs.length + y.size ≤ 140737488355328)
    (h : ∀ v1 w1, Fr w w1 v1 (xs ++ bytesOf y) → wpList Try.prog ops Q rest (a.put o.dst v1) w1) : wpList Try.prog ops Q (o :: rest) a W := by
  refine print_append_str (P := Try.prog) (w0 := w) w.heap.size hgd s x 22 9 5 ho Try.underlying22 Try.underlying9 info5 v xs y hs hx (Kd.own_of_R HO.1) HO.2 HO.2.size hl ?_
  intro v1 w1 h1 h2 _
  exact h v1 w1 ⟨Kd.R_of_own h1 (fun _ _ => trivial), h2⟩
end
theorem Below_trans {w w1 w2 : World} (h : Below w.heap.size w w1) (k : Below w1.heap.size w1 w2) : Below w.heap.size w w2 := below_then h h.size k
theorem Fr.of_later {w w1 W : World} {v : Value} {xs : List Int} (h : Fr w1 W v xs) (k : Below w.heap.size w w1) : Fr w W v xs :=
  ⟨Kd.R_lower h.1 k.size, Below_trans k h.2⟩
def text (s : ByteArray) : List Int := ub s.size ++ bytesOf s
set_option maxRecDepth 100000 in
theorem Text_calls (s : ByteArray) (w : World) (hs : s.size ≤ 140737488351232) :
    Calls Try.prog 26 #[.string s] w fun e w' => ∃ v, e = .returned v ∧ Fr w w' v (text s) := by
  have L1 := Uint_calls s.size w (by omega)
  have hl := ub_len10 s.size (by omega)
  go_enter Try.func26, Try.ntmps26
  go_wp2_with (first | (go_at_call 22; refine L1.mono ?_; rintro e w' ⟨v, rfl, HO⟩) | (at_builtin; refine appS rfl rfl rfl rfl HO ?_ ?_; (show _ ≤ _; omega); intro v1 w1 HO1; clear HO))
  go_ret
  exact ⟨_, rfl, HO1⟩
set_option maxRecDepth 100000 in
theorem refText_calls (s : ByteArray) (w : World) (hs : s.size ≤ 140737488351232) :
    Calls Try.prog 30 #[.string s] w fun e w' => ∃ v, e = .returned v ∧ Fr w w' v (text s) := by
  have L1 := refUint_calls s.size w (by omega)
  have hl := ub_len10 s.size (by omega)
  go_enter Try.func30, Try.ntmps30
  go_wp2_with (first | (go_at_call 23; refine L1.mono ?_; rintro e w' ⟨v, rfl, HO⟩) | (at_builtin; refine appS rfl rfl rfl rfl HO ?_ ?_; (show _ ≤ _; omega); intro v1 w1 HO1; clear HO))
  go_ret
  exact ⟨_, rfl, HO1⟩
theorem conv9 (A : Option Addr) (n c : Nat) (xs : List Int) (W : World) (h : Kd.C (Kd.int .u8) W A n xs) : (convert 22 9 (.slice A n c)).run Try.prog W = .ok (.string (strOfNums xs)) W :=
  Kd.C_string (P := Try.prog) Try.underlying22 Try.underlying5 Try.underlying9 h
theorem strOfNums_inj : ∀ (xs ys : List Int), bytesOK xs → bytesOK ys → (strOfNums xs).toList = (strOfNums ys).toList → xs = ys := by
  intro xs ys h0 h1 h
  rw [Lib.toList_data, Lib.toList_data, strOfNums_data, strOfNums_data] at h
  have key : ∀ l : List Int, bytesOK l → (l.map fun n => UInt8.ofNat n.toNat).map (fun b => (b.toNat : Int)) = l := by
    intro l hl
    rw [List.map_map]
    conv => rhs; rw [← List.map_id l]
    refine List.map_congr_left fun x hx => ?_
    have := hl x hx
    simp
    omega
  rw [← key xs h0, ← key ys h1, h]
set_option maxRecDepth 100000 in
theorem Equal_calls (A0 A1 : Option Addr) (c0 c1 : Nat) (xs ys : List Int) (w : World) (h0 : Kd.C (Kd.int .u8) w A0 xs.length xs) (h1 : Kd.C (Kd.int .u8) w A1 ys.length ys) (b0 : bytesOK xs) (b1 : bytesOK ys) :
    Calls Try.prog 21 #[.slice A0 xs.length c0, .slice A1 ys.length c1] w fun e w' => e = .returned (.bool (decide (xs = ys))) ∧ w = w' := by
  have e0 := conv9 A0 _ c0 xs w h0
  have e1 := conv9 A1 _ c1 ys w h1
  have he : ((strOfNums xs).toList == (strOfNums ys).toList) = decide (xs = ys) := by
    by_cases h : xs = ys
    · subst h; simp
    · simp only [h, decide_false, beq_eq_false_iff_ne]
      exact fun hh => h (strOfNums_inj _ _ b0 b1 hh)
  clear h0 h1 b0 b1
  have he := Aside0.mk he
  go_enter Try.func21, Try.ntmps21
  go_wp2
  go_ret
  refine ⟨?_, rfl⟩
  rw [← he.out]
  rfl
theorem ub_ok (n : Nat) : bytesOK (ub n) := by
  intro x hx
  induction n using Nat.strongRecOn with
  | _ n ih =>
    by_cases h : n < 128
    · rw [ub_low n h] at hx
      simp at hx; omega
    · rw [ub_high n h] at hx
      rcases List.mem_cons.1 hx with rfl | hx
      · omega
      · exact ih (n / 128) (by omega) hx
theorem bytesOf_ok (s : ByteArray) : bytesOK (bytesOf s) := by
  intro x hx
  obtain ⟨b, _, rfl⟩ := List.mem_map.1 hx
  have := b.toNat_lt
  omega
theorem bytesOK_append {xs ys : List Int} (h : bytesOK xs) (k : bytesOK ys) : bytesOK (xs ++ ys) := by
  intro x hx
  rcases List.mem_append.1 hx with h1 | h1
  · exact h x h1
  · exact k x h1
theorem text_ok (s : ByteArray) : bytesOK (text s) := bytesOK_append (ub_ok _) (bytesOf_ok s)
/-- the comparison of two that were made -/
theorem Equal_fr {w1 w2 W : World} {v1 v2 : Value} {xs ys : List Int} (h1 : Fr w1 W v1 xs) (h2 : Fr w2 W v2 ys) (b1 : bytesOK xs) (b2 : bytesOK ys) :
    Calls Try.prog 21 #[v1, v2] W fun e w' => e = .returned (.bool (decide (xs = ys))) ∧ W = w' := by
  obtain ⟨A0, c0, rfl, _, k0⟩ := h1.reads
  obtain ⟨A1, c1, rfl, _, k1⟩ := h2.reads
  exact Equal_calls A0 A1 c0 c1 xs ys W k0 k1 b1 b2
set_option maxRecDepth 100000 in
theorem WireNumbers_calls (u n : Int) (w : World) (u0 : 0 ≤ u) (u1 : u ≤ 18446744073709551615) (h0 : -9223372036854775808 ≤ n) (h1 : n ≤ 9223372036854775807) :
    Calls Try.prog 5 #[.int .u64 u, .int .i64 n] w fun e w' => e = .returned (.bool true) ∧ Below w.heap.size w w' := by
  obtain ⟨u, rfl⟩ := Int.eq_ofNat_of_zero_le u0
  have L1 := fun W => Uint_calls u W (by omega)
  have L2 := fun W => refUint_calls u W (by omega)
  have L3 := fun W => Int_calls n W h0 h1
  have L4 := fun W => refInt_calls n W h0 h1
  clear u0 u1 h0 h1
  go_enter Try.func5, Try.ntmps5
  go_wp2_with (first | (go_at_call 14; refine (live_calls _).mono ?_; rintro e w0 ⟨rfl, hw⟩) | (go_at_call 22; refine (L1 _).mono ?_; rintro e w1 ⟨v1, rfl, H1⟩) | (go_at_call 23; refine (L2 _).mono ?_; rintro e w2 ⟨v2, rfl, H2⟩) | (go_at_call 24; refine (L3 _).mono ?_; rintro e w3 ⟨v3, rfl, H3⟩) | (go_at_call 25; refine (L4 _).mono ?_; rintro e w4 ⟨v4, rfl, H4⟩) | (go_at_call 21; first | (refine (Equal_fr (H3.later H4.2) H4 (ub_ok _) (ub_ok _)).mono ?_; rintro e w' ⟨rfl, rfl⟩) | (refine (Equal_fr (H1.later H2.2) H2 (ub_ok _) (ub_ok _)).mono ?_; rintro e w' ⟨rfl, rfl⟩)))
  go_ret
  refine ⟨by simp, ?_⟩
  exact Below_trans (Below_trans (Below_trans (Below_trans hw H1.2) H2.2) H3.2) H4.2
end Go.Proofs.Ytoeefamnglbakaa
