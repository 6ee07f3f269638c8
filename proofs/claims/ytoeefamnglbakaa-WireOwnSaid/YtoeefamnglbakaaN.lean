import Derived.Test.YtoeefamnglbakaaM
namespace Go.Proofs.Ytoeefamnglbakaa
open Go.RowKit Go.Proofs.YtoeefamnglbakaaW.PrintWords Go.Proofs.YtoeefamnglbakaaW.PrintLast Go.Proofs.YtoeefamnglbakaaW.PrintMore
set_option linter.unusedVariables false
set_option linter.unusedSimpArgs false
theorem xor_inj (a b c : Int) (h0 : 0 ≤ a) (h1 : a < 4294967296) (h2 : 0 ≤ b) (h3 : b < 4294967296) (h4 : 0 ≤ c) (h5 : c < 4294967296) (h : bits .xor .u32 a b = bits .xor .u32 a c) : b = c := by
  rw [u32_xor a b h0 h1 h2 h3, u32_xor a c h0 h1 h4 h5] at h
  have h' : a.toNat ^^^ b.toNat = a.toNat ^^^ c.toNat := by omega
  have := congrArg (a.toNat ^^^ ·) h'
  simp only [← Nat.xor_assoc, Nat.xor_self, Nat.zero_xor] at this
  omega
theorem cs_top (s t : Int) (h0 : 0 ≤ s) (h1 : s < 2147483648) (h2 : 0 ≤ t) (h3 : t < 2147483648) : bits .xor .u32 s 2197175160 ≠ t := by
  rw [u32_xor s 2197175160 h0 (by omega) (by omega) (by omega)]
  intro h
  have h' : s.toNat ^^^ (2197175160 : Int).toNat = t.toNat := by omega
  have b1 : s.toNat.testBit 31 = false := Nat.testBit_lt_two_pow (by omega)
  have b2 : t.toNat.testBit 31 = false := Nat.testBit_lt_two_pow (by omega)
  have b3 := congrArg (Nat.testBit · 31) h'
  simp only [Nat.testBit_xor, b1, b2] at b3
  revert b3
  decide
theorem cs_inj (s t : Int) (h0 : 0 ≤ s) (h1 : s < 4294967296) (h2 : 0 ≤ t) (h3 : t < 4294967296) (h : cs s = cs t) : s = t := by
  unfold cs at h
  split at h <;> split at h
  · rw [bits_comm_xor .u32 (s / 2), bits_comm_xor .u32 (t / 2)] at h
    have := xor_inj _ _ _ (by omega) (by omega) (by omega) (by omega) (by omega) (by omega) h
    omega
  · exact absurd h (cs_top _ _ (by omega) (by omega) (by omega) (by omega))
  · exact absurd h.symm (cs_top _ _ (by omega) (by omega) (by omega) (by omega))
  · omega
theorem csn_inj (n : Nat) : ∀ (s t : Int), 0 ≤ s → s < 4294967296 → 0 ≤ t → t < 4294967296 → csn n s = csn n t → s = t := by
  induction n with
  | zero => intro s t _ _ _ _ h; exact h
  | succ n ih =>
    intro s t h0 h1 h2 h3 h
    have a := cs_rng s h0 h1
    have b := cs_rng t h2 h3
    exact cs_inj s t h0 h1 h2 h3 (ih _ _ a.1 a.2 b.1 b.2 h)
theorem csn_rng (n : Nat) : ∀ s : Int, 0 ≤ s → s < 4294967296 → 0 ≤ csn n s ∧ csn n s < 4294967296 := by
  induction n with
  | zero => intro s h0 h1; exact ⟨h0, h1⟩
  | succ n ih => intro s h0 h1; have := cs_rng s h0 h1; exact ih _ this.1 this.2
theorem crcF_inj (l : List Int) : ∀ (s t : Int), bytesOK l → 0 ≤ s → s < 4294967296 → 0 ≤ t → t < 4294967296 → crcF s l = crcF t l → s = t := by
  induction l with
  | nil => intro s t _ _ _ _ _ h; exact h
  | cons x l ih =>
    intro s t hb h0 h1 h2 h3 h
    have hx := hb x (List.mem_cons_self ..)
    have a := xor_rng s x h0 h1 hx.1 (by omega)
    have b := xor_rng t x h2 h3 hx.1 (by omega)
    have a' := csn_rng 8 _ a.1 a.2
    have b' := csn_rng 8 _ b.1 b.2
    have k := ih _ _ (fun y hy => hb y (List.mem_cons_of_mem _ hy)) a'.1 a'.2 b'.1 b'.2 h
    have k := csn_inj 8 _ _ a.1 a.2 b.1 b.2 k
    rw [bits_comm_xor .u32 s, bits_comm_xor .u32 t] at k
    exact xor_inj _ _ _ hx.1 (by omega) h0 h1 h2 h3 k
theorem crcF_set (l : List Int) : ∀ (s : Int) (j : Nat) (y : Int), bytesOK l → 0 ≤ s → s < 4294967296 → 0 ≤ y → y < 256 → j < l.length → y ≠ rd l j → crcF s (l.set j y) ≠ crcF s l := by
  induction l with
  | nil => intro s j y _ _ _ _ _ h; simp at h
  | cons x l ih =>
    intro s j y hb h0 h1 h2 h3 hj hy h
    have hx := hb x (List.mem_cons_self ..)
    have hb' : bytesOK l := fun y hy => hb y (List.mem_cons_of_mem _ hy)
    have a := xor_rng s x h0 h1 hx.1 (by omega)
    have a' := csn_rng 8 _ a.1 a.2
    cases j with
    | zero =>
      have b := xor_rng s y h0 h1 h2 (by omega)
      have b' := csn_rng 8 _ b.1 b.2
      have k := crcF_inj l _ _ hb' b'.1 b'.2 a'.1 a'.2 h
      have k := csn_inj 8 _ _ b.1 b.2 a.1 a.2 k
      exact hy (by simpa [rd] using xor_inj _ _ _ h0 h1 h2 (by omega) hx.1 (by omega) k)
    | succ j => exact ih _ j y hb' a'.1 a'.2 h2 h3 (by simpa using hj) (by simpa [rd] using hy) h
theorem crc_set (l : List Int) (j : Nat) (y : Int) (hb : bytesOK l) (h2 : 0 ≤ y) (h3 : y < 256) (hj : j < l.length) (hy : y ≠ rd l j) : crc (l.set j y) ≠ crc l := by
  intro h
  have hb' : bytesOK (l.set j y) := by
    intro x hx
    rcases List.mem_or_eq_of_mem_set hx with h | h
    · exact hb x h
    · subst h; exact ⟨h2, h3⟩
  unfold crc at h
  rw [bits_comm_xor .u32 _ 4294967295, bits_comm_xor .u32 _ 4294967295] at h
  have a := crcF_rng l hb 4294967295 (by omega) (by omega)
  have b := crcF_rng _ hb' 4294967295 (by omega) (by omega)
  exact crcF_set l _ j y hb (by omega) (by omega) h2 h3 hj hy (xor_inj _ _ _ (by omega) (by omega) b.1 b.2 a.1 a.2 h)
theorem rd_set (l : List Int) (j : Nat) (y : Int) (a : Int) (hj : j < l.length) : rd (l.set j y) a = if a.toNat = j then y else rd l a := by
  unfold rd
  simp only [List.getD_eq_getElem?_getD, List.getElem?_set]
  split
  · rename_i h; rw [if_pos h.symm]; subst h; simp [hj]
  · rename_i h; rw [if_neg (fun k => h k.symm)]
theorem set_ok {l : List Int} (hb : bytesOK l) (j : Nat) (y : Int) (h2 : 0 ≤ y) (h3 : y < 256) : bytesOK (l.set j y) := by
  intro x hx
  rcases List.mem_or_eq_of_mem_set hx with h | h
  · exact hb x h
  · subst h; exact ⟨h2, h3⟩
theorem flip_bad (b m : List Int) (hb : bytesOK b) (hm : bytesOK m) (hl : b.length ≤ 1048576) (j : Nat) (y : Int) (hj : j < b.length + 8) (h2 : 0 ≤ y) (h3 : y < 256) (hy : y ≠ rd ((fr b).1 ++ m) j) :
    (tf (((fr b).1 ++ m).set j y) 0).2.2 = 10 ∨ (tf (((fr b).1 ++ m).set j y) 0).2.1 ≠ (b.length : Int) + 8 := by
  have e : (fr b).1 = w4 b.length ++ w4 (crc b) ++ b := by unfold fr; rw [if_neg (by omega)]
  obtain ⟨q0, q1⟩ := crc_rng b hb
  have hfl : (fr b).1.length = b.length + 8 := by rw [e]; simp [w4]
  have hok : bytesOK ((fr b).1 ++ m) := bytesOK_append (fr_ok b hb) hm
  have u0 : un4 ((fr b).1 ++ m) 0 = b.length := by rw [e]; simp only [List.append_assoc]; exact un4_w4 _ (by omega) (by omega) _
  have u4 : un4 ((fr b).1 ++ m) 4 = crc b := by
    have := un4_w4 (crc b) q0 q1 (b ++ m)
    rw [← this, e]
    unfold un4 w4 rd
    simp
  have us : sub ((fr b).1 ++ m) (0 + 8) (0 + 8 + b.length) = b := by
    rw [e]
    unfold sub w4
    have : (0 + 8 + (b.length : Int)).toNat = b.length + 8 := by omega
    rw [this]
    simp
  have hL : j < ((fr b).1 ++ m).length := by rw [List.length_append]; omega
  generalize hg : (fr b).1 ++ m = l at *
  have hok' := set_ok hok j y h2 h3
  have hr := fun a => rd_set l j y a hL
  have hln : (l.set j y).length = l.length := List.length_set
  have hlg : b.length + 8 ≤ l.length := by rw [← hg, List.length_append]; omega
  unfold tf
  rw [if_neg (by omega), if_neg (by omega)]
  by_cases c1 : un4 (l.set j y) 0 > 1048576 ∨ un4 (l.set j y) 0 > (l.set j y).length - 0 - 8
  · rw [if_pos c1]; exact .inl rfl
  rw [if_neg c1]
  by_cases c2 : crc (sub (l.set j y) (0 + 8) (0 + 8 + un4 (l.set j y) 0)) ≠ un4 (l.set j y) (0 + 4)
  · rw [if_pos c2]; exact .inl rfl
  rw [if_neg c2]
  right
  simp only
  intro hh
  have n0 : un4 (l.set j y) 0 = b.length := by omega
  have b0 := rd_ok hok 0
  have b1 := rd_ok hok (0 + 1)
  have b2 := rd_ok hok (0 + 2)
  have b3 := rd_ok hok (0 + 3)
  by_cases j4 : j < 4
  · rw [← u0] at n0
    unfold un4 at n0
    rw [hr, hr, hr, hr] at n0
    have : j = 0 ∨ j = 1 ∨ j = 2 ∨ j = 3 := by omega
    rcases this with rfl | rfl | rfl | rfl
    all_goals simp at n0 hy b0 b1 b2 b3
    all_goals omega
  · have c2 : crc (sub (l.set j y) (0 + 8) (0 + 8 + un4 (l.set j y) 0)) = un4 (l.set j y) (0 + 4) := Decidable.of_not_not c2
    rw [n0] at c2
    by_cases j8 : j < 8
    · have ss : sub (l.set j y) (0 + 8) (0 + 8 + b.length) = b := by
        refine Eq.trans ?_ us
        unfold sub
        rw [List.take_set, List.drop_set_of_lt (by omega)]
      rw [ss, ← u4] at c2
      unfold un4 at c2
      rw [hr, hr, hr, hr] at c2
      have b4 := rd_ok hok 4
      have b5 := rd_ok hok 5
      have b6 := rd_ok hok 6
      have b7 := rd_ok hok 7
      have : j = 4 ∨ j = 5 ∨ j = 6 ∨ j = 7 := by omega
      rcases this with rfl | rfl | rfl | rfl
      all_goals simp at c2 hy b4 b5 b6 b7
      all_goals omega
    · have v4 : un4 (l.set j y) (0 + 4) = crc b := by
        rw [← u4]
        unfold un4
        rw [hr, hr, hr, hr]
        have g1 : ¬ (4 : Int).toNat = j := by omega
        have g2 : ¬ (4 + 1 : Int).toNat = j := by omega
        have g3 : ¬ (4 + 2 : Int).toNat = j := by omega
        have g4 : ¬ (4 + 3 : Int).toNat = j := by omega
        simp only [Int.zero_add]
        rw [if_neg g1, if_neg g2, if_neg g3, if_neg g4]
      have ss : sub (l.set j y) (0 + 8) (0 + 8 + b.length) = b.set (j - 8) y := by
        have : b.set (j - 8) y = (sub l (0 + 8) (0 + 8 + b.length)).set (j - 8) y := by rw [us]
        rw [this]
        unfold sub
        rw [List.take_set, List.drop_set, if_neg (by omega)]
        congr 1
      rw [ss, v4] at c2
      refine crc_set b (j - 8) y hb h2 h3 (by omega) ?_ c2
      intro k
      apply hy
      rw [k, ← us]
      unfold rd sub
      have : ((0 + 8 : Int)).toNat = 8 := by decide
      simp only [List.getD_eq_getElem?_getD, List.getElem?_drop, List.getElem?_take, this]
      rw [if_pos (by omega)]
      congr 2
      omega

attribute [local go_sem] t3 ts
theorem flip_byte (a r : Int) (h0 : 0 ≤ a) (h1 : a < 256) (r0 : 0 ≤ r) (r1 : r < 8) : 0 ≤ bits BinOp.xor IntKind.u8 a (2 ^ r.toNat % 256) ∧ bits BinOp.xor IntKind.u8 a (2 ^ r.toNat % 256) < 256 ∧ bits BinOp.xor IntKind.u8 a (2 ^ r.toNat % 256) ≠ a := by
  have hb : ∃ b : Int, (2 : Int) ^ r.toNat % 256 = b ∧ 0 < b ∧ b < 256 := by
    have : r.toNat < 8 := by omega
    generalize r.toNat = n at *
    have : n = 0 ∨ n = 1 ∨ n = 2 ∨ n = 3 ∨ n = 4 ∨ n = 5 ∨ n = 6 ∨ n = 7 := by omega
    rcases this with rfl | rfl | rfl | rfl | rfl | rfl | rfl | rfl <;> exact ⟨_, rfl, by decide, by decide⟩
  obtain ⟨b, e, b0, b1⟩ := hb
  rw [e, u8_xor a b h0 h1 (by omega) b1]
  have : a.toNat ^^^ b.toNat < 2 ^ 8 := Nat.xor_lt_two_pow (by omega) (by omega)
  refine ⟨by omega, by omega, fun h => ?_⟩
  have h' : a.toNat ^^^ b.toNat = a.toNat := by omega
  have := congrArg (a.toNat ^^^ ·) h'
  simp only [← Nat.xor_assoc, Nat.xor_self, Nat.zero_xor] at this
  omega
theorem Fr.own {w W : World} {v : Value} {xs : List Int} (h : Fr w W v xs) (hn : 0 < xs.length) : ∃ g c, v = .slice (some ⟨g, 0, none⟩) xs.length c ∧ w.heap.size ≤ g ∧ xs.length ≤ 9223372036854775807 := by
  have := Kd.own_of_R (h1 := fun _ => rfl) (enc := Value.int .u8) h.1
  rcases this.2 with ⟨_, h0⟩ | ⟨g, c, cur, rfl, hg, _, h1, h2, _⟩
  · omega
  · exact ⟨g, c, rfl, hg, Nat.le_trans h1 h2⟩
theorem Fr.cell {w W : World} {g c : Nat} {xs : List Int} (h : Fr w W (.slice (some ⟨g, 0, none⟩) xs.length c) xs) (i : Int) (h0 : 0 ≤ i) (hi : i < xs.length) :
    W.cell? ⟨g, i.toNat, none⟩ = some (.int .u8 (rd xs i)) ∧ W.frozen? ⟨g, i.toNat, none⟩ = false :=
  Kd.R_cell (h1 := fun _ => rfl) (enc := Value.int .u8) (d := (0 : Int)) h.1 i h0 hi
theorem Fr.set {w W : World} {g c : Nat} {xs : List Int} (h : Fr w W (.slice (some ⟨g, 0, none⟩) xs.length c) xs) (hg : w.heap.size ≤ g) (i y : Int) :
    Fr w (W.setCell ⟨g, i.toNat, none⟩ (.int .u8 y)) (.slice (some ⟨g, 0, none⟩) (xs.set i.toNat y).length c) (xs.set i.toNat y) := by
  have p := Kd.R_put (h1 := fun _ => rfl) (enc := Value.int .u8) h.1 i y
  rw [List.length_set]
  refine ⟨p.1, pw_below_grown h.2 _ h.2.size p.2 ?_⟩
  intro q hq
  injection hq with hq
  subst hq
  exact hg
set_option maxHeartbeats 4000000 in
set_option maxRecDepth 100000 in
theorem WireBit_calls (A : Option Addr) (c : Nat) (l : List Int) (A1 : Option Addr) (c1 : Nat) (m : List Int) (bit : Int) (w : World) (hr : Kd.C (Kd.int .u8) w A l.length l) (hr1 : Kd.C (Kd.int .u8) w A1 m.length m) (hb : bytesOK l) (hbm : bytesOK m) (hmx : l.length ≤ 1048576000) (hmx1 : m.length ≤ 1048576000) (h0 : 0 ≤ bit) (h1 : bit < 18446744073709551616) :
    Calls Try.prog 9 #[.slice A l.length c, .slice A1 m.length c1, .int .u64 bit] w fun e w' => e = .returned (.bool true) ∧ Below w.heap.size w w' := by
  have hb := Aside0.mk hb
  have hbm := Aside0.mk hbm
  by_cases hl : 1048576 < (l.length : Int)
  · have e : fr l = ([], 3) := by unfold fr; rw [if_pos hl]
    go_enter Try.func9, Try.ntmps9
    go_wp2_with fail
    refine (Frame_calls A c l w hr hb.out (by omega)).mono ?_
    rintro e w1 ⟨v, rfl, H⟩
    rw [e] at H ⊢
    have B1 := H.2
    go_wp2_with (first | (go_at_call 14; with_reducible refine (live_calls _).mono ?_; rintro e w6 ⟨rfl, B6⟩))
    go_ret
    exact ⟨rfl, Below_trans (Below_trans B1 ‹_›) ‹_›⟩
  · have hl' : l.length ≤ 1048576 := by omega
    have e : fr l = ((fr l).1, 0) := by unfold fr; rw [if_neg hl]
    have hfl : (fr l).1.length = l.length + 8 := by unfold fr; rw [if_neg hl]; simp [w4]; try omega
    have FB := fun j y => flip_bad l m hb.out hbm.out hl' j y
    have hok : bytesOK ((fr l).1 ++ m) := bytesOK_append (fr_ok l hb.out) hbm.out
    go_enter Try.func9, Try.ntmps9
    go_wp2_with fail
    refine (Frame_calls A c l w hr hb.out (by omega)).mono ?_
    rintro e' w1 ⟨v, rfl, H⟩
    rw [e] at H ⊢
    simp only at H ⊢
    generalize (fr l).1 = f at *
    have hf8 : 8 ≤ f.length := by omega
    have hf9 : f.length ≤ 1048584 := by omega
    replace hfl := Aside0.mk hfl
    obtain ⟨A0, c0, rfl, hc0, k0⟩ := H.reads
    have B1 := H.2
    obtain ⟨q, r, hq, hr', hq0, hq1, hr0, hr1'⟩ : ∃ q r : Int, (bit % (8 * (f.length : Int))).tdiv 8 = q ∧ (bit % (8 * (f.length : Int))).tmod 8 = r ∧ 0 ≤ q ∧ q < f.length ∧ 0 ≤ r ∧ r < 8 := by
      have z0 := Int.emod_nonneg bit (b := 8 * (f.length : Int)) (by omega)
      have z1 := Int.emod_lt_of_pos bit (b := 8 * (f.length : Int)) (by omega)
      refine ⟨_, _, rfl, rfl, ?_⟩
      rw [Int.tdiv_eq_ediv_of_nonneg z0, Int.tmod_eq_emod_of_nonneg z0]
      omega
    have hqw : IntKind.u64.wrap q = q := by rw [IntKind.wrap_u64]; omega
    have hq2 : q.toNat < f.length + m.length := by omega
    have hq3 : q < f.length + m.length := by omega
    go_wp2_with (first | (go_at_call 14; with_reducible refine (live_calls _).mono ?_; rintro e w6 ⟨rfl, B6⟩) | (at_builtin; refine appR rfl rfl rfl rfl (H.later B6) (Kd.C_below hr1 (Below_trans B1 B6)) (by omega) ?_; intro v7 w7 H7 _; obtain ⟨g, c7, rfl, hg, hmx7⟩ := H7.own (by rw [List.length_append]; omega); obtain ⟨hcell, hfz⟩ := H7.cell q hq0 (by rw [List.length_append]; omega)))
    have hrd := rd_ok hok q
    obtain ⟨y, hy⟩ : ∃ y, y = bits BinOp.xor IntKind.u8 (rd (f ++ m) q) (2 ^ r.toNat % 256) := ⟨_, rfl⟩
    obtain ⟨hy0, hy1, hy2⟩ := flip_byte (rd (f ++ m) q) r hrd.1 hrd.2 hr0 hr1'
    rw [← hy] at hy0 hy1 hy2 ⊢
    clear hy
    have H8 := H7.set hg q y
    have hlen : f.length + m.length = ((f ++ m).set q.toNat y).length := by rw [List.length_set, List.length_append]
    rw [hlen]
    obtain ⟨A9, c9, hv9, hc9, k9⟩ := H8.reads
    injection hv9 with hv9 _ hv10
    subst hv9 hv10
    refine (TakeFrame_calls _ c7 _ 0 _ k9 hc9 (set_ok hok _ y hy0 hy1) (by rw [← hlen]; omega)).mono ?_
    rintro e9 w9 ⟨v9, rfl, H9⟩
    have B9 := Below_trans H8.2 H9.2
    have F := FB q.toNat y (by have := hfl.out; omega) hy0 hy1 (by rw [Int.toNat_of_nonneg hq0]; exact hy2)
    have F2 : (tf ((f ++ m).set q.toNat y) 0).2.2 = 10 ∨ (tf ((f ++ m).set q.toNat y) 0).2.1 ≠ (f.length : Int) := by rw [hfl.out]; exact F
    clear F
    generalize tf ((f ++ m).set q.toNat y) 0 = r9 at *
    obtain ⟨z9, n9, e9⟩ := r9
    simp only at F2 ⊢
    by_cases h10 : e9 = 10
    · subst h10
      go_wp2
      go_ret
      exact ⟨rfl, B9⟩
    · have E : (e9 == 10) = false := by simp [h10]
      have E2 : (n9 != (f.length : Int)) = true := by simp; exact F2.resolve_left h10
      go_wp2
      go_ret
      exact ⟨rfl, B9⟩
end Go.Proofs.Ytoeefamnglbakaa
