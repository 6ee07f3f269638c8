import Derived.Test.YtoeefamnglbakaaJ
namespace Go.Proofs.Ytoeefamnglbakaa
open Go.RowKit Go.Proofs.YtoeefamnglbakaaW.PrintWords Go.Proofs.YtoeefamnglbakaaW.PrintLast Go.Proofs.YtoeefamnglbakaaW.PrintMore
set_option linter.unusedVariables false
set_option linter.unusedSimpArgs false
attribute [local go_sem] t3 ts
/-! ### back and there, in plain numbers -/
theorem ta_back : ∀ (l : List Int) (i : Nat) (acc v s : Int), bytesOK l → ta i acc l = some (v, s) → ∃ m : Nat, v = acc + m * 2 ^ (7 * i) ∧ ub m = l.take (s - i).toNat ∧ (0 < i → 0 < m)
  | [], _, _, _, _, _, h => by simp [ta] at h
  | c :: l, i, acc, v, s, hb, h => by
    have hc := hb c (by simp)
    rw [ta] at h
    split at h
    · cases h
    · split at h
      · cases h
      · split at h
        · split at h
          · cases h
          · rename_i h1 h2
            simp only [Option.some.injEq, Prod.mk.injEq] at h
            obtain ⟨rfl, rfl⟩ := h
            refine ⟨c.toNat, by rw [Int.toNat_of_nonneg hc.1], ?_, by omega⟩
            rw [ub_low _ (by omega), Int.toNat_of_nonneg hc.1]
            have : ((i : Int) + 1 - i).toNat = 1 := by omega
            rw [this]
            simp
        · rename_i h1
          obtain ⟨m, e1, e2, e3⟩ := ta_back l (i + 1) _ v s (fun x hx => hb x (List.mem_cons_of_mem _ hx)) h
          have hf := ta_fits l (i + 1) _ v s h
          have hm := e3 (by omega)
          refine ⟨(c - 128).toNat + 128 * m, ?_, ?_, by omega⟩
          · rw [e1, pow7_step]
            have : (((c - 128).toNat + 128 * m : Nat) : Int) = (c - 128) + (m : Int) * 128 := by omega
            rw [this, Int.add_mul, Int.add_assoc]
          · rw [ub_high _ (by omega)]
            have e4 : ((c - 128).toNat + 128 * m) / 128 = m := by omega
            have e5 : ((((c - 128).toNat + 128 * m) % 128 + 128 : Nat) : Int) = c := by omega
            rw [e4, e5, e2]
            have : (s - i).toNat = (s - ((i + 1 : Nat) : Int)).toNat + 1 := by simp at hf ⊢; omega
            rw [this, List.take_succ_cons]
theorem tu_back (l : List Int) (a : Int) (hb : bytesOK l) (h : (tu l a).2.2 = 0) : ub (tu l a).1.toNat = sub l a (a + (tu l a).2.1) := by
  have hf := tu_fits l a h
  unfold tu at *
  split at h
  · simp at h
  · rename_i hh
    rw [if_neg hh] at hf ⊢
    cases e : ta 0 0 (l.drop a.toNat) with
    | none => rw [e] at h; simp [tr] at h
    | some r =>
      obtain ⟨v, s⟩ := r
      rw [e] at hf
      simp only [tr] at hf ⊢
      obtain ⟨m, e1, e2, _⟩ := ta_back _ 0 0 v s (fun x hx => hb x (List.mem_of_mem_drop hx)) e
      have e3 : v = m := by
        rw [e1]
        simp
      rw [e3, Int.toNat_natCast, e2]
      unfold sub
      rw [List.take_drop]
      congr 2
      omega
theorem zu_zz (u : Int) (h0 : 0 ≤ u) : zu (zz u) = u.toNat := by
  unfold zu zz
  split <;> split <;> omega
theorem bytes_str (xs : List Int) (h : bytesOK xs) : bytesOf (strOfNums xs) = xs := by
  unfold bytesOf
  rw [strOfNums_data, List.map_map]
  conv => rhs; rw [← List.map_id xs]
  refine List.map_congr_left fun x hx => ?_
  have := h x hx
  simp
  omega
theorem sub_join (l : List Int) (a b c : Int) (h0 : 0 ≤ a) (h1 : a ≤ b) (h2 : b ≤ c) : sub l a b ++ sub l b c = sub l a c := by
  obtain ⟨a, rfl⟩ := Int.eq_ofNat_of_zero_le h0
  obtain ⟨b, rfl⟩ := Int.eq_ofNat_of_zero_le (show 0 ≤ b by omega)
  obtain ⟨c, rfl⟩ := Int.eq_ofNat_of_zero_le (show 0 ≤ c by omega)
  unfold sub
  simp only [Int.toNat_natCast]
  have e : l.take c = l.take b ++ (l.take c).drop b := by
    conv => lhs; rw [← List.take_append_drop b (l.take c)]
    rw [List.take_take, Nat.min_eq_left (by omega)]
  conv => rhs; rw [e]
  rw [List.drop_append]
  congr 1
  have : a - (l.take b).length = 0 ∨ l.length < a := by rw [List.length_take]; omega
  rcases this with h | h
  · rw [h, List.drop_zero]
  · rw [List.drop_eq_nil_of_le (by rw [List.length_take]; omega), List.drop_nil]
theorem sub_len (l : List Int) (a b : Int) (h0 : 0 ≤ a) (h1 : a ≤ b) (h2 : b ≤ l.length) : ((sub l a b).length : Int) = b - a := by
  unfold sub
  rw [List.length_drop, List.length_take]
  omega
theorem sub_ok {l : List Int} (h : bytesOK l) (a b : Int) : bytesOK (sub l a b) := fun x hx => h x (List.mem_of_mem_take (List.mem_of_mem_drop hx))
theorem tt_back (l : List Int) (a m : Int) (hb : bytesOK l) (h : (tt l a m).2.2 = 0) : text (tt l a m).1 = sub l a (a + (tt l a m).2.1) ∧ 0 ≤ (tt l a m).2.1 ∧ a + (tt l a m).2.1 ≤ l.length ∧ 0 ≤ a ∧ ((tt l a m).1.size : Int) ≤ l.length := by
  unfold tt at *
  split at h
  · simp at h
  · rename_i c1
    split at h
    · rename_i c2; simp at h; exact absurd h c2
    · rename_i c2
      split at h
      · simp at h
      · rename_i c3
        split at h
        · simp at h
        · rename_i c4
          rw [if_neg c1, if_neg c2, if_neg c3, if_neg c4]
          have hu : (tu l a).2.2 = 0 := by simpa using c2
          have hf := tu_fits l a hu
          have hk := tu_back l a hb hu
          obtain ⟨u1, u2, u3, u4, u5⟩ := tu_rng l a hb
          have hsl := sub_len l (a + (tu l a).2.1) (a + (tu l a).2.1 + (tu l a).1) (by omega) (by omega) (by omega)
          have hsz : ((strOfNums (sub l (a + (tu l a).2.1) (a + (tu l a).2.1 + (tu l a).1))).size : Int) = (tu l a).1 := by
            rw [strOfNums_size]; omega
          simp only
          refine ⟨?_, by omega, by omega, by omega, by omega⟩
          unfold text
          rw [bytes_str _ (sub_ok hb _ _)]
          have e : (strOfNums (sub l (a + (tu l a).2.1) (a + (tu l a).2.1 + (tu l a).1))).size = (tu l a).1.toNat := by omega
          rw [e, hk, sub_join l _ _ _ (by omega) (by omega) (by omega)]
          congr 1
          omega
theorem sub4 (l : List Int) (a : Int) (h0 : 0 ≤ a) (h1 : a + 4 ≤ l.length) : sub l a (a + 4) = [rd l a, rd l (a + 1), rd l (a + 2), rd l (a + 3)] := by
  obtain ⟨s, rfl⟩ := Int.eq_ofNat_of_zero_le h0
  have e : ((s : Int) + 4).toNat = s + 4 := by omega
  unfold sub
  rw [e, Int.toNat_natCast]
  apply List.ext_getElem?
  intro i
  rw [List.getElem?_drop, List.getElem?_take]
  have q : ∀ k : Nat, k < 4 → l[s + k]? = some (rd l ((s : Int) + k)) := by
    intro k hk
    unfold rd
    have : ((s : Int) + k).toNat = s + k := by omega
    rw [this, List.getD_eq_getElem?_getD, List.getElem?_eq_getElem (by omega)]
    rfl
  match i with
  | 0 => rw [if_pos (by omega), q 0 (by omega)]; simp
  | 1 => rw [if_pos (by omega), q 1 (by omega)]; simp
  | 2 => rw [if_pos (by omega), q 2 (by omega)]; simp
  | 3 => rw [if_pos (by omega), q 3 (by omega)]; simp
  | k + 4 => rw [if_neg (by omega)]; simp
theorem w4_un4 (l : List Int) (hb : bytesOK l) (a : Int) (h0 : 0 ≤ a) (h1 : a + 4 ≤ l.length) : w4 (un4 l a) = sub l a (a + 4) := by
  rw [sub4 l a h0 h1]
  have r0 := rd_ok hb a
  have r1 := rd_ok hb (a + 1)
  have r2 := rd_ok hb (a + 2)
  have r3 := rd_ok hb (a + 3)
  unfold w4 un4
  simp only [List.cons.injEq, and_true]
  omega
theorem tf_back (l : List Int) (a : Int) (hb : bytesOK l) (h : (tf l a).2.2 = 0) : (fr (tf l a).1) = (sub l a (a + (tf l a).2.1), 0) ∧ 0 ≤ (tf l a).2.1 ∧ a + (tf l a).2.1 ≤ l.length ∧ 0 ≤ a ∧ (tf l a).1.length ≤ 1048576 := by
  unfold tf at *
  split at h
  · simp at h
  · rename_i c1
    split at h
    · simp at h
    · rename_i c2
      split at h
      · simp at h
      · rename_i c3
        split at h
        · simp at h
        · rename_i c4
          rw [if_neg c1, if_neg c2, if_neg c3, if_neg c4]
          obtain ⟨q0, q1⟩ := un4_rng hb a
          have hsl := sub_len l (a + 8) (a + 8 + un4 l a) (by omega) (by omega) (by omega)
          have hq : crc (sub l (a + 8) (a + 8 + un4 l a)) = un4 l (a + 4) := by simpa using c4
          simp only
          refine ⟨?_, by omega, by omega, by omega, by omega⟩
          unfold fr
          rw [if_neg (by omega), hsl, hq]
          have e : a + 8 + un4 l a - (a + 8) = un4 l a := by omega
          rw [e, w4_un4 l hb a (by omega) (by omega), w4_un4 l hb (a + 4) (by omega) (by omega), show a + 4 + 4 = a + 8 by omega, sub_join l _ _ _ (by omega) (by omega) (by omega), sub_join l _ _ _ (by omega) (by omega) (by omega)]
          congr 2
          omega
end Go.Proofs.Ytoeefamnglbakaa
