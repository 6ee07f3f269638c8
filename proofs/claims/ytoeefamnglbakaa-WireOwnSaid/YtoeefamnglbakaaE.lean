import Derived.Test.YtoeefamnglbakaaD
import Derived.Deep.RegionHeld3
import Derived.Test.YtoeefamnglbakaaO
namespace Go.Proofs.Ytoeefamnglbakaa
open Go.RowKit Go.Proofs.YtoeefamnglbakaaW.PrintWords Go.Proofs.YtoeefamnglbakaaW.PrintLast Go.Proofs.YtoeefamnglbakaaW.PrintMore
set_option linter.unusedVariables false
set_option linter.unusedSimpArgs false
attribute [local go_sem] t3
theorem cell_below {w W : World} (h : Below w.heap.size w W) {p : Addr} {v : Value} (hc : w.cell? p = some v) : W.cell? p = some v := (h.cell (World.block_lt_of_cell? w p hc)).trans hc
theorem Uint_any (x : Int) (w : World) (h0 : 0 ≤ x) (h1 : x < 18446744073709551616) :
    Calls Try.prog 22 #[.int .u64 x] w fun e w' => ∃ v, e = .returned v ∧ Fr w w' v (ub x.toNat) := by
  obtain ⟨n, rfl⟩ := Int.eq_ofNat_of_zero_le h0
  exact Uint_calls n w (by omega)
/-! ### no number and no text begins another one -/
theorem ub_prefix : ∀ (n m : Nat) (l : List Int), ub n <+: ub m ++ l → n = m := by
  intro n
  induction n using Nat.strongRecOn with
  | _ n ih =>
    intro m l h
    by_cases hn : n < 128
    · rw [ub_low n hn] at h
      by_cases hm : m < 128
      · rw [ub_low m hm] at h
        simp [List.cons_prefix_cons] at h
        omega
      · rw [ub_high m hm] at h
        simp only [List.cons_append, List.cons_prefix_cons] at h
        omega
    · rw [ub_high n hn] at h
      by_cases hm : m < 128
      · rw [ub_low m hm] at h
        simp only [List.cons_append, List.cons_prefix_cons] at h
        omega
      · rw [ub_high m hm] at h
        simp only [List.cons_append, List.cons_prefix_cons] at h
        have := ih (n / 128) (by omega) (m / 128) l h.2
        omega
theorem bytesOf_inj (s t : ByteArray) (h : bytesOf s = bytesOf t) : s = t := by
  have key : ∀ s : ByteArray, strOfNums (bytesOf s) = s := by
    intro s
    have : (strOfNums (bytesOf s)).data.toList = s.data.toList := by
      rw [strOfNums_data, bytesOf, List.map_map]
      conv => rhs; rw [← List.map_id s.data.toList]
      refine List.map_congr_left fun b _ => ?_
      simp
    cases hs : strOfNums (bytesOf s)
    cases s
    rw [hs] at this
    simp at this
    rw [this]
  rw [← key s, ← key t, h]
theorem text_prefix (s t : ByteArray) (h : text s <+: text t) : s = t := by
  have h1 : ub s.size <+: ub t.size ++ bytesOf t := (List.prefix_append _ _).trans h
  have h2 := ub_prefix _ _ _ h1
  unfold text at h
  rw [h2, List.prefix_append_right_inj] at h
  exact bytesOf_inj s t (h.eq_of_length (by rw [bytesOf_length, bytesOf_length, h2]))
set_option maxRecDepth 100000 in
theorem HasPrefix_calls (A0 A1 : Option Addr) (c0 c1 : Nat) (xs ys : List Int) (w : World) (h0 : Kd.C (Kd.int .u8) w A0 xs.length xs) (hc : xs.length ≤ c0) (h1 : Kd.C (Kd.int .u8) w A1 ys.length ys) (b0 : bytesOK xs) (b1 : bytesOK ys) :
    Calls Try.prog 27 #[.slice A0 xs.length c0, .slice A1 ys.length c1] w fun e w' => e = .returned (.bool (decide (ys <+: xs))) ∧ w = w' := by
  obtain ⟨i0, hi0, _, hsz, _⟩ := info_parts info5
  by_cases hl : ys.length ≤ xs.length
  · obtain ⟨hcut, hC, hk⟩ := print_take_of (P := Try.prog) (Value.int .u8) (0 : Int) 22 5 .i64 Try.underlying22 hi0 hsz A0 c0 xs (ys.length : Int) (by omega) (by omega) hc
    have hC := Kd.C_of_reads (h1 := fun _ => rfl) (hC w (Kd.reads_of_C h0))
    rw [Int.toNat_natCast] at hC hcut
    have L := Equal_calls A0 A1 c0 c1 (xs.take ys.length) ys w hC h1 (fun x hx => b0 x (List.mem_of_mem_take hx)) b1
    have e : decide (xs.take ys.length = ys) = decide (ys <+: xs) := by
      rw [decide_eq_decide, List.prefix_iff_eq_take]
      exact eq_comm
    rw [e] at L
    have hlt : (xs.take ys.length).length = ys.length := by rw [List.length_take]; omega
    rw [hlt] at L hcut
    clear h0 h1 b0 b1 hC hk e hlt
    have hl' : (ys.length : Int) ≤ (xs.length : Int) := by omega
    go_enter Try.func27, Try.ntmps27
    go_wp2_with (go_at_call 21; refine L.mono ?_; rintro e w' ⟨rfl, rfl⟩)
    go_ret
    exact ⟨rfl, rfl⟩
  · have e : decide (ys <+: xs) = false := by
      rw [decide_eq_false_iff_not]
      intro h
      exact hl h.length_le
    rw [e]
    have hl' : (xs.length : Int) < (ys.length : Int) := by omega
    go_enter Try.func27, Try.ntmps27
    go_wp2
    go_ret
    exact ⟨rfl, rfl⟩
theorem HasPrefix_fr {w1 w2 W : World} {v1 v2 : Value} {xs ys : List Int} (h1 : Fr w1 W v1 xs) (h2 : Fr w2 W v2 ys) (b1 : bytesOK xs) (b2 : bytesOK ys) :
    Calls Try.prog 27 #[v1, v2] W fun e w' => e = .returned (.bool (decide (ys <+: xs))) ∧ W = w' := by
  obtain ⟨A0, c0, rfl, hc, k0⟩ := h1.reads
  obtain ⟨A1, c1, rfl, _, k1⟩ := h2.reads
  exact HasPrefix_calls A0 A1 c0 c1 xs ys W k0 hc k1 b1 b2
theorem Below_ud {w W : World} (h : Below w.drew.heap.size w.drew W) : Below w.heap.size w W := ⟨h.os, h.tape, h.output, h.size, h.block⟩
theorem Fr_ud {w W : World} {v : Value} {xs : List Int} (h : Fr w.drew W v xs) : Fr w W v xs := ⟨h.1, Below_ud h.2⟩
theorem str_beq (s t : ByteArray) : (s.toList == t.toList) = decide (s = t) := by
  by_cases h : s = t
  · subst h; simp
  · simp only [h, decide_false, beq_eq_false_iff_ne]
    intro k
    rw [Lib.toList_data, Lib.toList_data] at k
    cases s; cases t
    simp at k
    exact h (by rw [k])
set_option maxRecDepth 100000 in
theorem WireHeads_go (u1 u2 : Nat) (n1 n2 : Value) (s1 s2 : ByteArray) (b1 c1 b2 c2 : Value) (w : World) (hu1 : u1 < 18446744073709551616) (hu2 : u2 < 18446744073709551616) (hs1 : s1.size ≤ 140737488351232) (hs2 : s2.size ≤ 140737488351232) :
    Calls Try.prog 6 #[.agg #[.int .u64 (u1 : Int), n1, .string s1, b1, c1], .agg #[.int .u64 (u2 : Int), n2, .string s2, b2, c2]] w fun e w' => e = .returned (.bool true) ∧ Below w.heap.size w w' := by
  go_enter Try.func6, Try.ntmps6
  go_wp2_with fail
  obtain ⟨W, hW⟩ : ∃ W, W = ((w.alloc (.cells #[.int .u64 (u1 : Int), n1, .string s1, b1, c1] 39)).alloc (.cells #[.int .u64 (u2 : Int), n2, .string s2, b2, c2] 39)) := ⟨_, rfl⟩
  have c10 : W.cell? ⟨w.heap.size, 0, none⟩ = some (.int .u64 (u1 : Int)) := by rw [hW]; simp [go_sem]
  have c12 : W.cell? ⟨w.heap.size, 2, none⟩ = some (.string s1) := by rw [hW]; simp [go_sem]
  have c20 : W.cell? ⟨w.heap.size + 1, 0, none⟩ = some (.int .u64 (u2 : Int)) := by rw [hW]; simp [go_sem]
  have c22 : W.cell? ⟨w.heap.size + 1, 2, none⟩ = some (.string s2) := by rw [hW]; simp [go_sem]
  have hB : Below w.heap.size w W := by rw [hW]; exact ((Below.refl _ w).alloc (Nat.le_refl _) _).alloc (by simp) _
  rw [← hW]
  clear hW
  have k1 : W.drew.cell? ⟨w.heap.size, 0, none⟩ = _ := c10
  have k2 : W.drew.cell? ⟨w.heap.size + 1, 0, none⟩ = _ := c20
  go_region_held3 (fun w' => w'.cell? ⟨w.heap.size, 0, none⟩ = some (.int .u64 (u1 : Int)) ∧ w'.cell? ⟨w.heap.size + 1, 0, none⟩ = some (.int .u64 (u2 : Int)))
    (first | exact ⟨k1, k2⟩)
    (first | ((with_reducible refine (Uint_calls u1 _ hu1).mono ?_); rintro e W1 ⟨v1, rfl, H1⟩; have k1 := cell_below H1.2 k1; have k2 := cell_below H1.2 k2) | ((with_reducible refine (Uint_calls u2 _ hu2).mono ?_); rintro e W2 ⟨v2, rfl, H2⟩; have k1 := cell_below H2.2 k1; have k2 := cell_below H2.2 k2))
  have q1 : W2.drew.cell? ⟨w.heap.size, 2, none⟩ = _ := cell_below (w := W1) H2.2 (cell_below (w := W.drew) H1.2 c12)
  have q2 : W2.drew.cell? ⟨w.heap.size + 1, 2, none⟩ = _ := cell_below (w := W1) H2.2 (cell_below (w := W.drew) H1.2 c22)
  go_wp2_with fail
  go_region_held3 (fun w' => w'.cell? ⟨w.heap.size, 2, none⟩ = some (.string s1) ∧ w'.cell? ⟨w.heap.size + 1, 2, none⟩ = some (.string s2))
    (first | exact ⟨q1, q2⟩)
    (first | ((with_reducible refine (Text_calls s1 _ hs1).mono ?_); rintro e W3 ⟨v3, rfl, H3⟩; have q1 := cell_below H3.2 q1; have q2 := cell_below H3.2 q2) | ((with_reducible refine (Text_calls s2 _ hs2).mono ?_); rintro e W4 ⟨v4, rfl, H4⟩; have q1 := cell_below H4.2 q1; have q2 := cell_below H4.2 q2))
  have H1 := Fr_ud H1
  have H3 := Fr_ud H3
  have k1 : W4.cell? ⟨w.heap.size, 0, none⟩ = some (.int .u64 (u1 : Int)) := cell_below H4.2 (cell_below H3.2 (cell_below H2.2 (cell_below H1.2 c10)))
  have k2 : W4.cell? ⟨w.heap.size + 1, 0, none⟩ = some (.int .u64 (u2 : Int)) := cell_below H4.2 (cell_below H3.2 (cell_below H2.2 (cell_below H1.2 c20)))
  have hB1 := Below_trans hB H1.2
  have hB2 := Below_trans hB1 H2.2
  have hB3 := Below_trans hB2 H3.2
  have hB4 := Below_trans hB3 H4.2
  have E1 : u1 ≠ u2 → ¬ (ub u2 <+: ub u1) := fun h k => h (ub_prefix u2 u1 [] (by simpa using k)).symm
  have E2 : s1 ≠ s2 → ¬ (text s2 <+: text s1) := fun h k => h (text_prefix s2 s1 k).symm
  have h34 := Below_trans H3.2 H4.2
  have H1 := (H1.later (Below_trans H2.2 h34)).of_later hB
  have H2 := (H2.later h34).of_later hB1
  have H3 := (H3.later H4.2).of_later hB2
  have H4 := H4.of_later hB3
  clear c10 c12 c20 c22 hB hB1 hB2 hB3 h34
  have es := str_beq s1 s2
  have L0 := live_calls W4
  have go5 : ∀ W5, Below W4.heap.size W4 W5 → W5.cell? ⟨w.heap.size, 0, none⟩ = some (.int .u64 (u1 : Int)) ∧ W5.cell? ⟨w.heap.size + 1, 0, none⟩ = some (.int .u64 (u2 : Int)) ∧ W5.cell? ⟨w.heap.size, 2, none⟩ = some (.string s1) ∧ W5.cell? ⟨w.heap.size + 1, 2, none⟩ = some (.string s2) ∧ Below w.heap.size w W5
      ∧ (Calls Try.prog 27 #[v1, v2] W5 fun e w' => e = .returned (.bool (decide (ub u2 <+: ub u1))) ∧ W5 = w') ∧ (Calls Try.prog 27 #[v3, v4] W5 fun e w' => e = .returned (.bool (decide (text s2 <+: text s1))) ∧ W5 = w') := fun W5 h =>
    ⟨cell_below h k1, cell_below h k2, cell_below h q1, cell_below h q2, Below_trans hB4 h, HasPrefix_fr (H1.later h) (H2.later h) (ub_ok _) (ub_ok _), HasPrefix_fr (H3.later h) (H4.later h) (text_ok _) (text_ok _)⟩
  clear q1 q2 k1 k2 hB4 H1 H2 H3 H4
  have eu : ((u1 : Int) == (u2 : Int)) = decide (u1 = u2) := by
    by_cases h : u1 = u2
    · subst h; simp
    · simp [h]; omega
  have d1 : u1 ≠ u2 → decide (ub u2 <+: ub u1) = false := fun h => by simpa using E1 h
  have d2 : s1 ≠ s2 → decide (text s2 <+: text s1) = false := fun h => by simpa using E2 h
  clear E1 E2
  generalize decide (ub u2 <+: ub u1) = p1 at *
  generalize decide (text s2 <+: text s1) = p2 at *
  have d1 := Aside0.mk d1
  have d2 := Aside0.mk d2
  go_wp2_with (first | (go_at_call 14; refine L0.mono ?_; rintro e W5 ⟨rfl, h5⟩; obtain ⟨k1, k2, q1, q2, hB5, LA, LB⟩ := go5 W5 h5; clear go5) | (go_at_call 27; (first | (with_reducible refine LA.mono ?_) | (with_reducible refine LB.mono ?_)); rintro e w' ⟨rfl, rfl⟩))
  all_goals
    go_ret
    refine ⟨?_, hB5⟩
    first
      | rfl
      | (have := d1.out (by assumption); have := d2.out (by assumption); subst_vars; rfl)
      | (have := d1.out (by assumption); subst_vars; rfl)
      | (have := d2.out (by assumption); subst_vars; rfl)
theorem WireHeads_calls (x y : Th) (w : World) (hx : x.OK w) (hy : y.OK w) :
    Calls Try.prog 6 #[.agg x.cells, .agg y.cells] w fun e w' => e = .returned (.bool true) ∧ Below w.heap.size w w' := by
  obtain ⟨U, N, S, A3, c3, l3, A4, c4, l4⟩ := x
  obtain ⟨U', N', S', A3', c3', l3', A4', c4', l4'⟩ := y
  have a0 := hx.u0
  have a1 := hx.u1
  have b0 := hy.u0
  have b1 := hy.u1
  have s0 := hx.s
  have s1 := hy.s
  simp only at *
  obtain ⟨u, rfl⟩ := Int.eq_ofNat_of_zero_le a0
  obtain ⟨u', rfl⟩ := Int.eq_ofNat_of_zero_le b0
  exact WireHeads_go u u' _ _ S S' _ _ _ _ w (by omega) (by omega) s0 s1
end Go.Proofs.Ytoeefamnglbakaa
