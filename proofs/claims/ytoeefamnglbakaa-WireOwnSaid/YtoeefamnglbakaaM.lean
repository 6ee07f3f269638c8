import Derived.Test.YtoeefamnglbakaaK
import Derived.Deep.DeepCutAuto
namespace Go.Proofs.Ytoeefamnglbakaa
open Go.RowKit Go.Proofs.YtoeefamnglbakaaW.PrintWords Go.Proofs.YtoeefamnglbakaaW.PrintLast Go.Proofs.YtoeefamnglbakaaW.PrintMore
set_option linter.unusedVariables false
set_option linter.unusedSimpArgs false
attribute [local go_sem] t3 ts
theorem cutA (A : Option Addr) (c : Nat) (l : List Int) (a b : Int) (h0 : 0 ≤ a) (h1 : a ≤ b) (h2 : b ≤ l.length) (hc : l.length ≤ c) (w : World) (hr : Kd.C (Kd.int .u8) w A l.length l) :
    ∃ A', (∀ W, (Instr.slice 22 (.slice A l.length c) (some (.int .i64 a)) (some (.int .i64 b)) none).run Try.prog W = .ok (.slice A' (sub l a b).length (c - a.toNat)) W) ∧ Kd.C (Kd.int .u8) w A' (sub l a b).length (sub l a b) := by
  obtain ⟨i0, hi0, _, hsz, _⟩ := info_parts info5
  obtain ⟨A', hcut, hA, _⟩ := print_mid_of (P := Try.prog) (Value.int .u8) (0 : Int) 22 5 .i64 .i64 Try.underlying22 hi0 hsz A c l a b h0 h1 h2 hc
  exact ⟨A', hcut, Kd.C_of_reads (h1 := fun _ => rfl) (hA w (Kd.reads_of_C hr))⟩
theorem Equal_mix {w w0 W : World} {v : Value} {xs : List Int} (h : Fr w0 W v xs) (b : bytesOK xs) (A : Option Addr) (c : Nat) (hr : Kd.C (Kd.int .u8) w A xs.length xs) (hB : Below w.heap.size w W) :
    Calls Try.prog 21 #[v, .slice A xs.length c] W fun e w' => e = .returned (.bool true) ∧ W = w' := by
  obtain ⟨A0, c0, rfl, _, k0⟩ := h.reads
  have := Equal_calls A0 A c0 c xs xs W k0 (Kd.C_below hr hB) b b
  simpa using this
theorem Fr.bel {w W : World} {v : Value} {xs : List Int} (h : Fr w W v xs) : Below w.heap.size w W := h.2
theorem Below_d {w W : World} (h : Below w.heap.size w W) : Below w.heap.size w W.drew := ⟨h.os, h.tape, h.output, h.size, h.block⟩
theorem Below_dn {w W : World} {n : Nat} (h : Below w.heap.size w W) : Below w.heap.size w (W.drewN n) := ⟨h.os, h.tape, h.output, h.size, h.block⟩
set_option maxHeartbeats 4000000 in
set_option maxRecDepth 100000 in
theorem WireOnce_calls (A : Option Addr) (c : Nat) (l : List Int) (a : Int) (w : World) (hr : Kd.C (Kd.int .u8) w A l.length l) (hc : l.length ≤ c) (hb : bytesOK l) (hmx : l.length ≤ 140737488351232) :
    Calls Try.prog 13 #[.slice A l.length c, .int .i64 a] w fun e w' => e = .returned (.bool true) ∧ Below w.heap.size w w' := by
  replace hr := Aside0.mk hr
  replace hb := Aside0.mk hb
  have hB := Below.refl w.heap.size w
  have L1 := fun W (h : Below w.heap.size w W) => TakeUint_calls A c l a W (Kd.C_below hr.out h) hc hb.out
  have L2 := fun W (h : Below w.heap.size w W) => TakeInt_calls A c l a W (Kd.C_below hr.out h) hc hb.out
  have L3 := fun W (h : Below w.heap.size w W) => TakeText_calls A c l a l.length W (Kd.C_below hr.out h) hc hb.out (by omega) hmx
  have L4 := fun W (h : Below w.heap.size w W) => TakeFrame_calls A c l a W (Kd.C_below hr.out h) hc hb.out hmx
  have T1 := tu_back l a hb.out
  have T1' := tu_fits l a
  have T3 := tt_back l a l.length hb.out
  have T4 := tf_back l a hb.out
  have T4' := tf_ok l a hb.out
  obtain ⟨u1, u2, u3, u4, _⟩ := tu_rng l a hb.out
  unfold ti at L2
  unfold TfOut at L4
  generalize tu l a = r1 at *
  generalize tt l a l.length = r3 at *
  generalize tf l a = r4 at *
  obtain ⟨n, s, e1⟩ := r1
  obtain ⟨t, s3, e3⟩ := r3
  obtain ⟨m, s4, e4⟩ := r4
  simp only at *
  replace T1 := Aside0.mk T1
  replace T1' := Aside0.mk T1'
  replace T3 := Aside0.mk T3
  replace T4 := Aside0.mk T4
  go_enter Try.func13, Try.ntmps13
  go_upto_region 2 with (go_at_call 17; refine (L1 _ hB).mono ?_; rintro e w' ⟨rfl, rfl⟩)
  go_cut [38] (fun v wc => v = .bool false ∧ Below w.heap.size w wc)
  case first =>
    by_cases h : e1 = 0
    · subst h
      obtain ⟨f1, f2, f3⟩ := T1'.out rfl
      have hk := T1.out rfl
      obtain ⟨A', hcut, C'⟩ := cutA A c l a (a + s) f1 (by omega) f3 hc w hr.out
      rw [← hk] at hcut C'
      replace hk := Aside0.mk hk
      have F1 : a ≤ a + s := by omega
      have F2 : a + s ≤ (l.length : Int) := f3
      have F3 : IntKind.i64.wrap (a + s) = a + s := by rw [IntKind.wrap_i64]; omega
      have LU := fun W => Uint_any n W u1 u2
      go_region_held3 (fun _ => True) (first | trivial) (first | (go_at_call 22; with_reducible refine (LU _).mono ?_; rintro e W2 ⟨v2, rfl, H2⟩) | (go_at_call 21; with_reducible refine (Equal_mix H2 (ub_ok _) A' _ C' (Below_trans (Below_d hB) H2.bel)).mono ?_; rintro e w' ⟨rfl, rfl⟩))
      go_wp2
      go_meet
      case rel => exact ⟨rfl, Below_trans (Below_d hB) H2.bel⟩
    · have E : (e1 == 0) = false := by simp [h]
      go_quiet (fail)
      go_wp2
      go_meet
      case rel => exact ⟨rfl, Below_dn hB⟩
  case rest =>
    obtain ⟨rfl, hB⟩ := hcut
    go_upto_region 5 with (go_at_call 19; with_reducible refine (L2 _ hB).mono ?_; rintro e w' ⟨rfl, rfl⟩)
    go_cut [59] (fun v wc => v = .bool false ∧ Below w.heap.size w wc)
    case first =>
      by_cases h : e1 = 0
      · subst h
        obtain ⟨f1, f2, f3⟩ := T1'.out rfl
        have hk := T1.out rfl
        obtain ⟨A', hcut, C'⟩ := cutA A c l a (a + s) f1 (by omega) f3 hc w hr.out
        rw [← hk] at hcut C'
        replace hk := Aside0.mk hk
        have F1 : a ≤ a + s := by omega
        have F2 : a + s ≤ (l.length : Int) := f3
        have F3 : IntKind.i64.wrap (a + s) = a + s := by rw [IntKind.wrap_i64]; omega
        have LU := fun W => Int_calls (zz n) W (by unfold zz; split <;> omega) (by unfold zz; split <;> omega)
        rw [zu_zz n u1] at LU
        go_region_held3 (fun _ => True) (first | trivial) (first | (go_at_call 24; with_reducible refine (LU _).mono ?_; rintro e W2 ⟨v2, rfl, H2⟩) | (go_at_call 21; with_reducible refine (Equal_mix H2 (ub_ok _) A' _ C' (Below_trans (Below_d hB) H2.bel)).mono ?_; rintro e w' ⟨rfl, rfl⟩))
        go_wp2
        go_meet
        case rel => exact ⟨rfl, Below_trans (Below_d hB) H2.bel⟩
      · have E : (e1 == 0) = false := by simp [h]
        go_quiet (fail)
        go_wp2
        go_meet
        case rel => exact ⟨rfl, Below_dn hB⟩
    case rest =>
      obtain ⟨rfl, hB⟩ := hcut
      go_upto_region 8 with (go_at_call 28; with_reducible refine (L3 _ hB).mono ?_; rintro e w' ⟨rfl, rfl⟩)
      go_cut [82] (fun v wc => v = .bool false ∧ Below w.heap.size w wc)
      case first =>
        by_cases h : e3 = 0
        · subst h
          obtain ⟨hk, f2, f3, f1, f4⟩ := T3.out rfl
          obtain ⟨A', hcut, C'⟩ := cutA A c l a (a + s3) f1 (by omega) f3 hc w hr.out
          rw [← hk] at hcut C'
          replace hk := Aside0.mk hk
          have F1 : a ≤ a + s3 := by omega
          have F2 : a + s3 ≤ (l.length : Int) := f3
          have F3 : IntKind.i64.wrap (a + s3) = a + s3 := by rw [IntKind.wrap_i64]; omega
          have LU := fun W => Text_calls t W (by omega)
          go_region_held3 (fun _ => True) (first | trivial) (first | (go_at_call 26; with_reducible refine (LU _).mono ?_; rintro e W2 ⟨v2, rfl, H2⟩) | (go_at_call 21; with_reducible refine (Equal_mix H2 (text_ok _) A' _ C' (Below_trans (Below_d hB) H2.bel)).mono ?_; rintro e w' ⟨rfl, rfl⟩))
          go_wp2
          go_meet
          case rel => exact ⟨rfl, Below_trans (Below_d hB) H2.bel⟩
        · have E : (e3 == 0) = false := by simp [h]
          go_quiet (fail)
          go_wp2
          go_meet
          case rel => exact ⟨rfl, Below_dn hB⟩
      case rest =>
        obtain ⟨rfl, hB⟩ := hcut
        by_cases h : e4 = 0
        · subst h
          obtain ⟨hk, f2, f3, f1, f4⟩ := T4.out rfl
          obtain ⟨A', hcut, C'⟩ := cutA A c l a (a + s4) f1 (by omega) f3 hc w hr.out
          have hbs : bytesOK (sub l a (a + s4)) := by
            intro x hx
            exact hb.out x (List.mem_of_mem_take (List.mem_of_mem_drop (by simpa [sub] using hx)))
          generalize sub l a (a + s4) = x at *
          replace hk := Aside0.mk hk
          have F1 : a ≤ a + s4 := by omega
          have F2 : a + s4 ≤ (l.length : Int) := f3
          have F3 : IntKind.i64.wrap (a + s4) = a + s4 := by rw [IntKind.wrap_i64]; omega
          go_wp2_with (first | (go_at_call 34; with_reducible refine (L4 _ hB).mono ?_; rintro e w4 ⟨v4, rfl, H4⟩))
          obtain ⟨A0, c0, rfl, hc0, k0⟩ := H4.reads
          refine (Frame_calls A0 c0 m w4 k0 T4' (by omega)).mono ?_
          rintro e w5 ⟨v5, rfl, H5⟩
          have hB5 := Below_trans hB (Below_trans H4.bel H5.bel)
          rw [hk.out] at H5 ⊢
          simp only at H5 ⊢
          go_wp2_with (first | (go_at_call 14; with_reducible refine (live_calls _).mono ?_; rintro e w6 ⟨rfl, B6⟩) | (go_at_call 21; with_reducible refine (Equal_mix (H5.later B6) hbs A' _ C' (Below_trans hB5 B6)).mono ?_; rintro e w' ⟨rfl, rfl⟩))
          go_ret
          exact ⟨rfl, Below_trans hB5 B6⟩
        · have E : (e4 != 0) = true := by simp [h]
          go_wp2_with (first | (go_at_call 34; with_reducible refine (L4 _ hB).mono ?_; rintro e w4 ⟨v4, rfl, H4⟩) | (go_at_call 14; with_reducible refine (live_calls _).mono ?_; rintro e w6 ⟨rfl, B6⟩))
          go_ret
          exact ⟨rfl, Below_trans (Below_trans hB H4.bel) B6⟩
end Go.Proofs.Ytoeefamnglbakaa
