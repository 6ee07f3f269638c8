import Derived.Test.YtoeefamnglbakaaG
import Derived.WalkSpells
import Derived.Test.YtoeefamnglbakaaWZeros
namespace Go.Proofs.Ytoeefamnglbakaa
open Go.RowKit Go.Proofs.YtoeefamnglbakaaW.PrintWords Go.Proofs.YtoeefamnglbakaaW.PrintLast Go.Proofs.YtoeefamnglbakaaW.PrintMore
set_option linter.unusedVariables false
set_option linter.unusedSimpArgs false
attribute [local go_sem] t3 ts
theorem eqnil (A : Option Addr) (n c : Nat) (W : World) : (binOp .eql 22 (.slice A n c) (.slice none 0 0)).run Try.prog W = .ok (.bool A.isNone) W := by
  simp only [binOp]
  simp [Op.equal, Op.maxDepth, Lib.run_equalIn_slice_nil W 9999 22 5 A n c 0 0 Try.underlying22]
section
variable {ops : Array Oper} {rest : List Oper} {o : Oper} {a : Act} {Q : Exit → Act → World → Prop}
theorem appR {w W : World} {s x : Operand} {v : Value} {xs ys : List Int} {A : Option Addr} {c : Nat} (hgd : o.guard = none) (ho : o.op = .call { callee := .builtin .append, args := #[s, x], argTypes := #[22, 22] })
    (hs : a.eval s = v) (hx : a.eval x = .slice A ys.length c) (HO : Fr w W v xs) (HR : Kd.C (Kd.int .u8) W A ys.length ys) (hl : xs.length + ys.length ≤ 140737488355328)
    (h : ∀ v1 w1, Fr w w1 v1 (xs ++ ys) → Below W.heap.size W w1 ∨ True → wpList Try.prog ops Q rest (a.put o.dst v1) w1) : wpList Try.prog ops Q (o :: rest) a W := by
  refine Kd.R_append_row (P := Try.prog) (Value.int .u8) (0 : Int) (w0 := w) w.heap.size hgd s x 22 5 (.int .u8 0) 1 ho Try.underlying22 info5 rfl (by decide) v xs ys A ys.length c (fun _ => True) hs hx (fun _ _ => trivial) HO.1 HR HO.2 HO.2.size (by omega) ?_
  intro v1 w1 h1 h2 _ _
  exact h v1 w1 ⟨h1, h2⟩ (.inr trivial)
theorem appZ {w W : World} {s x : Operand} {v : Value} {xs : List Int} {n : Int} (hgd : o.guard = none) (ho : o.op = .call { callee := .builtin .append, args := #[s, x], argTypes := #[22, 3] })
    (hs : a.eval s = v) (hx : a.eval x = .int .i64 n) (HO : Fr w W v xs) (h0 : 0 ≤ n) (hl : xs.length + n.toNat ≤ 140737488355328)
    (h : ∀ v1 w1, Fr w w1 v1 (xs ++ List.replicate n.toNat 0) → wpList Try.prog ops Q rest (a.put o.dst v1) w1) : wpList Try.prog ops Q (o :: rest) a W := by
  refine Kd.R_append_zeros (P := Try.prog) (Kd.int .u8) (w0 := w) w.heap.size hgd s x 22 3 5 (.int .u8 0) 1 ho Try.underlying22 (k := .i64) Try.underlying3 info5 rfl (by decide) (by omega) v xs 0 n (fun _ => True) hs hx rfl (fun _ _ => trivial) HO.1 h0 HO.2 HO.2.size (by omega) ?_
  intro v1 w1 h1 h2 _ _
  exact h v1 w1 ⟨h1, h2⟩
end
set_option maxRecDepth 100000 in
theorem Clone_calls (A : Option Addr) (c : Nat) (l : List Int) (w : World) (hr : Kd.C (Kd.int .u8) w A l.length l) (hm : l.length ≤ 140737488351232) :
    Calls Try.prog 38 #[.slice A l.length c] w fun e w' => ∃ v, e = .returned v ∧ Fr w w' v l := by
  have en := fun n c W => eqnil A n c W
  cases A with
  | none =>
    have h0 : l.length = 0 := by
      rcases Nat.eq_zero_or_pos l.length with h | h
      · exact h
      · obtain ⟨_, h1, _⟩ := hr.2.2 h; cases h1
    obtain rfl : l = [] := List.eq_nil_of_length_eq_zero h0
    simp only [Option.isNone_none] at en
    clear hr hm h0
    go_enter Try.func38, Try.ntmps38
    go_wp2
    go_ret
    exact ⟨_, rfl, Fr.nil (Below.refl _ _)⟩
  | some ad =>
    simp only [Option.isNone_some] at en
    have F := Fr_lit (Below.refl w.heap.size w) [] (by simp)
    have hr1 := Kd.C_below hr (below_alloc (Below.refl w.heap.size w) (.cells (nums .u8 []).toArray 5))
    have hm := Aside0.mk hm
    clear hr
    go_enter Try.func38, Try.ntmps38
    go_wp2_with (at_builtin; refine appR rfl rfl rfl rfl F hr1 ?_ ?_; (have := hm.out; (show 0 + _ ≤ _); omega); intro v1 w1 HO _)
    go_ret
    exact ⟨_, rfl, HO⟩
theorem Fr_trunc {w W : World} {A : Option Addr} {c : Nat} {xs : List Int} (h : Fr w W (.slice A xs.length c) xs) : Fr w W (.slice A 0 c) [] := by
  refine ⟨Kd.R_of_own ?_ (fun _ _ => trivial), h.2⟩
  have ho := Kd.own_of_R h.1
  refine ⟨rfl, ?_⟩
  rcases ho.2 with ⟨e, _⟩ | ⟨g, cap, cur, e, hb, hh, h1, h2, h3, _⟩
  · injection e with e1 e2 e3
    subst e1 e3
    exact .inl ⟨rfl, rfl⟩
  · injection e with e1 e2 e3
    subst e1 e3
    exact .inr ⟨g, c, cur, rfl, hb, hh, Nat.zero_le _, h2, h3, by simp [encs]⟩
set_option maxRecDepth 100000 in
theorem Grow_nil (n : Nat) (w : World) (hm : n ≤ 140737488355328) : Calls Try.prog 46 [.slice none 0 0, .int .i64 (n : Int)].toArray w fun e w' => ∃ v, e = .returned v ∧ Fr w w' v [] := by
  have hf : Fr w w (.slice none 0 0) [] := Fr.nil (Below.refl _ _)
  obtain ⟨i0, hi0, _, hsz, _⟩ := info_parts info5
  by_cases h : 0 < n
  · have h' : (0 : Int) < (n : Int) := by omega
    go_enter Try.func46, Try.ntmps46
    go_wp2_with (at_builtin; refine appZ rfl rfl rfl rfl hf ?_ ?_ ?_; omega; (show _ ≤ _; simp; omega); intro v1 w1 HO; obtain ⟨A, c, rfl, hc, _⟩ := HO.reads; (obtain ⟨hcut, _, _⟩ := print_take_of (P := Try.prog) (Value.int .u8) (0 : Int) 22 5 .i64 Try.underlying22 hi0 hsz A c ([] ++ List.replicate (n : Int).toNat (0 : Int)) 0 (by omega) (by omega) hc); have HF := Fr_trunc HO)
    go_ret
    exact ⟨_, rfl, HF⟩
  · go_enter Try.func46, Try.ntmps46
    go_wp2
    go_ret
    exact ⟨_, rfl, hf⟩
theorem Grow_any (x : Int) (w : World) (h0 : 0 ≤ x) (hm : x ≤ 140737488355328) : Calls Try.prog 46 #[.slice none 0 0, .int .i64 x] w fun e w' => ∃ v, e = .returned v ∧ Fr w w' v [] := by
  obtain ⟨n, rfl⟩ := Int.eq_ofNat_of_zero_le h0
  exact Grow_nil n w (by omega)
set_option maxRecDepth 100000 in
theorem Concat3 (g : Nat) (A0 A1 A2 : Option Addr) (c0 c1 c2 : Nat) (x0 x1 x2 : List Int) (w : World) (h0 : w.cell? ⟨g, 0, none⟩ = some (.slice A0 x0.length c0)) (h1 : w.cell? ⟨g, 1, none⟩ = some (.slice A1 x1.length c1)) (h2 : w.cell? ⟨g, 2, none⟩ = some (.slice A2 x2.length c2))
    (C0 : Kd.C (Kd.int .u8) w A0 x0.length x0) (C1 : Kd.C (Kd.int .u8) w A1 x1.length x1) (C2 : Kd.C (Kd.int .u8) w A2 x2.length x2) (hl : x0.length + x1.length + x2.length ≤ 140737488355328) :
    Calls Try.prog 41 #[.slice (some ⟨g, 0, none⟩) 3 3] w fun e w' => ∃ v, e = .returned v ∧ Fr w w' v (x0 ++ x1 ++ x2) := by
  have l0 : (x0.length : Int) + x1.length + x2.length ≤ 140737488355328 := by omega
  go_enter Try.func41, Try.ntmps41
  go_wp2_with fail
  refine wp_loop_rounds 4 ?_
  rw [rounds_succ]
  go_wp2_with fail
  rw [rounds_succ]
  go_wp2_with fail
  rw [rounds_succ]
  go_wp2_with fail
  rw [rounds_succ]
  go_wp2_with fail
  refine (Grow_any _ w (by omega) (by omega)).mono ?_
  rintro e W1 ⟨v, rfl, H⟩
  have k0 := cell_below H.2 h0
  have D0 := Kd.C_below C0 H.2
  go_wp2_with fail
  refine wp_loop_rounds 4 ?_
  rw [rounds_succ]
  go_wp2_with (at_builtin; refine appR rfl rfl rfl rfl H D0 ?_ ?_; (show 0 + _ ≤ _; omega); intro v1 W2 H1 _)
  have k1 := cell_below H1.2 h1
  have D1 := Kd.C_below C1 H1.2
  rw [rounds_succ]
  go_wp2_with (at_builtin; refine appR rfl rfl rfl rfl H1 D1 ?_ ?_; (simp; omega); intro v2 W3 H2 _)
  have k2 := cell_below H2.2 h2
  have D2 := Kd.C_below C2 H2.2
  rw [rounds_succ]
  go_wp2_with (at_builtin; refine appR rfl rfl rfl rfl H2 D2 ?_ ?_; (simp; omega); intro v3 W4 H3 _)
  rw [rounds_succ]
  go_wp2
  go_ret
  exact ⟨_, rfl, by simpa using H3⟩
/-! ### frames -/
def fr (b : List Int) : List Int × Int := if 1048576 < (b.length : Int) then ([], 3) else (w4 b.length ++ w4 (crc b) ++ b, 0)
theorem crc_rng (l : List Int) (h : bytesOK l) : 0 ≤ crc l ∧ crc l < 4294967296 := by
  have := crcF_rng l h 4294967295 (by omega) (by omega)
  exact xor_rng _ _ this.1 this.2 (by omega) (by omega)
def FrOut (w : World) (b : List Int) (e : Ending) (w' : World) : Prop := ∃ v, e = .returned (.tuple #[v, .int .i64 (fr b).2]) ∧ Fr w w' v (fr b).1
set_option maxRecDepth 100000 in
theorem Frame_calls (A : Option Addr) (c : Nat) (l : List Int) (w : World) (hr : Kd.C (Kd.int .u8) w A l.length l) (hb : bytesOK l) (hmx : l.length ≤ 140737488351232) :
    Calls Try.prog 33 #[.slice A l.length c] w (FrOut w l) := by
  by_cases hl : 1048576 < (l.length : Int)
  · have e : fr l = ([], 3) := by unfold fr; rw [if_pos hl]
    clear hr hb
    go_enter Try.func33, Try.ntmps33
    go_wp2
    go_ret2
    refine ⟨.slice none 0 0, ?_, ?_⟩
    · rw [e]; rfl
    · rw [e]; exact Fr.nil (Below.refl _ _)
  · have e : fr l = (w4 l.length ++ w4 (crc l) ++ l, 0) := by unfold fr; rw [if_neg hl]
    obtain ⟨q0, q1⟩ := crc_rng l hb
    have LS := fun W (h : Below w.heap.size w W) => Sum_calls A c l W (Kd.C_below hr h) hb
    unfold FrOut
    rw [e]
    clear e
    generalize crc l = q at *
    simp only
    have hr := Aside0.mk hr
    go_enter Try.func33, Try.ntmps33
    go_wp2_with (first | (go_at_call 42; (first | ((with_reducible refine (four_calls (l.length : Int) w ?_ ?_).mono ?_); omega; omega; rintro e1 W1 ⟨v1, rfl, H1⟩; obtain ⟨A1, k1, rfl, hk1, C1⟩ := H1.reads) | ((with_reducible refine (four_calls q _ q0 q1).mono ?_); rintro e1 W2 ⟨v2, rfl, H2⟩; obtain ⟨A2, k2, rfl, hk2, C2⟩ := H2.reads))) | (go_at_call 15; refine (LS _ H1.2).mono ?_; rintro e1 w' ⟨rfl, rfl⟩))
    obtain ⟨W3, hW3⟩ : ∃ W3, W3 = W2.alloc (.cells #[.slice A1 (w4 l.length).length k1, .slice A2 (w4 q).length k2, .slice A l.length c] 22) := ⟨_, rfl⟩
    have hB3 : Below W2.heap.size W2 W3 := by rw [hW3]; exact below_alloc (Below.refl _ _) _
    have d0 : W3.cell? ⟨W2.heap.size, 0, none⟩ = some (.slice A1 (w4 l.length).length k1) := by rw [hW3]; simp [go_sem]
    have d1 : W3.cell? ⟨W2.heap.size, 1, none⟩ = some (.slice A2 (w4 q).length k2) := by rw [hW3]; simp [go_sem]
    have d2 : W3.cell? ⟨W2.heap.size, 2, none⟩ = some (.slice A l.length c) := by rw [hW3]; simp [go_sem]
    rw [← hW3]
    have hB2 : Below w.heap.size w W2 := Below_trans H1.2 H2.2
    refine (Concat3 W2.heap.size A1 A2 A k1 k2 c (w4 l.length) (w4 q) l W3 d0 d1 d2 (Kd.C_below C1 (Below_trans H2.2 hB3)) (Kd.C_below C2 hB3) (Kd.C_below hr.out (Below_trans hB2 hB3)) (by simp [w4]; omega)).mono ?_
    rintro e1 W4 ⟨v, rfl, H4⟩
    go_wp2
    go_ret2
    exact ⟨v, rfl, H4.of_later (Below_trans hB2 hB3)⟩
set_option maxRecDepth 100000 in
theorem refFrame_calls (A : Option Addr) (c : Nat) (l : List Int) (w : World) (hr : Kd.C (Kd.int .u8) w A l.length l) (hb : bytesOK l) (hmx : l.length ≤ 140737488351232) :
    Calls Try.prog 35 #[.slice A l.length c] w (FrOut w l) := by
  by_cases hl : 1048576 < (l.length : Int)
  · have e : fr l = ([], 3) := by unfold fr; rw [if_pos hl]
    clear hr hb
    go_enter Try.func35, Try.ntmps35
    go_wp2
    go_ret2
    refine ⟨.slice none 0 0, ?_, ?_⟩
    · rw [e]; rfl
    · rw [e]; exact Fr.nil (Below.refl _ _)
  · have e : fr l = (w4 l.length ++ w4 (crc l) ++ l, 0) := by unfold fr; rw [if_neg hl]
    obtain ⟨q0, q1⟩ := crc_rng l hb
    have LS := fun W (h : Below w.heap.size w W) => refSum_calls A c l W (Kd.C_below hr h) hb
    unfold FrOut
    rw [e]
    clear e
    generalize crc l = q at *
    simp only
    have hr := Aside0.mk hr
    have hl' : l.length ≤ 1048576 := by omega
    go_enter Try.func35, Try.ntmps35
    go_wp2_with (first | (go_at_call 44; (first | ((with_reducible refine (word_calls (l.length : Int) w ?_ ?_).mono ?_); omega; omega; rintro e1 W1 ⟨v1, rfl, H1⟩) | ((with_reducible refine (word_calls q _ q0 q1).mono ?_); rintro e1 W2 ⟨v2, rfl, H2⟩; obtain ⟨A2, k2, rfl, hk2, C2⟩ := H2.reads; have H1 := H1.later H2.2; have sz : (w4 (l.length : Int)).length + (w4 q).length ≤ 140737488355328 := by simp [w4]))) | (go_at_call 16; refine (LS _ H1.2).mono ?_; rintro e1 w' ⟨rfl, rfl⟩) | (at_builtin; refine appR rfl rfl rfl rfl H1 C2 sz ?_; intro v3 W3 H3 _) | (at_builtin; refine appR rfl rfl rfl rfl H3 (Kd.C_below hr.out H3.2) ?_ ?_; (simp [w4]; omega); intro v4 W4 H4 _))
    go_ret2
    exact ⟨v4, rfl, H4⟩
def tf (l : List Int) (a : Int) : List Int × Int × Int :=
  if a < 0 ∨ a > l.length then ([], 0, 1)
  else if (l.length : Int) - a < 8 then ([], 0, 10)
  else if un4 l a > 1048576 ∨ un4 l a > l.length - a - 8 then ([], 0, 10)
  else if crc (sub l (a + 8) (a + 8 + un4 l a)) ≠ un4 l (a + 4) then ([], 0, 10)
  else (sub l (a + 8) (a + 8 + un4 l a), un4 l a + 8, 0)
theorem ret3v_eq {v v' : Value} {b c b' c' : Int} (h1 : v = v') (h2 : b = b') (h3 : c = c') : Ending.returned (.tuple #[v, .int .i64 b, .int .i64 c]) = .returned (.tuple #[v', .int .i64 b', .int .i64 c']) := by subst h1 h2 h3; rfl
def TfOut (w : World) (r : List Int × Int × Int) (e : Ending) (w' : World) : Prop := ∃ v, e = .returned (.tuple #[v, .int .i64 r.2.1, .int .i64 r.2.2]) ∧ Fr w w' v r.1
theorem TfOut.bad {w w' : World} (n : Int) (h : Below w.heap.size w w') : TfOut w ([], 0, n) (.returned (.tuple #[.slice none 0 0, .int .i64 0, .int .i64 n])) w' := ⟨_, rfl, Fr.nil h⟩
theorem Drawn0.below0 {w w' : World} (h : Drawn0 w w') : Below w.heap.size w w' := h.below
theorem unword_any (A : Option Addr) (c : Nat) (l : List Int) (x : Int) (w : World) (hr : Kd.C (Kd.int .u8) w A l.length l) (hb : bytesOK l) (h0 : 0 ≤ x) (h4 : x + 4 ≤ l.length) (hmx : l.length ≤ 140737488351232) :
    Calls Try.prog 40 #[.slice A l.length c, .int .i64 x] w fun e w' => e = .returned (.int .u32 (un4 l x)) ∧ Below w.heap.size w w' := by
  obtain ⟨s, rfl⟩ := Int.eq_ofNat_of_zero_le h0
  refine (unword_calls A c l s w hr hb (by omega) hmx).mono ?_
  rintro e w' ⟨rfl, h⟩
  exact ⟨rfl, h.below⟩
set_option maxHeartbeats 1000000 in
set_option maxRecDepth 100000 in
theorem refTakeFrame_calls (A : Option Addr) (c : Nat) (l : List Int) (a : Int) (w : World) (hr : Kd.C (Kd.int .u8) w A l.length l) (hc : l.length ≤ c) (hb : bytesOK l) (hmx : l.length ≤ 140737488351232) :
    Calls Try.prog 32 #[.slice A l.length c, .int .i64 a] w (TfOut w (tf l a)) := by
  by_cases h1 : a < 0 ∨ a > l.length
  · have e : tf l a = ([], 0, 1) := by unfold tf; rw [if_pos h1]
    rw [e]
    clear hr hb
    rcases h1 with h1 | h1
    · go_enter Try.func32, Try.ntmps32
      go_wp2
      go_ret3
      exact TfOut.bad 1 (Below.refl _ _)
    · have h0 : 0 ≤ a := by omega
      go_enter Try.func32, Try.ntmps32
      go_wp2
      go_ret3
      exact TfOut.bad 1 (Below.refl _ _)
  · obtain ⟨h0, h1'⟩ : 0 ≤ a ∧ a ≤ (l.length : Int) := by omega
    by_cases h2 : (l.length : Int) - a < 8
    · have e : tf l a = ([], 0, 10) := by unfold tf; rw [if_neg h1, if_pos h2]
      rw [e]
      clear hr hb h1
      go_enter Try.func32, Try.ntmps32
      go_wp2
      go_ret3
      exact TfOut.bad 10 (Below.refl _ _)
    · have L1 := unword_any A c l a w hr hb h0 (by omega) hmx
      obtain ⟨q0, q1⟩ := un4_rng hb a
      by_cases h3 : un4 l a > 1048576 ∨ un4 l a > l.length - a - 8
      · have e : tf l a = ([], 0, 10) := by unfold tf; rw [if_neg h1, if_neg h2, if_pos h3]
        rw [e]
        generalize un4 l a = n at *
        clear hr hb h1
        by_cases h4 : 1048576 < n
        · clear h3
          go_enter Try.func32, Try.ntmps32
          go_wp2_with (go_at_call 40; refine L1.mono ?_; rintro e1 W1 ⟨rfl, H1⟩)
          go_ret3
          exact TfOut.bad 10 H1
        · have h5 : (l.length : Int) - a - 8 < n := by omega
          clear h3
          go_enter Try.func32, Try.ntmps32
          go_wp2_with (go_at_call 40; refine L1.mono ?_; rintro e1 W1 ⟨rfl, H1⟩)
          go_ret3
          exact TfOut.bad 10 H1
      · have L2 := fun W (h : Below w.heap.size w W) => unword_any A c l (a + 4) W (Kd.C_below hr h) hb (by omega) (by omega) hmx
        obtain ⟨i0, hi0, _, hsz, _⟩ := info_parts info5
        obtain ⟨A', hcut, hA, hk⟩ := print_mid_of (P := Try.prog) (Value.int .u8) (0 : Int) 22 5 .i64 .i64 Try.underlying22 hi0 hsz A c l (a + 8) (a + 8 + un4 l a) (by omega) (by omega) (by omega) hc
        have hb' : bytesOK (sub l (a + 8) (a + 8 + un4 l a)) := fun x hx => hb x (List.mem_of_mem_take (List.mem_of_mem_drop hx))
        have C' : Kd.C (Kd.int .u8) w A' (sub l (a + 8) (a + 8 + un4 l a)).length (sub l (a + 8) (a + 8 + un4 l a)) := Kd.C_of_reads (h1 := fun _ => rfl) (hA w (Kd.reads_of_C hr))
        have L3 := fun W (h : Below w.heap.size w W) => refSum_calls A' (c - (a + 8).toNat) _ W (Kd.C_below C' h) hb'
        have hl' : (sub l (a + 8) (a + 8 + un4 l a)).length ≤ 140737488351232 := by unfold sub; rw [List.length_drop, List.length_take]; omega
        have e : tf l a = if crc (sub l (a + 8) (a + 8 + un4 l a)) ≠ un4 l (a + 4) then ([], 0, 10) else (sub l (a + 8) (a + 8 + un4 l a), un4 l a + 8, 0) := by
          conv => lhs; unfold tf
          rw [if_neg h1, if_neg h2, if_neg h3]
        rw [e]
        change ∀ W, Sem.run Try.prog (Instr.slice 22 _ _ _ _) W = Result.ok (Value.slice A' (sub l (a + 8) (a + 8 + un4 l a)).length _) W at hcut
        clear e hA hk hr hi0 hsz hb
        generalize un4 l (a + 4) = n2 at *
        generalize un4 l a = n at *
        generalize sub l (a + 8) (a + 8 + n) = m at *
        generalize crc m = q at *
        have h6 : n ≤ 1048576 := by omega
        have h7 : n ≤ (l.length : Int) - a - 8 := by omega
        have C' := Aside0.mk C'
        clear hb' h1 h3
        by_cases h8 : q = n2
        · rw [if_neg (by simp [h8])]
          have h8' : (q != n2) = false := by simp [h8]
          clear h8
          go_enter Try.func32, Try.ntmps32
          go_wp2_with (first | (go_at_call 40; (first | ((with_reducible refine L1.mono ?_); rintro e1 W1 ⟨rfl, H1⟩) | ((with_reducible refine (L2 _ H1).mono ?_); rintro e1 W2 ⟨rfl, H2⟩; have F := Fr_lit (Below_trans H1 H2) [] (by simp); have D := Kd.C_below C'.out (below_alloc (Below_trans H1 H2) (.cells (nums .u8 []).toArray 5)); have sz : ([] : List Int).length + m.length ≤ 140737488355328 := by simp; omega))) | (go_at_call 16; refine (L3 _ H1).mono ?_; rintro e1 w' ⟨rfl, rfl⟩) | (at_builtin; refine appR rfl rfl rfl rfl F D sz ?_; intro v1 W3 H3 _))
          go_ret3
          exact ⟨v1, rfl, H3⟩
        · rw [if_pos (by simp [h8])]
          have h8' : (q != n2) = true := by simp [h8]
          clear h8
          go_enter Try.func32, Try.ntmps32
          go_wp2_with (first | (go_at_call 40; (first | ((with_reducible refine L1.mono ?_); rintro e1 W1 ⟨rfl, H1⟩) | ((with_reducible refine (L2 _ H1).mono ?_); rintro e1 W2 ⟨rfl, H2⟩))) | (go_at_call 16; refine (L3 _ H1).mono ?_; rintro e1 w' ⟨rfl, rfl⟩))
          go_ret3
          exact TfOut.bad 10 (Below_trans H1 H2)
theorem rd_drop (l : List Int) (s i : Nat) : rd (l.drop s) (i : Int) = rd l ((s + i : Nat) : Int) := by
  unfold rd
  rw [List.getD_eq_getElem?_getD, List.getD_eq_getElem?_getD, List.getElem?_drop]
  rfl
theorem un4_drop (l : List Int) (a : Int) (h : 0 ≤ a) : un4 (l.drop a.toNat) 0 = un4 l a := by
  obtain ⟨s, rfl⟩ := Int.eq_ofNat_of_zero_le h
  unfold un4
  have h0 := rd_drop l s 0
  have h1 := rd_drop l s 1
  have h2 := rd_drop l s 2
  have h3 := rd_drop l s 3
  simp only [Int.toNat_natCast] at *
  have e0 : ((0 : Nat) : Int) = 0 := rfl
  have e1 : ((1 : Nat) : Int) = 0 + 1 := rfl
  have e2 : ((2 : Nat) : Int) = 0 + 2 := rfl
  have e3 : ((3 : Nat) : Int) = 0 + 3 := rfl
  rw [e0] at h0
  rw [e1] at h1
  rw [e2] at h2
  rw [e3] at h3
  rw [h0, h1, h2, h3]
  simp
theorem sub_drop (l : List Int) (a b c : Int) (ha : 0 ≤ a) (hb : 0 ≤ b) (hc : 0 ≤ c) : sub (l.drop a.toNat) b c = sub l (a + b) (a + c) := by
  unfold sub
  obtain ⟨a, rfl⟩ := Int.eq_ofNat_of_zero_le ha
  obtain ⟨b, rfl⟩ := Int.eq_ofNat_of_zero_le hb
  obtain ⟨c, rfl⟩ := Int.eq_ofNat_of_zero_le hc
  have e1 : ((a : Int) + (b : Int)).toNat = a + b := by omega
  have e2 : ((a : Int) + (c : Int)).toNat = a + c := by omega
  rw [e1, e2]
  simp only [Int.toNat_natCast]
  rw [List.take_drop, List.drop_drop]
set_option maxHeartbeats 1000000 in
set_option maxRecDepth 100000 in
theorem TakeFrame_calls (A : Option Addr) (c : Nat) (l : List Int) (a : Int) (w : World) (hr : Kd.C (Kd.int .u8) w A l.length l) (hc : l.length ≤ c) (hb : bytesOK l) (hmx : l.length ≤ 140737488351232) :
    Calls Try.prog 34 #[.slice A l.length c, .int .i64 a] w (TfOut w (tf l a)) := by
  by_cases h1 : a < 0 ∨ a > l.length
  · have e : tf l a = ([], 0, 1) := by unfold tf; rw [if_pos h1]
    rw [e]
    clear hr hb
    rcases h1 with h1 | h1
    · go_enter Try.func34, Try.ntmps34
      go_wp2
      go_ret3
      exact TfOut.bad 1 (Below.refl _ _)
    · have h0 : 0 ≤ a := by omega
      go_enter Try.func34, Try.ntmps34
      go_wp2
      go_ret3
      exact TfOut.bad 1 (Below.refl _ _)
  · obtain ⟨h0, h1'⟩ : 0 ≤ a ∧ a ≤ (l.length : Int) := by omega
    obtain ⟨i0, hi0, _, hsz, _⟩ := info_parts info5
    obtain ⟨A1, hcut1, hA1, hk1⟩ := print_drop_of (P := Try.prog) (Value.int .u8) (0 : Int) 22 5 .i64 Try.underlying22 hi0 hsz A c l a h0 h1' hc
    have C1 : Kd.C (Kd.int .u8) w A1 (l.drop a.toNat).length (l.drop a.toNat) := Kd.C_of_reads (h1 := fun _ => rfl) (hA1 w (Kd.reads_of_C hr))
    have b1 : bytesOK (l.drop a.toNat) := fun x hx => hb x (List.mem_of_mem_drop hx)
    have hll : ((l.drop a.toNat).length : Int) = l.length - a := by rw [List.length_drop]; omega
    have hun := un4_drop l a h0
    by_cases h2 : (l.length : Int) - a < 8
    · have e : tf l a = ([], 0, 10) := by unfold tf; rw [if_neg h1, if_pos h2]
      rw [e]
      clear hun e
      generalize l.drop a.toNat = m at *
      clear hr hb h1 C1 b1 hA1 hk1 hi0 hsz
      have h2' : (m.length : Int) < 8 := by omega
      clear hll
      go_enter Try.func34, Try.ntmps34
      go_wp2
      go_ret3
      exact TfOut.bad 10 (Below.refl _ _)
    · have L1 := number_calls A1 (c - a.toNat) _ w C1 b1 (by omega)
      rw [hun] at L1
      obtain ⟨q0, q1⟩ := un4_rng hb a
      by_cases h3 : un4 l a > 1048576 ∨ un4 l a > l.length - a - 8
      · have e : tf l a = ([], 0, 10) := by unfold tf; rw [if_neg h1, if_neg h2, if_pos h3]
        rw [e]
        clear e hun
        generalize un4 l a = n at *
        generalize l.drop a.toNat = m at *
        have h2' : 8 ≤ (m.length : Int) := by omega
        clear hr hb h1 C1 b1 hA1 hk1 hi0 hsz
        by_cases h4 : 1048576 < n
        · clear h3 hll
          go_enter Try.func34, Try.ntmps34
          go_wp2_with (go_at_call 43; refine L1.mono ?_; rintro e1 W1 ⟨rfl, H1⟩)
          go_ret3
          exact TfOut.bad 10 H1.below
        · have h5 : (m.length : Int) - 8 < n := by omega
          clear h3 hll
          go_enter Try.func34, Try.ntmps34
          go_wp2_with (go_at_call 43; refine L1.mono ?_; rintro e1 W1 ⟨rfl, H1⟩)
          go_ret3
          exact TfOut.bad 10 H1.below
      · obtain ⟨A2, hcut2, hA2, hk2⟩ := print_mid_of (P := Try.prog) (Value.int .u8) (0 : Int) 22 5 .i64 .i64 Try.underlying22 hi0 hsz A1 (c - a.toNat) (l.drop a.toNat) 8 (8 + un4 l a) (by omega) (by omega) (by omega) hk1
        have C2 : Kd.C (Kd.int .u8) w A2 (sub (l.drop a.toNat) 8 (8 + un4 l a)).length (sub (l.drop a.toNat) 8 (8 + un4 l a)) := Kd.C_of_reads (h1 := fun _ => rfl) (hA2 w (Kd.reads_of_C C1))
        obtain ⟨A3, hcut3, hA3, hk3⟩ := print_drop_of (P := Try.prog) (Value.int .u8) (0 : Int) 22 5 .i64 Try.underlying22 hi0 hsz A1 (c - a.toNat) (l.drop a.toNat) 4 (by omega) (by omega) hk1
        have C3 : Kd.C (Kd.int .u8) w A3 ((l.drop a.toNat).drop 4).length ((l.drop a.toNat).drop 4) := Kd.C_of_reads (h1 := fun _ => rfl) (hA3 w (Kd.reads_of_C C1))
        have hun2 : un4 ((l.drop a.toNat).drop 4) 0 = un4 l (a + 4) := by
          rw [List.drop_drop, show a.toNat + 4 = (a + 4).toNat by omega]
          exact un4_drop l (a + 4) (by omega)
        have L2 := fun W (h : Below w.heap.size w W) => number_calls A3 (c - a.toNat - 4) _ W (Kd.C_below C3 h) (fun x hx => b1 x (List.mem_of_mem_drop hx)) (by rw [List.length_drop]; omega)
        rw [hun2] at L2
        change ∀ W, Sem.run Try.prog (Instr.slice 22 _ _ _ _) W = Result.ok (Value.slice A2 (sub (l.drop a.toNat) 8 (8 + un4 l a)).length _) W at hcut2
        change ∀ W, Sem.run Try.prog (Instr.slice 22 _ _ _ _) W = Result.ok (Value.slice A3 ((l.drop a.toNat).drop 4).length (c - a.toNat - 4)) W at hcut3
        have e : tf l a = if crc (sub l (a + 8) (a + 8 + un4 l a)) ≠ un4 l (a + 4) then ([], 0, 10) else (sub l (a + 8) (a + 8 + un4 l a), un4 l a + 8, 0) := by
          conv => lhs; unfold tf
          rw [if_neg h1, if_neg h2, if_neg h3]
        rw [sub_drop l a 8 (8 + un4 l a) h0 (by omega) (by omega), show a + (8 + un4 l a) = a + 8 + un4 l a by omega] at hcut2 C2
        rw [e]
        have hb' : bytesOK (sub l (a + 8) (a + 8 + un4 l a)) := fun x hx => hb x (List.mem_of_mem_take (List.mem_of_mem_drop hx))
        have L3 := fun W (h : Below w.heap.size w W) => Sum_calls A2 (c - a.toNat - 8) _ W (Kd.C_below C2 h) hb'
        have hl' : (sub l (a + 8) (a + 8 + un4 l a)).length ≤ 140737488351232 := by unfold sub; rw [List.length_drop, List.length_take]; omega
        have L4 := fun W (h : Below w.heap.size w W) => Clone_calls A2 (c - a.toNat - 8) _ W (Kd.C_below C2 h) hl'
        have hpl : ((l.drop a.toNat).length : Int) ≤ 140737488351232 := by omega
        have h2' : 8 ≤ ((l.drop a.toNat).length : Int) := by omega
        have h7 : un4 l a ≤ ((l.drop a.toNat).length : Int) - 8 := by omega
        have h6 : un4 l a ≤ 1048576 := by omega
        clear e hA1 hA2 hA3 hk1 hk2 hk3 hr hi0 hsz hb C1 C2 C3 hun hun2 b1 hb' h1 h3 hll
        generalize un4 l (a + 4) = n2 at *
        generalize un4 l a = n at *
        generalize sub l (a + 8) (a + 8 + n) = m at *
        generalize crc m = q at *
        generalize (l.drop a.toNat).drop 4 = p4 at *
        generalize l.drop a.toNat = p at *
        by_cases h8 : q = n2
        · rw [if_neg (by simp [h8])]
          have h8' : (q != n2) = false := by simp [h8]
          clear h8
          go_enter Try.func34, Try.ntmps34
          go_wp2_with (go_at_call 43; refine L1.mono ?_; rintro e1 W1 ⟨rfl, H1⟩)
          have H1 := H1.below
          have H1d : Below w.heap.size w W1.drew := ⟨H1.os, H1.tape, H1.output, H1.size, H1.block⟩
          go_region_held3 (fun _ => True) (first | trivial) (first | (go_at_call 15; refine (L3 _ H1d).mono ?_; rintro e1 w' ⟨rfl, rfl⟩) | (go_at_call 43; refine (L2 _ H1d).mono ?_; rintro e1 W2 ⟨rfl, H2⟩))
          have H2 := Below_trans H1d H2.below
          go_wp2_with (go_at_call 38; refine (L4 _ H2).mono ?_; rintro e1 W3 ⟨v, rfl, H3⟩)
          go_ret3
          exact ⟨v, ret3v_eq rfl (by show 8 + n = n + 8; omega) rfl, H3.of_later H2⟩
        · rw [if_pos (by simp [h8])]
          have h8' : (q != n2) = true := by simp [h8]
          clear h8
          go_enter Try.func34, Try.ntmps34
          go_wp2_with (go_at_call 43; refine L1.mono ?_; rintro e1 W1 ⟨rfl, H1⟩)
          have H1 := H1.below
          have H1d : Below w.heap.size w W1.drew := ⟨H1.os, H1.tape, H1.output, H1.size, H1.block⟩
          go_region_held3 (fun _ => True) (first | trivial) (first | (go_at_call 15; refine (L3 _ H1d).mono ?_; rintro e1 w' ⟨rfl, rfl⟩) | (go_at_call 43; refine (L2 _ H1d).mono ?_; rintro e1 W2 ⟨rfl, H2⟩))
          have H2 := Below_trans H1d H2.below
          go_wp2
          go_ret3
          exact TfOut.bad 10 H2
theorem tf_ok (l : List Int) (a : Int) (h : bytesOK l) : bytesOK (tf l a).1 := by
  intro x hx
  unfold tf at hx
  split at hx
  · cases hx
  · split at hx
    · cases hx
    · split at hx
      · cases hx
      · split at hx
        · cases hx
        · exact h x (List.mem_of_mem_take (List.mem_of_mem_drop hx))
theorem fr_ok (l : List Int) (h : bytesOK l) : bytesOK (fr l).1 := by
  unfold fr
  split
  · intro x hx; cases hx
  · exact bytesOK_append (bytesOK_append (w4_ok _) (w4_ok _)) h
set_option maxRecDepth 100000 in
theorem WireFrames_calls (A : Option Addr) (c : Nat) (l : List Int) (a : Int) (w : World) (hr : Kd.C (Kd.int .u8) w A l.length l) (hc : l.length ≤ c) (hb : bytesOK l) (hmx : l.length ≤ 140737488351232) :
    Calls Try.prog 10 #[.slice A l.length c, .int .i64 a] w fun e w' => e = .returned (.bool true) ∧ Below w.heap.size w w' := by
  have L1 := fun W (h : Below w.heap.size w W) => Frame_calls A c l W (Kd.C_below hr h) hb hmx
  have L2 := fun W (h : Below w.heap.size w W) => refFrame_calls A c l W (Kd.C_below hr h) hb hmx
  have L3 := fun W (h : Below w.heap.size w W) => TakeFrame_calls A c l a W (Kd.C_below hr h) hc hb hmx
  have L4 := fun W (h : Below w.heap.size w W) => refTakeFrame_calls A c l a W (Kd.C_below hr h) hc hb hmx
  have b1 := fr_ok l hb
  have b2 := tf_ok l a hb
  unfold FrOut at L1 L2
  unfold TfOut at L3 L4
  generalize fr l = r1 at *
  generalize tf l a = r2 at *
  obtain ⟨x, e1⟩ := r1
  obtain ⟨y, n, e2⟩ := r2
  simp only at *
  clear hr hc hb hmx
  have hB := Below.refl w.heap.size w
  go_enter Try.func10, Try.ntmps10
  go_wp2_with (first | (go_at_call 33; refine (L1 _ hB).mono ?_; rintro e W1 ⟨v1, rfl, H1⟩; have B1 := Below_trans hB H1.2) | (go_at_call 35; refine (L2 _ B1).mono ?_; rintro e W2 ⟨v2, rfl, H2⟩; have B2 := Below_trans B1 H2.2) | (go_at_call 34; refine (L3 _ B2).mono ?_; rintro e W3 ⟨v3, rfl, H3⟩; have B3 := Below_trans B2 H3.2) | (go_at_call 32; refine (L4 _ B3).mono ?_; rintro e W4 ⟨v4, rfl, H4⟩; have B4 := Below_trans B3 H4.2) | (go_at_call 14; refine (live_calls _).mono ?_; rintro e W5 ⟨rfl, H5⟩; have B5 := Below_trans B4 H5; have K2 := (H2.later (Below_trans (Below_trans H3.2 H4.2) H5)); have K1 := H1.later (Below_trans H2.2 (Below_trans (Below_trans H3.2 H4.2) H5)); have K3 := H3.later (Below_trans H4.2 H5); have K4 := H4.later H5) | (go_at_call 21; (first | ((with_reducible refine (Equal_fr K1 K2 b1 b1).mono ?_); rintro e w' ⟨rfl, rfl⟩) | ((with_reducible refine (Equal_fr K3 K4 b2 b2).mono ?_); rintro e w' ⟨rfl, rfl⟩))))
  go_ret
  exact ⟨by simp, B5⟩
end Go.Proofs.Ytoeefamnglbakaa
