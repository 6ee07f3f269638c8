import Derived.Test.YtoeefamnglbakaaE
namespace Go.Proofs.Ytoeefamnglbakaa
open Go.RowKit Go.Proofs.YtoeefamnglbakaaW.PrintWords Go.Proofs.YtoeefamnglbakaaW.PrintLast Go.Proofs.YtoeefamnglbakaaW.PrintMore
set_option linter.unusedVariables false
set_option linter.unusedSimpArgs false
attribute [local go_sem] t3
theorem ta_fits : ∀ (l : List Int) (i : Nat) (n : Int) v s, ta i n l = some (v, s) → (i : Int) < s ∧ s ≤ i + l.length
  | [], _, _, _, _, h => by simp [ta] at h
  | c :: l, i, n, v, s, h => by
    rw [ta] at h
    split at h
    · cases h
    · split at h
      · cases h
      · split at h
        · split at h
          · cases h
          · simp at h
            simp; omega
        · have := ta_fits l (i + 1) _ v s h
          simp at this ⊢
          omega
theorem tu_fits (l : List Int) (a : Int) (h : (tu l a).2.2 = 0) : 0 ≤ a ∧ 0 < (tu l a).2.1 ∧ a + (tu l a).2.1 ≤ l.length := by
  unfold tu at *
  split at h
  · simp at h
  · rename_i hh
    rw [if_neg hh]
    cases e : ta 0 0 (l.drop a.toNat) with
    | none => rw [e] at h; simp [tr] at h
    | some r =>
      obtain ⟨v, s⟩ := r
      have := ta_fits _ _ _ _ _ e
      rw [List.length_drop] at this
      simp [tr]
      omega
def sub (l : List Int) (a b : Int) : List Int := (l.take b.toNat).drop a.toNat
def tt (l : List Int) (a most : Int) : ByteArray × Int × Int :=
  if a < 0 ∨ a > l.length ∨ most < 0 then (⟨#[]⟩, 0, 1)
  else if (tu l a).2.2 ≠ 0 then (⟨#[]⟩, 0, (tu l a).2.2)
  else if (tu l a).1 > most then (⟨#[]⟩, 0, 3)
  else if (tu l a).1 > l.length - a - (tu l a).2.1 then (⟨#[]⟩, 0, 10)
  else (strOfNums (sub l (a + (tu l a).2.1) (a + (tu l a).2.1 + (tu l a).1)), (tu l a).2.1 + (tu l a).1, 0)
def ts (r : ByteArray × Int × Int) : Value := .tuple #[.string r.1, .int .i64 r.2.1, .int .i64 r.2.2]
set_option maxRecDepth 100000 in
theorem TakeText_bad (A : Option Addr) (c : Nat) (l : List Int) (a most : Int) (w : World) (hb : a < 0 ∨ (l.length : Int) < a ∨ most < 0) :
    Calls Try.prog 28 #[.slice A l.length c, .int .i64 a, .int .i64 most] w fun e w' => e = .returned (ts (⟨#[]⟩, 0, 1)) ∧ w = w' := by
  by_cases h1 : a < 0
  · clear hb
    go_enter Try.func28, Try.ntmps28
    go_wp2
    go_ret3
    exact ⟨rfl, rfl⟩
  · by_cases h2 : (l.length : Int) < a
    · clear hb
      go_enter Try.func28, Try.ntmps28
      go_wp2
      go_ret3
      exact ⟨rfl, rfl⟩
    · have h3 : most < 0 := by omega
      clear hb
      go_enter Try.func28, Try.ntmps28
      go_wp2
      go_ret3
      exact ⟨rfl, rfl⟩
set_option maxRecDepth 100000 in
theorem TakeText_good (A : Option Addr) (c : Nat) (l : List Int) (a most : Int) (w : World) (hr : Kd.C (Kd.int .u8) w A l.length l) (hc : l.length ≤ c) (hb : bytesOK l) (h0 : 0 ≤ a) (h1 : a ≤ (l.length : Int)) (h2 : 0 ≤ most) (h3 : most ≤ 9223372036854775807) (hmx : l.length ≤ 140737488351232) :
    Calls Try.prog 28 #[.slice A l.length c, .int .i64 a, .int .i64 most] w fun e w' => e = .returned (ts (tt l a most)) ∧ w = w' := by
  have L := TakeUint_calls A c l a w hr hc hb
  obtain ⟨u1, u2, u3, u4, u5⟩ := tu_rng l a hb
  have hf := tu_fits l a
  unfold tt
  rw [if_neg (by omega)]
  generalize tu l a = r at *
  obtain ⟨n, s, e⟩ := r
  simp only at *
  by_cases he : e = 0
  · subst he
    obtain ⟨f1, f2, f3⟩ := hf rfl
    clear hf u5
    rw [if_neg (by simp)]
    by_cases h4 : most < n
    · rw [if_pos (by omega)]
      go_enter Try.func28, Try.ntmps28
      go_wp2_with (go_at_call 17; refine L.mono ?_; rintro e w' ⟨rfl, rfl⟩)
      go_ret3
      exact ⟨rfl, rfl⟩
    · rw [if_neg (by omega)]
      by_cases h5 : (l.length : Int) - a - s < n
      · rw [if_pos (by omega)]
        go_enter Try.func28, Try.ntmps28
        go_wp2_with (go_at_call 17; refine L.mono ?_; rintro e w' ⟨rfl, rfl⟩)
        go_ret3
        exact ⟨rfl, rfl⟩
      · rw [if_neg (by omega)]
        obtain ⟨i0, hi0, _, hsz, _⟩ := info_parts info5
        obtain ⟨A', hcut, hA, _⟩ := print_mid_of (P := Try.prog) (Value.int .u8) (0 : Int) 22 5 .i64 .i64 Try.underlying22 hi0 hsz A c l (a + s) (a + s + n) (by omega) (by omega) (by omega) hc
        have cv := conv9 A' _ (c - (a + s).toNat) _ w (Kd.C_of_reads (h1 := fun _ => rfl) (hA w (Kd.reads_of_C hr)))
        have hl : (sub l (a + s) (a + s + n)).length = n.toNat := by
          unfold sub
          rw [List.length_drop, List.length_take]; omega
        change ∀ W, Sem.run Try.prog (Instr.slice 22 _ _ _ _) W = Result.ok (Value.slice A' (sub l (a + s) (a + s + n)).length _) W at hcut
        change Sem.run Try.prog (convert 22 9 (Value.slice A' (sub l (a + s) (a + s + n)).length _)) w = Result.ok (Value.string (strOfNums (sub l (a + s) (a + s + n)))) w at cv
        generalize sub l (a + s) (a + s + n) = m at *
        clear hr hb hA hl
        go_enter Try.func28, Try.ntmps28
        go_wp2_with (go_at_call 17; refine L.mono ?_; rintro e w' ⟨rfl, rfl⟩)
        go_ret3
        exact ⟨rfl, rfl⟩
  · rw [if_pos he]
    have he' : (e != 0) = true := by simp [he]
    clear hf u5
    go_enter Try.func28, Try.ntmps28
    go_wp2_with (go_at_call 17; refine L.mono ?_; rintro e w' ⟨rfl, rfl⟩)
    go_ret3
    exact ⟨rfl, rfl⟩
theorem TakeText_calls (A : Option Addr) (c : Nat) (l : List Int) (a most : Int) (w : World) (hr : Kd.C (Kd.int .u8) w A l.length l) (hc : l.length ≤ c) (hb : bytesOK l) (h3 : most ≤ 9223372036854775807) (hmx : l.length ≤ 140737488351232) :
    Calls Try.prog 28 #[.slice A l.length c, .int .i64 a, .int .i64 most] w fun e w' => e = .returned (ts (tt l a most)) ∧ w = w' := by
  by_cases h : a < 0 ∨ a > l.length ∨ most < 0
  · have e : tt l a most = (⟨#[]⟩, 0, 1) := by unfold tt; rw [if_pos h]
    rw [e]
    exact TakeText_bad A c l a most w h
  · exact TakeText_good A c l a most w hr hc hb (by omega) (by omega) (by omega) h3 hmx
set_option maxRecDepth 100000 in
theorem refTakeText_bad (A : Option Addr) (c : Nat) (l : List Int) (a most : Int) (w : World) (hb : a < 0 ∨ (l.length : Int) < a ∨ most < 0) :
    Calls Try.prog 29 #[.slice A l.length c, .int .i64 a, .int .i64 most] w fun e w' => e = .returned (ts (⟨#[]⟩, 0, 1)) ∧ w = w' := by
  by_cases h1 : a < 0
  · clear hb
    go_enter Try.func29, Try.ntmps29
    go_wp2
    go_ret3
    exact ⟨rfl, rfl⟩
  · by_cases h2 : (l.length : Int) < a
    · clear hb
      go_enter Try.func29, Try.ntmps29
      go_wp2
      go_ret3
      exact ⟨rfl, rfl⟩
    · have h3 : most < 0 := by omega
      clear hb
      go_enter Try.func29, Try.ntmps29
      go_wp2
      go_ret3
      exact ⟨rfl, rfl⟩
set_option maxRecDepth 100000 in
theorem refTakeText_good (A : Option Addr) (c : Nat) (l : List Int) (a most : Int) (w : World) (hr : Kd.C (Kd.int .u8) w A l.length l) (hc : l.length ≤ c) (hb : bytesOK l) (h0 : 0 ≤ a) (h1 : a ≤ (l.length : Int)) (h2 : 0 ≤ most) (h3 : most ≤ 9223372036854775807) (hmx : l.length ≤ 140737488351232) :
    Calls Try.prog 29 #[.slice A l.length c, .int .i64 a, .int .i64 most] w fun e w' => e = .returned (ts (tt l a most)) ∧ w = w' := by
  have L := refTakeUint_calls A c l a w hr hb hmx
  obtain ⟨u1, u2, u3, u4, u5⟩ := tu_rng l a hb
  have hf := tu_fits l a
  unfold tt
  rw [if_neg (by omega)]
  generalize tu l a = r at *
  obtain ⟨n, s, e⟩ := r
  simp only at *
  by_cases he : e = 0
  · subst he
    obtain ⟨f1, f2, f3⟩ := hf rfl
    clear hf u5
    rw [if_neg (by simp)]
    by_cases h4 : most < n
    · rw [if_pos (by omega)]
      go_enter Try.func29, Try.ntmps29
      go_wp2_with (go_at_call 18; refine L.mono ?_; rintro e w' ⟨rfl, rfl⟩)
      go_ret3
      exact ⟨rfl, rfl⟩
    · rw [if_neg (by omega)]
      by_cases h5 : (l.length : Int) - a - s < n
      · rw [if_pos (by omega)]
        go_enter Try.func29, Try.ntmps29
        go_wp2_with (go_at_call 18; refine L.mono ?_; rintro e w' ⟨rfl, rfl⟩)
        go_ret3
        exact ⟨rfl, rfl⟩
      · rw [if_neg (by omega)]
        obtain ⟨i0, hi0, _, hsz, _⟩ := info_parts info5
        obtain ⟨A', hcut, hA, _⟩ := print_mid_of (P := Try.prog) (Value.int .u8) (0 : Int) 22 5 .i64 .i64 Try.underlying22 hi0 hsz A c l (a + s) (a + s + n) (by omega) (by omega) (by omega) hc
        have cv := conv9 A' _ (c - (a + s).toNat) _ w (Kd.C_of_reads (h1 := fun _ => rfl) (hA w (Kd.reads_of_C hr)))
        have hl : (sub l (a + s) (a + s + n)).length = n.toNat := by
          unfold sub
          rw [List.length_drop, List.length_take]; omega
        change ∀ W, Sem.run Try.prog (Instr.slice 22 _ _ _ _) W = Result.ok (Value.slice A' (sub l (a + s) (a + s + n)).length _) W at hcut
        change Sem.run Try.prog (convert 22 9 (Value.slice A' (sub l (a + s) (a + s + n)).length _)) w = Result.ok (Value.string (strOfNums (sub l (a + s) (a + s + n)))) w at cv
        generalize sub l (a + s) (a + s + n) = m at *
        clear hr hb hA hl
        go_enter Try.func29, Try.ntmps29
        go_wp2_with (go_at_call 18; refine L.mono ?_; rintro e w' ⟨rfl, rfl⟩)
        go_ret3
        exact ⟨rfl, rfl⟩
  · rw [if_pos he]
    have he' : (e != 0) = true := by simp [he]
    clear hf u5
    go_enter Try.func29, Try.ntmps29
    go_wp2_with (go_at_call 18; refine L.mono ?_; rintro e w' ⟨rfl, rfl⟩)
    go_ret3
    exact ⟨rfl, rfl⟩
theorem refTakeText_calls (A : Option Addr) (c : Nat) (l : List Int) (a most : Int) (w : World) (hr : Kd.C (Kd.int .u8) w A l.length l) (hc : l.length ≤ c) (hb : bytesOK l) (h3 : most ≤ 9223372036854775807) (hmx : l.length ≤ 140737488351232) :
    Calls Try.prog 29 #[.slice A l.length c, .int .i64 a, .int .i64 most] w fun e w' => e = .returned (ts (tt l a most)) ∧ w = w' := by
  by_cases h : a < 0 ∨ a > l.length ∨ most < 0
  · have e : tt l a most = (⟨#[]⟩, 0, 1) := by unfold tt; rw [if_pos h]
    rw [e]
    exact refTakeText_bad A c l a most w h
  · exact refTakeText_good A c l a most w hr hc hb (by omega) (by omega) (by omega) h3 hmx
structure Tx where
  S : ByteArray
  A : Option Addr
  c : Nat
  l : List Int
  at_ : Int
  most : Int
def Tx.cells (x : Tx) : Array Value := #[.string x.S, .slice x.A x.l.length x.c, .int .i64 x.at_, .int .i64 x.most]
structure Tx.OK (w : World) (x : Tx) : Prop where
  s : x.S.size ≤ 140737488351232
  C : Kd.C (Kd.int .u8) w x.A x.l.length x.l
  c : x.l.length ≤ x.c
  b : bytesOK x.l
  m : x.l.length ≤ 140737488351232
  n1 : x.most ≤ 9223372036854775807
section
variable {H : Type} {enc : TypeId × Value → H} {w : World} {base : Nat} {spare : Nat → Bool} {held : Bool}
theorem open_texts {ts : List TypeId} {ds : List (DataW H)} (hsz : (DataW.weightsEach Try.prog ts ds).all (· ≤ reachBytes) = true) {j : Nat} {r : Reach} {b0 : Nat} {v : Value} {d : DataW H} {p : List MemPlace} (ht : ts[j]? = some 43) (hd : ds[j]? = some d)
    (hv : Value.okWide Try.prog w r b0 43 v) (h : DataW.Trod enc Try.prog w base spare held 43 v d p) : ∃ x : Tx, v = .agg x.cells ∧ x.OK w := by
  obtain ⟨cs, rfl, hc, hf⟩ := opens_param Try.underlying43 hv h (light_of hsz ht hd)
  have hc5 : cs.length = 4 := hc.trans (by kernel_rfl)
  match cs, hc5 with
  | [v0, v1, v2, v3], _ =>
    have f0 : FldAt enc Try.prog w base spare held [v0, v1, v2, v3] 9 0 := hf 0 _ rfl
    obtain ⟨n0, y0, t0, g0⟩ := f0
    have f1 : FldAt enc Try.prog w base spare held [v0, v1, v2, v3] 22 1 := hf 1 _ rfl
    obtain ⟨n1, y1, t1, g1⟩ := f1
    have f2 : FldAt enc Try.prog w base spare held [v0, v1, v2, v3] 3 2 := hf 2 _ rfl
    obtain ⟨n2, y2, t2, g2⟩ := f2
    have f3 : FldAt enc Try.prog w base spare held [v0, v1, v2, v3] 3 3 := hf 3 _ rfl
    obtain ⟨n3, y3, t3, g3⟩ := f3
    have k3 : Try.prog.cellsOf 3 = 1 := by kernel_rfl
    have k9 : Try.prog.cellsOf 9 = 1 := by kernel_rfl
    have k22 : Try.prog.cellsOf 22 = 1 := by kernel_rfl
    simp only [k3, k9, k22, List.drop_zero, List.drop_succ_cons, List.take_succ_cons, List.take_zero] at t0 t1 t2 t3
    obtain ⟨S, e0, w0⟩ := opens_string Try.underlying9 _ _ _ t0 g0
    obtain ⟨A, c, l, e1, q1, q2, q3, q4⟩ := bytes_field t1 g1
    obtain ⟨a, e2, w2⟩ := opens_int (k := .i64) Try.underlying3 _ _ _ t2 g2
    obtain ⟨m, e3, w3⟩ := opens_int (k := .i64) Try.underlying3 _ _ _ t3 g3
    cases e0; cases e1; cases e2; cases e3
    have b3 := bounds_i64 w3
    exact ⟨⟨S, A, c, l, a, m⟩, rfl, ⟨by simpa [reachBytes] using w0, q1, q2, q3, q4, b3.2⟩⟩
end
attribute [local go_sem] ts
set_option maxRecDepth 100000 in
theorem WireTexts_calls (x : Tx) (w : World) (hx : x.OK w) : Calls Try.prog 7 #[.agg x.cells] w fun e w' => e = .returned (.bool true) ∧ Below w.heap.size w w' := by
  obtain ⟨S, A, c, l, a, most⟩ := x
  obtain ⟨hs, hr, hc, hb, hmx, h3⟩ := hx
  simp only at *
  unfold Tx.cells
  have L1 := fun W (h : Below w.heap.size w W) => TakeText_calls A c l a most W (Kd.C_below hr h) hc hb h3 hmx
  have L2 := fun W (h : Below w.heap.size w W) => refTakeText_calls A c l a most W (Kd.C_below hr h) hc hb h3 hmx
  generalize tt l a most = r at *
  obtain ⟨t, s, e⟩ := r
  clear hr hc hb h3 hmx
  go_enter Try.func7, Try.ntmps7
  have hB : Below w.heap.size w (w.alloc (.cells #[.string S, .slice A l.length c, .int .i64 a, .int .i64 most] 43)) := (Below.refl _ w).alloc (Nat.le_refl _) _
  go_wp2_with (first | (go_at_call 28; refine (L1 _ hB).mono ?_; rintro e w' ⟨rfl, rfl⟩) | (go_at_call 29; refine (L2 _ hB).mono ?_; rintro e w' ⟨rfl, rfl⟩))
  obtain ⟨W, hW⟩ : ∃ W, W = (w.alloc (.cells #[.string S, .slice A l.length c, .int .i64 a, .int .i64 most] 43)) := ⟨_, rfl⟩
  have c0 : W.drew.cell? ⟨w.heap.size, 0, none⟩ = some (.string S) := by rw [hW]; simp [go_sem]
  rw [← hW] at hB ⊢
  clear hW L1 L2
  have hB : Below w.heap.size w W.drew := ⟨hB.os, hB.tape, hB.output, hB.size, hB.block⟩
  go_region_held3 (fun w' => w'.cell? ⟨w.heap.size, 0, none⟩ = some (.string S))
    (first | exact c0)
    (first | (go_at_call 14; (with_reducible refine (live_calls _).mono ?_); rintro e W1 ⟨rfl, H1⟩; have c0 := cell_below H1 c0) | (go_at_call 26; (with_reducible refine (Text_calls S _ hs).mono ?_); rintro e W2 ⟨v2, rfl, H2⟩; have c0 := cell_below H2.2 c0) | (go_at_call 30; (with_reducible refine (refText_calls S _ hs).mono ?_); rintro e W3 ⟨v3, rfl, H3⟩; have c0 := cell_below H3.2 c0) | (go_at_call 21; refine (Equal_fr (H2.later H3.2) H3 (text_ok _) (text_ok _)).mono ?_; rintro e W4 ⟨rfl, rfl⟩))
  go_wp2
  go_ret
  refine ⟨by simp, ?_⟩
  exact Below_trans (Below_trans (Below_trans hB H1) H2.2) H3.2
end Go.Proofs.Ytoeefamnglbakaa
