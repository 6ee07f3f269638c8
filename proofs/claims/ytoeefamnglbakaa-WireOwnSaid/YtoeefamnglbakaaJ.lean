import Derived.Test.YtoeefamnglbakaaI
import Derived.Test.YtoeefamnglbakaaRows
namespace Go.Proofs.Ytoeefamnglbakaa
open Go.RowKit Go.Proofs.YtoeefamnglbakaaW.PrintWords Go.Proofs.YtoeefamnglbakaaW.PrintLast Go.Proofs.YtoeefamnglbakaaW.PrintMore
set_option linter.unusedVariables false
set_option linter.unusedSimpArgs false
attribute [local go_sem] t3 ts
theorem TakeUint_fr {w W : World} {v : Value} {xs : List Int} (h : Fr w W v xs) (b : bytesOK xs) (a : Int) : Calls Try.prog 17 #[v, .int .i64 a] W fun e w' => e = .returned (t3 .u64 .i64 .i64 (tu xs a)) ∧ W = w' := by
  obtain ⟨A, c, rfl, hc, k⟩ := h.reads
  exact TakeUint_calls A c xs a W k hc b
theorem TakeInt_fr {w W : World} {v : Value} {xs : List Int} (h : Fr w W v xs) (b : bytesOK xs) (a : Int) : Calls Try.prog 19 #[v, .int .i64 a] W fun e w' => e = .returned (t3 .i64 .i64 .i64 (ti xs a)) ∧ W = w' := by
  obtain ⟨A, c, rfl, hc, k⟩ := h.reads
  exact TakeInt_calls A c xs a W k hc b
theorem TakeText_fr {w W : World} {v : Value} {xs : List Int} (h : Fr w W v xs) (b : bytesOK xs) (a m : Int) (hm : m ≤ 9223372036854775807) (hx : xs.length ≤ 140737488351232) : Calls Try.prog 28 #[v, .int .i64 a, .int .i64 m] W fun e w' => e = .returned (ts (tt xs a m)) ∧ W = w' := by
  obtain ⟨A, c, rfl, hc, k⟩ := h.reads
  exact TakeText_calls A c xs a m W k hc b hm hx
theorem TakeFrame_fr {w W : World} {v : Value} {xs : List Int} (h : Fr w W v xs) (b : bytesOK xs) (a : Int) (hx : xs.length ≤ 140737488351232) : Calls Try.prog 34 #[v, .int .i64 a] W (TfOut W (tf xs a)) := by
  obtain ⟨A, c, rfl, hc, k⟩ := h.reads
  exact TakeFrame_calls A c xs a W k hc b hx
set_option maxHeartbeats 2000000 in
set_option maxRecDepth 100000 in
theorem WireBack_go (u : Nat) (N : Int) (S : ByteArray) (A3 A4 : Option Addr) (c3 c4 : Nat) (l3 l4 : List Int) (w : World) (hu : u < 18446744073709551616) (n0 : -9223372036854775808 ≤ N) (n1 : N ≤ 9223372036854775807)
    (C3 : Kd.C (Kd.int .u8) w A3 l3.length l3) (hc3 : l3.length ≤ c3) (b3 : bytesOK l3) (C4 : Kd.C (Kd.int .u8) w A4 l4.length l4) (b4 : bytesOK l4) (hs : S.size ≤ 1048576) (h3 : l3.length ≤ 1048576) (h4 : l4.length ≤ 1048576) :
    Calls Try.prog 12 #[.agg #[.int .u64 (u : Int), .int .i64 N, .string S, .slice A3 l3.length c3, .slice A4 l4.length c4]] w fun e w' => e = .returned (.bool true) ∧ Below w.heap.size w w' := by
  go_enter Try.func12, Try.ntmps12
  go_wp2_with fail
  obtain ⟨W, hW⟩ : ∃ W, W = (w.alloc (.cells #[.int .u64 (u : Int), .int .i64 N, .string S, .slice A3 l3.length c3, .slice A4 l4.length c4] 39)) := ⟨_, rfl⟩
  have k0 : W.drew.cell? ⟨w.heap.size, 0, none⟩ = some (.int .u64 (u : Int)) := by rw [hW]; simp [go_sem]
  have k1 : W.drew.cell? ⟨w.heap.size, 1, none⟩ = some (.int .i64 N) := by rw [hW]; simp [go_sem]
  have k2 : W.drew.cell? ⟨w.heap.size, 2, none⟩ = some (.string S) := by rw [hW]; simp [go_sem]
  have k3 : W.drew.cell? ⟨w.heap.size, 3, none⟩ = some (.slice A3 l3.length c3) := by rw [hW]; simp [go_sem]
  have k4 : W.drew.cell? ⟨w.heap.size, 4, none⟩ = some (.slice A4 l4.length c4) := by rw [hW]; simp [go_sem]
  have hB : Below w.heap.size w W := by rw [hW]; exact below_alloc (Below.refl _ _) _
  have hB : Below w.heap.size w W.drew := ⟨hB.os, hB.tape, hB.output, hB.size, hB.block⟩
  rw [← hW]
  go_region_held3 (fun w' => w'.cell? ⟨w.heap.size, 0, none⟩ = some (.int .u64 (u : Int)) ∧ w'.cell? ⟨w.heap.size, 1, none⟩ = some (.int .i64 N) ∧ w'.cell? ⟨w.heap.size, 2, none⟩ = some (.string S) ∧ w'.cell? ⟨w.heap.size, 3, none⟩ = some (.slice A3 l3.length c3) ∧ w'.cell? ⟨w.heap.size, 4, none⟩ = some (.slice A4 l4.length c4))
    (first | exact ⟨k0, k1, k2, k3, k4⟩) (first | fail)
  clear k0 k1 k2 k3 k4 hW
  generalize W.drew = W0 at *
  have hs' : (S.size : Int) ≤ 1048576 := by omega
  have h3' : (l3.length : Int) ≤ 1048576 := by omega
  go_wp2_with (go_at_call 14; refine (live_calls _).mono ?_; rintro e W1 ⟨rfl, H1⟩; have B1 := Below_trans hB H1)
  have D4 := Kd.C_below C4 B1
  have lu := ub_len10 u hu
  have lz := ub_len10 (zu N) (zu_lt N n0 n1)
  have lt : (text S).length = (ub S.size).length + S.size := by unfold text; rw [List.length_append, bytesOf_length]
  have ls := ub_len10 S.size (by omega)
  have lf : (fr l3).1.length ≤ 8 + l3.length := by
    unfold fr
    split
    · simp
    · simp [w4]; omega
  have ef : (fr l3).2 = 0 := by unfold fr; rw [if_neg (by omega)]
  go_wp2_with fail
  refine (Uint_calls u _ hu).mono ?_
  rintro e W2 ⟨v2, rfl, H2⟩
  have D4 := Kd.C_below D4 H2.2
  have B2 := Below_trans B1 H2.2
  have z2 : (ub u).length + l4.length ≤ 140737488355328 := by omega
  go_wp2_with (at_builtin; refine appR rfl rfl rfl rfl H2 D4 z2 ?_; intro v3 W3 H3 _)
  have D4 := Kd.C_below C4 (Below_trans B1 H3.2)
  have L := TakeUint_fr H3 (bytesOK_append (ub_ok u) b4) 0
  rw [tu_ub u l4 hu] at L
  refine L.mono ?_
  rintro e _ ⟨rfl, rfl⟩
  have B3 := Below_trans B1 H3.2
  go_wp2_with fail
  refine (Uint_calls u _ hu).mono ?_
  rintro e W4 ⟨v4, rfl, H4⟩
  obtain ⟨A4', c4', rfl, _, _⟩ := H4.reads
  have B4 := Below_trans B3 H4.2
  go_wp2_with fail
  refine (Int_calls N _ n0 n1).mono ?_
  rintro e W5 ⟨v5, rfl, H5⟩
  have B5 := Below_trans B4 H5.2
  have D4 := Kd.C_below C4 B5
  have z5 : (ub (zu N)).length + l4.length ≤ 140737488355328 := by omega
  go_wp2_with (at_builtin; refine appR rfl rfl rfl rfl H5 D4 z5 ?_; intro v6 W6 H6 _)
  have L := TakeInt_fr H6 (bytesOK_append (ub_ok _) b4) 0
  rw [ti_ub N l4 n0 n1] at L
  refine L.mono ?_
  rintro e _ ⟨rfl, rfl⟩
  have B6 := Below_trans B4 H6.2
  go_wp2_with fail
  refine (Int_calls N _ n0 n1).mono ?_
  rintro e W7 ⟨v7, rfl, H7⟩
  obtain ⟨A7', c7', rfl, _, _⟩ := H7.reads
  have B7 := Below_trans B6 H7.2
  go_wp2_with fail
  refine (Text_calls S _ (by omega)).mono ?_
  rintro e W8 ⟨v8, rfl, H8⟩
  have B8 := Below_trans B7 H8.2
  have D4 := Kd.C_below C4 B8
  have z8 : (text S).length + l4.length ≤ 140737488355328 := by omega
  go_wp2_with (at_builtin; refine appR rfl rfl rfl rfl H8 D4 z8 ?_; intro v9 W9 H9 _)
  have L := TakeText_fr H9 (bytesOK_append (text_ok _) b4) 0 S.size (by omega) (by rw [List.length_append]; omega)
  rw [tt_text S l4 (by omega)] at L
  refine L.mono ?_
  rintro e _ ⟨rfl, rfl⟩
  have B9 := Below_trans B7 H9.2
  go_wp2_with fail
  refine (Text_calls S _ (by omega)).mono ?_
  rintro e W10 ⟨v10, rfl, H10⟩
  obtain ⟨A10, c10, rfl, _, _⟩ := H10.reads
  have B10 := Below_trans B9 H10.2
  go_wp2_with fail
  refine (Frame_calls A3 c3 l3 _ (Kd.C_below C3 B10) b3 (by omega)).mono ?_
  rintro e W11 ⟨v11, rfl, H11⟩
  rw [ef]
  have B11 := Below_trans B10 H11.2
  have D4 := Kd.C_below C4 B11
  have z11 : (fr l3).1.length + l4.length ≤ 140737488355328 := by omega
  go_wp2_with (at_builtin; refine appR rfl rfl rfl rfl H11 D4 z11 ?_; intro v12 W12 H12 _)
  have L := TakeFrame_fr H12 (bytesOK_append (fr_ok _ b3) b4) 0 (by rw [List.length_append]; omega)
  rw [tf_fr l3 l4 b3 h3] at L
  refine L.mono ?_
  rintro e W13 ⟨v13, rfl, H13⟩
  have B12 := Below_trans B10 H12.2
  have B13 := Below_trans B12 H13.2
  obtain ⟨A13, c13, rfl, _, K13⟩ := H13.reads
  have LE := Equal_calls A13 A3 c13 c3 l3 l3 W13 K13 (Kd.C_below C3 B13) b3 b3
  go_wp2_with (go_at_call 21; refine LE.mono ?_; rintro e w' ⟨rfl, rfl⟩)
  go_ret
  exact ⟨by simp, B13⟩
/-! ### the bulk of an argument -/
theorem bulk_mem {H : Type} : ∀ {l : List (DataW H)} {d : DataW H}, d ∈ l → Rows.uptoBulk d ≤ Rows.uptoBulkAll l
  | x :: l, d, h => by
    simp only [Rows.uptoBulkAll]
    rcases List.mem_cons.1 h with rfl | h
    · omega
    · have := bulk_mem h; omega
theorem bulk_count {H : Type} : ∀ (l : List (DataW H)), l.length ≤ Rows.uptoBulkAll l
  | [] => Nat.zero_le _
  | d :: l => by
    have h := bulk_count l
    have h1 : 1 ≤ Rows.uptoBulk d := by
      cases d with
      | lit l => cases l <;> simp [Rows.uptoBulk]
      | nil => simp [Rows.uptoBulk]
      | ptr d => simp [Rows.uptoBulk]
      | slice elems spare => simp [Rows.uptoBulk]
      | agg parts => simp [Rows.uptoBulk]
      | iface t d => simp [Rows.uptoBulk]
      | map entries => simp [Rows.uptoBulk]
      | held h => simp [Rows.uptoBulk]
    simp only [Rows.uptoBulkAll, List.length_cons]
    omega
section
variable {H : Type} {enc : TypeId × Value → H} {w : World} {base : Nat} {spare : Nat → Bool} {held : Bool}
theorem bulk_str {n : Nat} {s : ByteArray} {y : DataW H × List MemPlace} (h : DataW.trod enc Try.prog w base spare held n 9 [.string s] = some y) : s.size ≤ Rows.uptoBulk y.1 := by
  obtain ⟨t, e, rfl, _⟩ := DataW.trod_string Try.underlying9 h
  cases e
  simp only [Rows.uptoBulk, Array.length_toList]
  exact Nat.le_succ _
theorem bulk_bytes {n : Nat} {A : Option Addr} {len c : Nat} {y : DataW H × List MemPlace} (h : DataW.trod enc Try.prog w base spare held n 22 [.slice A len c] = some y) : len ≤ Rows.uptoBulk y.1 := by
  rcases Go.Deep.open_slice Try.underlying22 h with ⟨e, _⟩ | ⟨a, len', cap, m, n, D, Pl, e, _, _, _, _, rfl, _⟩
  · cases e; exact Nat.zero_le _
  · cases e
    have := bulk_count ((List.range len).map D)
    simp only [List.length_map, List.length_range] at this
    simp only [Rows.uptoBulk]
    omega
theorem bulk_things (x : Th) {d : DataW H} {p : List MemPlace} (h : DataW.Trod enc Try.prog w base spare held 39 (.agg x.cells) d p) (hd : Rows.uptoBulk d ≤ 1048576) : x.S.size ≤ 1048576 ∧ x.l3.length ≤ 1048576 ∧ x.l4.length ≤ 1048576 := by
  obtain ⟨fuel, hf⟩ := h
  obtain ⟨xs, n, _, e, hc, hxl, hg⟩ := DataW.trod_struct Try.underlying39 hf
  injection e with e1 e2
  subst e1
  have key : ∀ (i : Nat) (f : Field), (#[{ name := "U", type := 27, offset := 0, embedded := false, tag := "", pkgPath := "", byteOffset := 0 }, { name := "N", type := 2, offset := 1, embedded := false, tag := "", pkgPath := "", byteOffset := 8 }, { name := "S", type := 9, offset := 2, embedded := false, tag := "", pkgPath := "", byteOffset := 16 }, { name := "B", type := 22, offset := 3, embedded := false, tag := "", pkgPath := "", byteOffset := 32 }, { name := "Behind", type := 22, offset := 4, embedded := false, tag := "", pkgPath := "", byteOffset := 56 }] : Array Field)[i]? = some f →
      ∃ y, DataW.trod enc Try.prog w base spare held n f.type ((x.cells.toList.drop f.offset).take (Try.prog.cellsOf f.type)) = some y ∧ Rows.uptoBulk y.1 ≤ 1048576 := by
    intro i f hi
    have hlt : i < xs.length := by rw [hxl]; exact (Array.getElem?_eq_some_iff.1 hi).1
    have h1 := hg i f hi
    rw [List.getElem?_eq_getElem hlt] at h1
    refine ⟨_, h1, ?_⟩
    have : Rows.uptoBulk (xs[i]).1 ≤ Rows.uptoBulkAll (xs.map (·.1)) := bulk_mem (List.mem_map.2 ⟨_, List.getElem_mem hlt, rfl⟩)
    simp only [Rows.uptoBulk] at hd
    omega
  have k9 : Try.prog.cellsOf 9 = 1 := by kernel_rfl
  have k22 : Try.prog.cellsOf 22 = 1 := by kernel_rfl
  have f2 : ∃ y, DataW.trod enc Try.prog w base spare held n 9 ((x.cells.toList.drop 2).take (Try.prog.cellsOf 9)) = some y ∧ Rows.uptoBulk y.1 ≤ 1048576 := key 2 _ rfl
  have f3 : ∃ y, DataW.trod enc Try.prog w base spare held n 22 ((x.cells.toList.drop 3).take (Try.prog.cellsOf 22)) = some y ∧ Rows.uptoBulk y.1 ≤ 1048576 := key 3 _ rfl
  have f4 : ∃ y, DataW.trod enc Try.prog w base spare held n 22 ((x.cells.toList.drop 4).take (Try.prog.cellsOf 22)) = some y ∧ Rows.uptoBulk y.1 ≤ 1048576 := key 4 _ rfl
  obtain ⟨y2, t2, g2⟩ := f2
  obtain ⟨y3, t3, g3⟩ := f3
  obtain ⟨y4, t4, g4⟩ := f4
  rw [k9] at t2
  rw [k22] at t3 t4
  have a2 := bulk_str (s := x.S) t2
  have a3 := bulk_bytes (A := x.A3) (c := x.c3) t3
  have a4 := bulk_bytes (A := x.A4) (c := x.c4) t4
  omega
end
theorem WireBack_calls (x : Th) (w : World) (hx : x.OK w) (hb : x.S.size ≤ 1048576 ∧ x.l3.length ≤ 1048576 ∧ x.l4.length ≤ 1048576) :
    Calls Try.prog 12 #[.agg x.cells] w fun e w' => e = .returned (.bool true) ∧ Below w.heap.size w w' := by
  obtain ⟨U, N, S, A3, c3, l3, A4, c4, l4⟩ := x
  have a0 := hx.u0
  have a1 := hx.u1
  simp only at *
  obtain ⟨u, rfl⟩ := Int.eq_ofNat_of_zero_le a0
  exact WireBack_go u N S A3 A4 c3 c4 l3 l4 w (by omega) hx.n0 hx.n1 hx.C3 hx.c3 hx.b3 hx.C4 hx.b4 hb.1 hb.2.1 hb.2.2
end Go.Proofs.Ytoeefamnglbakaa
