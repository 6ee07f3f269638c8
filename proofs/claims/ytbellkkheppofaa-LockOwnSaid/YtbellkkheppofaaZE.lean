import Derived.Test.YtbellkkheppofaaZD
namespace Go.Proofs.Ytbellkkheppofaa
open Go.RowKit Go.Maps Go.Sort Go.Lib Go.Proofs.YtbellkkheppofaaW.PrintWords Go.Proofs.YtbellkkheppofaaW.PrintLast Go.Proofs.YtbellkkheppofaaW.PrintMore
set_option linter.unusedVariables false
set_option linter.unusedSimpArgs false
set_option linter.unusedSectionVars false
set_option maxRecDepth 100000 in
theorem RNew_bad (most : Int) (w : World) (h : most < 1 ∨ 4096 < most) : Calls Try.prog 14 #[.int .i64 most] w fun e w' => e = .returned (.tuple #[.agg #[.bool false, .int .i64 0, .slice none 0 0], .int .i64 1]) ∧ Below w.heap.size w w' := by
  by_cases h1 : most < 1
  · go_enter Try.func14, Try.ntmps14
    go_wp2
    exact bodyPost_ret (v := .tuple #[.agg #[.bool false, .int .i64 0, .slice none 0 0], .int .i64 1]) (by simp [results, Try.results14, go_sem]) rfl ⟨rfl, (((Below.refl _ _).alloc (Nat.le_refl _) _))⟩
  · have h2 : 4096 < most := by omega
    go_enter Try.func14, Try.ntmps14
    go_wp2
    exact bodyPost_ret (v := .tuple #[.agg #[.bool false, .int .i64 0, .slice none 0 0], .int .i64 1]) (by simp [results, Try.results14, go_sem]) rfl ⟨rfl, (((Below.refl _ _).alloc (Nat.le_refl _) _))⟩
set_option maxRecDepth 100000 in
theorem RNew_calls (most : Int) (w : World) (h1 : 1 ≤ most) (h2 : most ≤ 4096) : Calls Try.prog 14 #[.int .i64 most] w fun e w' => e = .returned (.tuple #[.agg #[.bool true, .int .i64 most, .slice none 0 0], .int .i64 0]) ∧ Below w.heap.size w w' := by
  go_enter Try.func14, Try.ntmps14
  go_wp2
  exact bodyPost_ret (v := .tuple #[.agg #[.bool true, .int .i64 most, .slice none 0 0], .int .i64 0]) (by simp [results, Try.results14, go_sem]) rfl ⟨rfl, by first | exact ((Below.refl _ _).alloc (Nat.le_refl _) _) | exact ((((Below.refl _ _).alloc (Nat.le_refl _) _).setCell (by simp) _).setCell (by simp) _) | exact (((((Below.refl _ _).alloc (Nat.le_refl _) _).setCell (by simp) _).setCell (by simp) _).setCell (by simp) _)⟩
theorem made_both (w w1 : World) (p b : Nat) (most : Int) (h1 : 1 ≤ most) (h2 : most ≤ 4096) (hm : Mg w1 p b most []) (hB : w.heap.size ≤ w1.heap.size) :
    Both (w1.alloc (.cells #[.bool true, .int .i64 most, .slice none 0 0] 43)) w.heap.size p b w1.heap.size most [] :=
  ⟨hm.kept (World.grownBy_alloc _ _ none) (by simp) (by simp), ⟨.slice none 0 0, ⟨heap_alloc_new w1 _, Lo.nil _ _⟩⟩, by simp; omega, h2⟩
/-- the script under way -/
def DI (w : World) (br : Nat) (most : Int) (n : Nat) (pv iv : Value) (wr : World) : Prop :=
  ∃ (k p b : Nat) (L : List (Lk × Int)), k ≤ n ∧ iv = .int .i64 k ∧ pv = .pointer (some ⟨p, 0, none⟩) ∧ Both wr w.heap.size p b br most L ∧ w.heap.size ≤ b ∧ Below w.heap.size w wr
theorem Chg.under {w0 w w' : World} {b br : Nat} (h : Chg w w' b br) (hB : Below w0.heap.size w0 w) (hb : w0.heap.size ≤ b) (hr : w0.heap.size ≤ br) : Below w0.heap.size w0 w' :=
  ⟨h.os.trans hB.os, h.tape.trans hB.tape, h.output.trans hB.output, Nat.le_trans hB.size h.size, fun i hi => (h.block i (Nat.lt_of_lt_of_le hi hB.size) (by omega) (by omega)).trans (hB.block i hi)⟩
set_option maxHeartbeats 16000000 in
set_option maxRecDepth 100000 in
theorem LockDoes_calls (most : Int) (z : Scr) (w : World) (hm : (Lit.int .i64 most).wf = true) (hz : z.OK w) :
    Calls Try.prog 6 #[.int .i64 most, z.val] w fun e w' => e = .returned (.bool true) ∧ Below w.heap.size w w' := by
  obtain ⟨A, c, xs⟩ := z
  obtain ⟨hC, hx, _⟩ := hz
  unfold Scr.val
  dsimp only at hC hx ⊢
  by_cases hbad : most < 1 ∨ 4096 < most
  · go_enter Try.func6, Try.ntmps6
    go_wp2_with fail
    refine (New_bad most w hbad).mono ?_
    rintro e w1 ⟨rfl, rfl⟩
    go_wp2_with fail
    refine (RNew_bad most w hbad).mono ?_
    rintro e w2 ⟨rfl, B2⟩
    have B3 := below_alloc B2 (.cells #[.bool false, .int .i64 0, .slice none 0 0] 43)
    go_wp2_with fail
    refine (begun_calls _).mono ?_
    rintro e w4 ⟨rfl, B4⟩
    have B5 := below_then B3 B3.size B4
    go_wp2
    go_ret
    exact ⟨rfl, B5⟩
  have h1 : 1 ≤ most := by omega
  have h2 : most ≤ 4096 := by omega
  clear hbad
  go_enter Try.func6, Try.ntmps6
  go_wp2_with fail
  refine (New_calls most w h1 h2).mono ?_
  rintro e w1 ⟨rfl, M1, B1⟩
  have hp1 := World.block_lt_of_cell? _ _ M1.most
  have hwp : w.heap.size ≤ w.heap.size := Nat.le_refl _
  obtain ⟨b, hbb, hb0⟩ : ∃ b, b = w.heap.size ∧ w.heap.size ≤ b := ⟨_, rfl, Nat.le_refl _⟩
  rw [show Mg w1 (w.heap.size + 1) w.heap.size most [] = Mg w1 (w.heap.size + 1) b most [] by rw [hbb]] at M1
  clear hbb hwp hp1
  generalize w.heap.size + 1 = p at M1 ⊢
  go_wp2_with fail
  refine (RNew_calls most w1 h1 h2).mono ?_
  rintro e w2 ⟨rfl, B2⟩
  have M2 := M1.below B2
  have B3 := below_then B1 B1.size B2
  have BO := made_both w w2 p b most h1 h2 M2 B3.size
  have B4 := below_alloc B3 (.cells #[.bool true, .int .i64 most, .slice none 0 0] 43)
  have hbr := B3.size
  clear M1 B1 M2 B2 B3
  go_wp2_with fail
  generalize hw3 : w2.alloc (.cells #[.bool true, .int .i64 most, .slice none 0 0] 43) = w3 at BO B4 ⊢
  generalize hbrr : w2.heap.size = br at BO hbr ⊢
  clear hw3 hbrr
  refine (begun_calls _).mono ?_
  rintro e w4 ⟨rfl, B5⟩
  have BO4 := BO.keep (grown_of_below B5 none)
  have B6 := below_then B4 B4.size B5
  have hn := hC.2.1
  clear BO B4 B5
  go_wp2_with fail
  go_loopw [5, 40] (fun pv iv wr => DI w br most xs.length pv iv wr) (fun _ iv _ => xs.length - (intOf iv).toNat)
  case atStart => exact ⟨0, p, b, [], Nat.zero_le _, rfl, rfl, BO4, hb0, B6⟩
  case round =>
    clear BO4 B6 hb0
    obtain ⟨k, p, b, L, hk, rfl, rfl, BO, hb0, B6⟩ := hrel
    by_cases hlt : k < xs.length
    · obtain ⟨ad, cs, rfl, hcl, hcs, hcc⟩ := Kd.C_get (Kd.C_below hC B6) ⟨0, 0, 0, 0, (ByteArray.empty, ByteArray.empty), ByteArray.empty⟩ (k : Int) (by omega) (by omega)
      generalize haa : xs.getD (k : Int).toNat ⟨0, 0, 0, 0, (ByteArray.empty, ByteArray.empty), ByteArray.empty⟩ = x at hcs
      obtain rfl : cs = x.cells := hcs
      have hx1 : x.OK := by
        have hm : x ∈ xs := by
          rw [← haa, Int.toNat_natCast, List.getD_eq_getElem?_getD, List.getElem?_eq_getElem hlt]
          exact List.getElem_mem hlt
        exact hx _ hm
      obtain ⟨d, tx, snap, last, a, u⟩ := x
      have q0 : wr.cell? (ad.add (k * 7)) = some (.int .i64 d) := hcc 0 _ rfl
      have q1 : wr.cell? ⟨(ad.add (k * 7)).block, (ad.add (k * 7)).off + 1, none⟩ = some (.int .i64 tx) := by rw [← add_field _ _ _ (by omega)]; exact hcc 1 _ rfl
      have q2 : wr.cell? ⟨(ad.add (k * 7)).block, (ad.add (k * 7)).off + 2, none⟩ = some (.int .i64 snap) := by rw [← add_field _ _ _ (by omega)]; exact hcc 2 _ rfl
      have q3 : wr.cell? ⟨(ad.add (k * 7)).block, (ad.add (k * 7)).off + 3, none⟩ = some (.int .i64 last) := by rw [← add_field _ _ _ (by omega)]; exact hcc 3 _ rfl
      have q4 : wr.cell? ⟨(ad.add (k * 7)).block, (ad.add (k * 7)).off + 4, none⟩ = some (.string a.1) := by rw [← add_field _ _ _ (by omega)]; exact hcc 4 _ rfl
      have q5 : wr.cell? ⟨(ad.add (k * 7)).block, (ad.add (k * 7)).off + 5, none⟩ = some (.string a.2) := by rw [← add_field _ _ _ (by omega)]; exact hcc 5 _ rfl
      have q6 : wr.cell? ⟨(ad.add (k * 7)).block, (ad.add (k * 7)).off + 6, none⟩ = some (.string u) := by rw [← add_field _ _ _ (by omega)]; exact hcc 6 _ rfl
      clear hcc hcl haa
      obtain ⟨w6, hw6⟩ : ∃ w6, w6 = wr.alloc (.cells #[.int .i64 d, .int .i64 tx, .int .i64 snap, .int .i64 last, .string a.1, .string a.2, .string u] 32) := ⟨_, rfl⟩
      have g6 : wr.grownBy w6 none := by rw [hw6]; exact World.grownBy_alloc _ _ _
      have r0 : w6.heap[wr.heap.size]? = some (.cells #[.int .i64 d, .int .i64 tx, .int .i64 snap, .int .i64 last, .string a.1, .string a.2, .string u] 32 (0, 0)) := by rw [hw6]; exact heap_alloc_new wr _
      have BO6 := BO.keep g6
      have B7 : Below w.heap.size w w6 := B6.grown g6 B6.size (by simp)
      have hbw := BO.m.tab.lt
      have hbrw : br < wr.heap.size := by
        obtain ⟨v, r⟩ := BO.r
        exact (Array.getElem?_eq_some_iff.1 r.obj).1
      go_upto_region 10 with (fail)
      rw [← hw6]
      clear hw6 q0 q1 q2 q3 q4 q5 q6 g6 BO B6
      generalize wr.heap.size = bx at r0 hbw hbrw ⊢
      obtain ⟨s0, s1, s2, s3, s4, s5, s6⟩ := op_cells r0
      go_upto_if 46 with (fail)
      go_cut [5] (fun pv wx => ∃ p' b', pv = .pointer (some ⟨p', 0, none⟩) ∧ Both wx w.heap.size p' b' br most L ∧ w.heap.size ≤ b' ∧ Below w.heap.size w wx ∧ wx.heap[bx]? = some (.cells #[.int .i64 d, .int .i64 tx, .int .i64 snap, .int .i64 last, .string a.1, .string a.2, .string u] 32 (0, 0)))
      case first =>
        by_cases hd : d = 6
        · subst hd
          go_wp2_with fail
          refine (Clone_calls p b most L w6 BO6.m).mono ?_
          rintro e w7 ⟨p', b', rfl, M7, hp', hb', D7⟩
          have BO7 := BO6.keep (grown_of_below D7 none)
          have r7 := (D7.block _ (Array.getElem?_eq_some_iff.1 r0).1).trans r0
          have B8 := below_then B7 B7.size D7
          obtain ⟨s0, s1, s2, s3, s4, s5, s6⟩ := op_cells r7
          have hcap := BO6.cap
          have hlen := BO6.len
          have T := Take_any p b most L 99 0 0 a w7 BO7.m hx1.key (by decide) (by simp only [maxLen]; omega)
          have htl := tk_length most L 99 0 0 a hlen
          go_wp2_with fail
          refine T.mono ?_
          rintro e w8 ⟨rfl, M8, G8⟩
          have hbl6 := BO6.m.tab.lt
          have hxl6 := (Array.getElem?_eq_some_iff.1 r0).1
          have r8 := (G8.block bx (Array.getElem?_eq_some_iff.1 r7).1 (fun e => by injection e with e; omega)).trans r7
          obtain ⟨s0, s1, s2, s3, s4, s5, s6⟩ := op_cells r8
          have R := Release_calls p b most _ tx w8 M8 (by omega)
          go_wp2_with fail
          refine R.mono ?_
          rintro e w9 ⟨rfl, M9, G9⟩
          obtain ⟨v, rr⟩ := BO7.r
          obtain ⟨hpb, hbb, hvb⟩ := BO7.m.ne_rm rr
          have hpl : p < w6.heap.size := World.block_lt_of_cell? _ _ BO6.m.most
          have M7a := (M7.kept G8 (fun e => by injection e with e; omega) (fun e => by injection e with e; omega)).kept G9 (fun e => by injection e with e; omega) (fun e => by injection e with e; omega)
          have R9 := (rr.grown G8 (fun e => by injection e with e; exact hbb e) (fun k e e' => by injection e with e; exact hvb k e' e.symm)).grown G9 (fun e => by injection e with e; exact hbb e) (fun k e e' => by injection e with e; exact hvb k e' e.symm)
          have B9 := (B8.grown G8 B8.size (fun k e => by injection e with e; omega)).grown G9 (Nat.le_trans B8.size G8.size) (fun k e => by injection e with e; omega)
          have r9 := (G9.block bx (Array.getElem?_eq_some_iff.1 r8).1 (fun e => by injection e with e; omega)).trans r8
          go_wp2
          go_meet
          exact ⟨p', b', rfl, ⟨M7a, ⟨v, R9⟩, hlen, hcap⟩, by have := B7.size; omega, B9, r9⟩
        · have hd' : (d == 6) = false := by simpa using hd
          go_wp2
          go_meet
          exact ⟨p, b, rfl, BO6, hb0, B7, r0⟩
      case rest =>
        clear BO6 B7 r0 s0 s1 s2 s3 s4 s5 s6 hb0 hbw
        obtain ⟨p, b, rfl, BO6, hb0, B7, r0⟩ := hcut
        obtain ⟨s0, s1, s2, s3, s4, s5, s6⟩ := op_cells r0
        have ST := step_calls w.heap.size p b br most L ⟨d, tx, snap, last, a, u⟩ hx1 _ BO6 B7.size
        simp only [Op.cells] at ST
        go_wp2_with fail
        refine ST.mono ?_
        rintro e w8 ⟨rfl, BO8, C8⟩
        have B9 := C8.under B7 hb0 hbr
        go_wp2
        go_roundw
        case rel => exact ⟨k + 1, p, b, _, by omega, by go_num, rfl, BO8, hb0, B9⟩
        case measure => simp [intOf]; omega
    · obtain rfl : k = xs.length := by omega
      obtain ⟨v, r⟩ := BO.r
      obtain ⟨A', c', rfl, _, _⟩ := r.row.slice
      have o2 := r.c2
      have T1 := Len_calls p b most L wr.drew (BO.m.kept (drewG wr) (by simp) (by simp))
      have BD := B6.grown (drewG wr) B6.size (by simp)
      go_wp2_with fail
      go_region_held3 (fun W => W.cell? ⟨br, 2, none⟩ = some (.slice A' L.length c'))
        (exact o2)
        ((go_at_call 12; refine T1.mono ?_; rintro e w2 ⟨rfl, rfl⟩))
      go_wp2
      go_ret
      exact ⟨by simp, BD⟩
end Go.Proofs.Ytbellkkheppofaa
