/- Cut by a program out of the seat's texts (VI): what the theorem needs, one behind the other. -/
import Derived.Test.YthaoedfalkebbaaGreatPCU
namespace Go.Proofs.YthaoedfalkebbaaGreat
open Go.RowKit Go.Maps Go.Sort Go.Lib Go.Shelf Go.Proofs.YthaoedfalkebbaaGreatW.PrintWords Go.Proofs.YthaoedfalkebbaaGreatW.PrintLast Go.Proofs.YthaoedfalkebbaaGreatW.PrintMore
set_option linter.unusedVariables false
set_option linter.unusedSimpArgs false
set_option linter.unusedSectionVars false
theorem Lw.of {w3 wr : World} {b q p : Nat} {U : Nat → Prop} {rv : Value} {W : Wld St} (h : Lw w3 b q p U rv W wr) (hl : W.list.length ≤ 2000000000000) (tx : Int) : Calls Tryz.prog 23 #[ptr q, .int .i64 tx] wr fun e w2 => e = .returned (.int .i64 (ofR W.list tx)) ∧ Below wr.heap.size wr w2 := by
  obtain ⟨F', vv, lv, xl, H, kp⟩ := h
  have := of_calls b q lv xl tx wr H.cell.2.2.2.1 H.list (by rw [← List.length_map (f := (·.1)), H.fst]; omega) H.slices
  rw [H.fst] at this
  exact this
set_option maxHeartbeats 16000000 in
set_option maxRecDepth 100000 in
theorem SsiAlone_no (c : Cp) (z : Scp) (w : World) (h : mayC c = false) : Calls Tryz.prog 6 #[.agg c.cells, z.val] w fun e w' => e = .returned (.bool true) ∧ Below w.heap.size w w' := by
  obtain ⟨w1, hw1⟩ : ∃ w1, w1 = w.alloc (.cells c.cells 31) := ⟨_, rfl⟩
  have B1 : Below w.heap.size w w1 := by rw [hw1]; exact allocB w _
  have SN := fun W => start_no c z W h
  have MN := fun W => mayC_calls c W h
  obtain ⟨ac, kp, rd, lk⟩ := c
  unfold Cp.cells at hw1 SN MN ⊢
  dsimp only at hw1 SN MN ⊢
  have ob1 : w1.heap[w.heap.size]? = some (.cells #[.int .i64 ac, .int .i64 kp, .int .i64 rd, .int .i64 lk] 31 (0, 0)) := by rw [hw1]; exact heap_alloc_new w _
  have x0 := cell_of_row w1 _ 0 _ 31 (0, 0) ob1
  have x1 := cell_of_row w1 _ 1 _ 31 (0, 0) ob1
  have x2 := cell_of_row w1 _ 2 _ 31 (0, 0) ob1
  have x3 := cell_of_row w1 _ 3 _ 31 (0, 0) ob1
  have CEL : ∀ V, Below w1.heap.size w1 V → V.cell? ⟨w.heap.size, 0, none⟩ = some (.int .i64 ac) ∧ V.cell? ⟨w.heap.size, 1, none⟩ = some (.int .i64 kp) ∧ V.cell? ⟨w.heap.size, 2, none⟩ = some (.int .i64 rd) ∧ V.cell? ⟨w.heap.size, 3, none⟩ = some (.int .i64 lk) := fun V B => ⟨below_cell B x0, below_cell B x1, below_cell B x2, below_cell B x3⟩
  replace CEL := Aside0.mk CEL
  replace B1 := Aside0.mk B1
  replace SN := Aside0.mk SN
  replace MN := Aside0.mk MN
  clear ob1 h x0 x1 x2 x3
  unfold Scp.val at SN ⊢
  go_enter Tryz.func6, Tryz.ntmps6
  go_upto_region 1 with (fail)
  rw [← hw1]
  clear hw1
  go_wp2_with (go_at_call 11; refine (begun_calls w1).mono ?_; rintro e w2 ⟨rfl, B2⟩; obtain ⟨x0, x1, x2, x3⟩ := CEL.out w2 B2; have SNw := SN.out w2)
  go_upto_region 4 with (go_at_call 17; refine SNw.mono ?_; rintro e w3 ⟨rfl, B3⟩)
  have B13 := below_then B2 B2.size B3
  clear x0 x1 x2 x3
  obtain ⟨x0, x1, x2, x3⟩ := CEL.out w3 B13
  have SN3 := SN.out w3
  go_upto_region 6 with (go_at_call 17; refine SN3.mono ?_; rintro e w4 ⟨rfl, B4⟩)
  have B14 := below_then B13 B13.size B4
  clear x0 x1 x2 x3
  obtain ⟨x0, x1, x2, x3⟩ := CEL.out w4 B14
  have MNw := MN.out w4
  go_wp2_with (go_at_call 18; refine MNw.mono ?_; rintro e w5 ⟨rfl, B5⟩)
  go_ret
  exact ⟨rfl, below_then (below_then B1.out B1.out.size B14) (below_then B1.out B1.out.size B14).size B5⟩
set_option maxHeartbeats 32000000 in
set_option maxRecDepth 100000 in
theorem SsiAlone_go (c : Cp) (z : Scp) (w : World) (hz : z.OK w) (hn : z.xs.length ≤ 524288) (h : mayC c = true) : Calls Tryz.prog 6 #[.agg c.cells, z.val] w fun e w' => e = .returned (.bool true) ∧ Below w.heap.size w w' := by
  obtain ⟨w1, hw1⟩ : ∃ w1, w1 = w.alloc (.cells c.cells 31) := ⟨_, rfl⟩
  have B1 : Below w.heap.size w w1 := by rw [hw1]; exact allocB w _
  have SY := fun W (B : Below w.heap.size w W) => start_calls (UpFrom W.heap.size) c z W (top_up W) ⟨Kd.C_below hz.reads B, hz.ops, hz.len⟩ h
  obtain ⟨A, cz, xs⟩ := z
  obtain ⟨hC, hops, hlen⟩ := hz
  have A0 := AlI.start h xs
  have U0 := UnI.start h xs
  unfold Scp.val at SY ⊢
  dsimp only at hC hops hn SY ⊢
  have cc : c.cells = #[.int .i64 c.active, .int .i64 c.kept, .int .i64 c.reads, .int .i64 c.locks] := rfl
  rw [cc] at hw1 SY ⊢
  have ob1 : w1.heap[w.heap.size]? = some (.cells #[.int .i64 c.active, .int .i64 c.kept, .int .i64 c.reads, .int .i64 c.locks] 31 (0, 0)) := by rw [hw1]; exact heap_alloc_new w _
  have x0 := cell_of_row w1 _ 0 _ 31 (0, 0) ob1
  have x1 := cell_of_row w1 _ 1 _ 31 (0, 0) ob1
  have x2 := cell_of_row w1 _ 2 _ 31 (0, 0) ob1
  have x3 := cell_of_row w1 _ 3 _ 31 (0, 0) ob1
  have CEL : ∀ V, Below w1.heap.size w1 V → V.cell? ⟨w.heap.size, 0, none⟩ = some (.int .i64 c.active) ∧ V.cell? ⟨w.heap.size, 1, none⟩ = some (.int .i64 c.kept) ∧ V.cell? ⟨w.heap.size, 2, none⟩ = some (.int .i64 c.reads) ∧ V.cell? ⟨w.heap.size, 3, none⟩ = some (.int .i64 c.locks) := fun V B => ⟨below_cell B x0, below_cell B x1, below_cell B x2, below_cell B x3⟩
  replace CEL := Aside0.mk CEL
  replace B1 := Aside0.mk B1
  replace SY := Aside0.mk SY
  replace A0 := Aside0.mk A0
  replace U0 := Aside0.mk U0
  replace hC := Aside0.mk hC
  replace hops := Aside0.mk hops
  replace cc := Aside0.mk cc
  clear ob1 hlen x0 x1 x2 x3
  go_enter Tryz.func6, Tryz.ntmps6
  go_upto_region 1 with (fail)
  rw [← hw1]
  clear hw1
  go_wp2_with (go_at_call 11; refine (begun_calls w1).mono ?_; rintro e w2 ⟨rfl, B2⟩; obtain ⟨x0, x1, x2, x3⟩ := CEL.out w2 B2)
  have B12 := below_then B1.out B1.out.size B2
  have SYw := SY.out w2 B12
  go_upto_region 4 with (go_at_call 17; refine SYw.mono ?_; rintro e w3 ⟨q, p, rv, rfl, H3, B3⟩)
  clear x0 x1 x2 x3
  have B13 := below_then B2 B2.size B3
  obtain ⟨x0, x1, x2, x3⟩ := CEL.out w3 B13
  have B03 := below_then B1.out B1.out.size B13
  have SY3 := SY.out w3 B03
  go_upto_region 7 with (go_at_call 17; refine SY3.mono ?_; rintro e w4 ⟨q2, p2, rv2, rfl, H4, B4⟩)
  clear x0 x1 x2 x3
  have B24 := below_then B3 B3.size B4
  obtain ⟨Uw, hUw⟩ : ∃ Uw : Nat → Prop, Uw = fun k => (w2.heap.size ≤ k ∧ k < w3.heap.size) ∨ w4.heap.size ≤ k := ⟨_, rfl⟩
  have Uwle : ∀ k, Uw k → w2.heap.size ≤ k := fun k hk => by
    rw [hUw] at hk
    have := B24.size
    rcases hk with hk | hk <;> omega
  have L0 : Lw w4 w2.heap.size q p Uw rv (W0 c xs) w4 := ⟨F0, _, _, _, H3.beside (O := fun _ => False) (Fr.ofBelow B4) (fun _ ho => ho.elim) (fun k h1 h2 => by rw [hUw]; exact .inl ⟨h1, h2⟩) (fun k hk => by rw [hUw]; exact .inr hk), Fr.refl _ _, fun k c e s h _ => h⟩
  have AH : ∀ {W V}, Lw w4 w2.heap.size q p Uw rv W V → Below w.heap.size w V := fun hL => by
    have b := hL.ahead B24.size Uwle
    have b2 := below_then B12 B12.size B24
    exact ⟨b.os.trans b2.os, b.tape.trans b2.tape, b.output.trans b2.output, by have := b.size; have := b2.size; omega, fun k hk => (b.block k (by have := B12.size; omega)).trans (b2.block k hk)⟩
  have AH2 : ∀ {Ux : Nat → Prop} {wx V : World} {W : Wld St}, Below w.heap.size w wx → w.heap.size ≤ w3.heap.size → (∀ k, Ux k → w3.heap.size ≤ k) → w3.heap.size ≤ wx.heap.size → Lw wx w3.heap.size q2 p2 Ux rv2 W V → Below w.heap.size w V := fun b2 hs hu hx hL => by
    have b := hL.ahead hx hu
    exact ⟨b.os.trans b2.os, b.tape.trans b2.tape, b.output.trans b2.output, by have := b.size; have := b2.size; omega, fun k hk => (b.block k (by omega)).trans (b2.block k hk)⟩
  have h03 := B03.size
  replace AH := Aside0.mk @AH
  replace AH2 := Aside0.mk @AH2
  replace H4 := Aside0.mk H4
  replace hUw := Aside0.mk hUw
  replace B24 := Aside0.mk B24
  replace B12 := Aside0.mk B12
  replace B4 := Aside0.mk B4
  replace h03 := Aside0.mk h03
  clear H3 SYw SY3 B2 B3 B13 B03 SY Uwle
  go_wp2_with fail
  go_loopw [9, 40] (fun tv iv wr => ∃ (k : Nat) (W : Wld St) (tx : Int) (s : Nat), k ≤ xs.length ∧ iv = .int .i64 k ∧ tv = .int .i64 tx ∧ s ≤ 2 * k ∧ AlI c xs.length W tx s ∧ Lw w4 w2.heap.size q p Uw rv W wr) (fun _ iv _ => xs.length - (intOf iv).toNat)
  case atStart => exact ⟨0, _, 0, 0, Nat.zero_le _, rfl, rfl, Nat.zero_le _, A0.out, L0⟩
  case round =>
    clear L0
    obtain ⟨k, W, tx, s, hk, rfl, rfl, hs, hA, hL⟩ := hrel
    by_cases hkl : k < xs.length
    · have C := Kd.C_below hC.out (AH.out hL)
      obtain ⟨ad, rfl, z0, z1, z2, z3, z4, z5⟩ := opn_at C k hkl
      have hox := hops.out _ (List.getElem_mem hkl)
      obtain ⟨W4, hW4⟩ : ∃ W4, W4 = wr.alloc (boxOn xs[k]) := ⟨_, rfl⟩
      have B4' : Below wr.heap.size wr W4 := by rw [hW4]; exact allocB wr _
      have ob4 : W4.heap[wr.heap.size]? = some (boxOn xs[k]) := by rw [hW4]; exact heap_alloc_new wr _
      have hL4 := hL.below B4'
      have hLk := Aside0.mk hL
      have B4k := Aside0.mk B4'
      unfold boxOn at hW4
      generalize xs[k] = o at z0 z1 z2 z3 z4 z5 hW4 ob4 hox
      obtain ⟨r0, r1, r2, r3, r4, r5⟩ := opn_cells ob4
      have okt : okN tx := okN_small tx (by have := hA.tx0; have := hA.bd.list; omega)
      obtain ⟨bo, hbo⟩ : ∃ bo, bo = wr.heap.size := ⟨_, rfl⟩
      rw [← hbo] at ob4 r0 r1 r2 r3 r4 r5
      replace hox := Aside0.mk hox
      replace ob4 := Aside0.mk ob4
      replace okt := Aside0.mk okt
      clear B4' hL C
      go_upto_region 11 with (fail)
      rw [← hW4, ← hbo]
      clear hW4 z0 z1 z2 z3 z4 z5
      replace hbo := Aside0.mk hbo
      by_cases hk0 : o.kind = 0
      · rw [hk0] at r0
        replace hk0 := hk0
        by_cases htx : 0 < tx
        · have OF : Calls Tryz.prog 23 #[ptr q, .int .i64 tx] W4 fun e w2 => e = .returned (.int .i64 (ofR W.list tx)) ∧ Below W4.heap.size W4 w2 := hL4.of (Nat.le_trans hA.bd.list (by omega)) tx
          by_cases hof : 0 ≤ ofR W.list tx
          · obtain ⟨_, hA', h4⟩ := hA.other (by omega) ⟨4, tx, (ByteArray.empty, ByteArray.empty), ByteArray.empty, 0⟩ (k : Int) rfl (by show (4 : Int) ≠ 0; decide)
            obtain ⟨hc0, hall'⟩ := h4 rfl
            have CMc := fun V (B : Below W4.heap.size W4 V) => (hL4.below B).any hA.caps hA.cap hA.bd (by omega) (by omega) ⟨4, tx, (ByteArray.empty, ByteArray.empty), ByteArray.empty, 0⟩ ⟨by show (Lit.int .i64 4).wf = true; decide, okt.out, ⟨by show ByteArray.empty.size ≤ _; decide, by show ByteArray.empty.size ≤ _; decide⟩, by show ByteArray.empty.size ≤ _; decide, by show (Lit.int .i64 0).wf = true; decide⟩ (k : Int) hA.good hA'.good
            rw [hc0] at CMc
            dsimp only at CMc
            obtain ⟨W1, hW1⟩ : ∃ W1, W1 = (W.step (iT c.reads) ⟨4, tx, (ByteArray.empty, ByteArray.empty), ByteArray.empty, 0⟩ (k : Int)).2 := ⟨_, rfl⟩
            rw [← hW1] at CMc hA' hall'
            generalize ofR W.list tx = oi at hof OF
            replace CMc := Aside0.mk CMc
            replace hA' := Aside0.mk hA'
            replace hall' := Aside0.mk hall'
            replace hW1 := Aside0.mk hW1
            replace hk0 := Aside0.mk hk0
            clear hA hL4 h4 hc0
            go_upto_region 14 with (first | (go_at_call 23; refine OF.mono ?_; rintro e w5 ⟨rfl, B5⟩; have CM := CMc.out w5 B5) | (go_at_call 19; refine CM.mono ?_; rintro e w6 ⟨rfl, hL1, hk6⟩))
            have hA1 := hA'.out
            have hall := hall'.out
            replace hk0 := hk0.out
            clear r0 r1 r2 r3 r4 r5 hA' hall' CM CMc OF
            obtain ⟨r0, r1, r2, r3, r4, r5⟩ := opn_cells (hk6.block _ _ _ _ ((B5.block _ (Array.getElem?_eq_some_iff.1 ob4.out).1).trans ob4.out) rfl)
            rw [hk0] at r0
            clear hk6 B5
            obtain ⟨hb0, xn, hln, hA2⟩ := hA1.begins (by omega) o (k : Int) hk0 hall
            have ST := hL1.any hA1.caps hA1.cap hA1.bd (by omega) (by omega) o hox.out (k : Int) hA1.good hA2.good
            rw [hb0, hk0] at ST
            replace hk0 := Aside0.mk hk0
            have W1len : W1.list.length ≤ 1048576 := Nat.le_trans hA1.bd.list (by omega)
            replace hA2 := Aside0.mk hA2
            replace hln := Aside0.mk hln
            clear hA1 hall hL1
            go_upto_region 16 with (go_at_call 19; refine ST.mono ?_; rintro e w7 ⟨rfl, hL7, hk7⟩)
            obtain ⟨F', vv, lv, xl, H, kp⟩ := id hL7
            have hxl : xl.length = W1.list.length + 1 := by rw [← List.length_map (f := (·.1)), H.fst, hln.out, List.length_append]; rfl
            obtain ⟨A3, c3, hlv, _, hA3⟩ := H.list.slice
            obtain ⟨g, rfl, _⟩ := hA3 (by omega)
            have hl := H.list
            have q3 := H.cell.2.2.2.1
            rw [hlv] at hl q3
            have hm : xl[W1.list.length]? = some (xl[W1.list.length]'(by omega)) := List.getElem?_eq_getElem (by omega)
            have hm1 : (xl[W1.list.length]'(by omega)).1 = xn := by
              have e := H.list_at hm
              rw [hln.out, List.getElem?_append_right (Nat.le_refl _), Nat.sub_self] at e
              injection e with e
              exact e.symm
            have y0 := (RowX.at hl _ _ hm).1
            rw [hm1] at y0
            have hw : IntKind.i64.wrap ((xl.length : Int) - 1) = (W1.list.length : Int) := by
              rw [hxl]
              have : ((W1.list.length + 1 : Nat) : Int) - 1 = (W1.list.length : Int) := by push_cast; omega
              rw [this]
              exact IntWalk.i64_in _ (by omega)
            have N1 : ∀ n, ∃ k' W' tx' s', k' ≤ xs.length ∧ Value.int .i64 ((k : Int) + 1) = .int .i64 ((k' : Nat) : Int) ∧ Value.int .i64 xn.tx = .int .i64 tx' ∧ s' ≤ 2 * k' ∧ AlI c xs.length W' tx' s' ∧ Lw w4 w2.heap.size q p Uw rv W' (w7.drewN n) := fun n => ⟨k + 1, _, xn.tx, _, hkl, by push_cast; rfl, rfl, by omega, hA2.out, hL7.below (drewB2 w7 n)⟩
            replace N1 := Aside0.mk N1
            have hxl2 := Aside0.mk hxl
            clear hl hm hm1 H kp hL7 hk7 hlv hA3 ST hxl hA2 hln
            generalize W1.list.length = m1 at *
            go_wp2_with fail
            have hjI : (m1 : Int) < (xl.length : Int) := by have := hxl2.out; omega
            have hj0 : (0 : Int) ≤ (m1 : Int) := by omega
            go_region_held3 (fun V => V.cell? ⟨q, 3, none⟩ = some (.slice (some ⟨g, 0, none⟩) xl.length c3) ∧ V.cell? ⟨g, m1 * 8, none⟩ = some (.int .i64 xn.tx)) (exact ⟨q3, y0⟩) (fail)
            go_wp2
            exact ⟨N1.out _, by simp [intOf]; omega⟩
          · have hall := hA.closed (fun h => hof h.2)
            have hA1 := hA
            obtain ⟨W1, hW1⟩ : ∃ W1, W1 = W := ⟨_, rfl⟩
            rw [← hW1] at hA1 hall hL4
            generalize ofR W.list tx = oi at hof OF
            replace hA1 := Aside0.mk hA1
            replace hall := Aside0.mk hall
            replace hL4 := Aside0.mk hL4
            replace hW1 := Aside0.mk hW1
            replace hk0 := Aside0.mk hk0
            clear hA
            go_upto_region 14 with (go_at_call 23; refine OF.mono ?_; rintro e w5 ⟨rfl, B5⟩)
            have hA1 := hA1.out
            have hall := hall.out
            have hL1 := hL4.out.below B5
            replace hk0 := hk0.out
            clear r0 r1 r2 r3 r4 r5 OF
            obtain ⟨r0, r1, r2, r3, r4, r5⟩ := opn_cells ((B5.block _ (Array.getElem?_eq_some_iff.1 ob4.out).1).trans ob4.out)
            rw [hk0] at r0
            clear B5
            obtain ⟨hb0, xn, hln, hA2⟩ := hA1.begins (by omega) o (k : Int) hk0 hall
            have ST := hL1.any hA1.caps hA1.cap hA1.bd (by omega) (by omega) o hox.out (k : Int) hA1.good hA2.good
            rw [hb0, hk0] at ST
            replace hk0 := Aside0.mk hk0
            have W1len : W1.list.length ≤ 1048576 := Nat.le_trans hA1.bd.list (by omega)
            replace hA2 := Aside0.mk hA2
            replace hln := Aside0.mk hln
            clear hA1 hall hL1
            go_upto_region 16 with (go_at_call 19; refine ST.mono ?_; rintro e w7 ⟨rfl, hL7, hk7⟩)
            obtain ⟨F', vv, lv, xl, H, kp⟩ := id hL7
            have hxl : xl.length = W1.list.length + 1 := by rw [← List.length_map (f := (·.1)), H.fst, hln.out, List.length_append]; rfl
            obtain ⟨A3, c3, hlv, _, hA3⟩ := H.list.slice
            obtain ⟨g, rfl, _⟩ := hA3 (by omega)
            have hl := H.list
            have q3 := H.cell.2.2.2.1
            rw [hlv] at hl q3
            have hm : xl[W1.list.length]? = some (xl[W1.list.length]'(by omega)) := List.getElem?_eq_getElem (by omega)
            have hm1 : (xl[W1.list.length]'(by omega)).1 = xn := by
              have e := H.list_at hm
              rw [hln.out, List.getElem?_append_right (Nat.le_refl _), Nat.sub_self] at e
              injection e with e
              exact e.symm
            have y0 := (RowX.at hl _ _ hm).1
            rw [hm1] at y0
            have hw : IntKind.i64.wrap ((xl.length : Int) - 1) = (W1.list.length : Int) := by
              rw [hxl]
              have : ((W1.list.length + 1 : Nat) : Int) - 1 = (W1.list.length : Int) := by push_cast; omega
              rw [this]
              exact IntWalk.i64_in _ (by omega)
            have N1 : ∀ n, ∃ k' W' tx' s', k' ≤ xs.length ∧ Value.int .i64 ((k : Int) + 1) = .int .i64 ((k' : Nat) : Int) ∧ Value.int .i64 xn.tx = .int .i64 tx' ∧ s' ≤ 2 * k' ∧ AlI c xs.length W' tx' s' ∧ Lw w4 w2.heap.size q p Uw rv W' (w7.drewN n) := fun n => ⟨k + 1, _, xn.tx, _, hkl, by push_cast; rfl, rfl, by omega, hA2.out, hL7.below (drewB2 w7 n)⟩
            replace N1 := Aside0.mk N1
            have hxl2 := Aside0.mk hxl
            clear hl hm hm1 H kp hL7 hk7 hlv hA3 ST hxl hA2 hln
            generalize W1.list.length = m1 at *
            go_wp2_with fail
            have hjI : (m1 : Int) < (xl.length : Int) := by have := hxl2.out; omega
            have hj0 : (0 : Int) ≤ (m1 : Int) := by omega
            go_region_held3 (fun V => V.cell? ⟨q, 3, none⟩ = some (.slice (some ⟨g, 0, none⟩) xl.length c3) ∧ V.cell? ⟨g, m1 * 8, none⟩ = some (.int .i64 xn.tx)) (exact ⟨q3, y0⟩) (fail)
            go_wp2
            exact ⟨N1.out _, by simp [intOf]; omega⟩
        · have hall := hA.closed (fun h => htx h.1)
          have hA1 := hA
          obtain ⟨W1, hW1⟩ : ∃ W1, W1 = W := ⟨_, rfl⟩
          rw [← hW1] at hA1 hall hL4
          replace hA1 := Aside0.mk hA1
          replace hall := Aside0.mk hall
          replace hL4 := Aside0.mk hL4
          replace hW1 := Aside0.mk hW1
          replace hk0 := Aside0.mk hk0
          clear hA
          go_upto_region 14 with (fail)
          have hA1 := hA1.out
          have hall := hall.out
          have hL1 := hL4.out
          replace hk0 := hk0.out
          obtain ⟨hb0, xn, hln, hA2⟩ := hA1.begins (by omega) o (k : Int) hk0 hall
          have ST := hL1.any hA1.caps hA1.cap hA1.bd (by omega) (by omega) o hox.out (k : Int) hA1.good hA2.good
          rw [hb0, hk0] at ST
          replace hk0 := Aside0.mk hk0
          have W1len : W1.list.length ≤ 1048576 := Nat.le_trans hA1.bd.list (by omega)
          replace hA2 := Aside0.mk hA2
          replace hln := Aside0.mk hln
          clear hA1 hall hL1
          go_upto_region 16 with (go_at_call 19; refine ST.mono ?_; rintro e w7 ⟨rfl, hL7, hk7⟩)
          obtain ⟨F', vv, lv, xl, H, kp⟩ := id hL7
          have hxl : xl.length = W1.list.length + 1 := by rw [← List.length_map (f := (·.1)), H.fst, hln.out, List.length_append]; rfl
          obtain ⟨A3, c3, hlv, _, hA3⟩ := H.list.slice
          obtain ⟨g, rfl, _⟩ := hA3 (by omega)
          have hl := H.list
          have q3 := H.cell.2.2.2.1
          rw [hlv] at hl q3
          have hm : xl[W1.list.length]? = some (xl[W1.list.length]'(by omega)) := List.getElem?_eq_getElem (by omega)
          have hm1 : (xl[W1.list.length]'(by omega)).1 = xn := by
            have e := H.list_at hm
            rw [hln.out, List.getElem?_append_right (Nat.le_refl _), Nat.sub_self] at e
            injection e with e
            exact e.symm
          have y0 := (RowX.at hl _ _ hm).1
          rw [hm1] at y0
          have hw : IntKind.i64.wrap ((xl.length : Int) - 1) = (W1.list.length : Int) := by
            rw [hxl]
            have : ((W1.list.length + 1 : Nat) : Int) - 1 = (W1.list.length : Int) := by push_cast; omega
            rw [this]
            exact IntWalk.i64_in _ (by omega)
          have N1 : ∀ n, ∃ k' W' tx' s', k' ≤ xs.length ∧ Value.int .i64 ((k : Int) + 1) = .int .i64 ((k' : Nat) : Int) ∧ Value.int .i64 xn.tx = .int .i64 tx' ∧ s' ≤ 2 * k' ∧ AlI c xs.length W' tx' s' ∧ Lw w4 w2.heap.size q p Uw rv W' (w7.drewN n) := fun n => ⟨k + 1, _, xn.tx, _, hkl, by push_cast; rfl, rfl, by omega, hA2.out, hL7.below (drewB2 w7 n)⟩
          replace N1 := Aside0.mk N1
          have hxl2 := Aside0.mk hxl
          clear hl hm hm1 H kp hL7 hk7 hlv hA3 ST hxl hA2 hln
          generalize W1.list.length = m1 at *
          go_wp2_with fail
          have hjI : (m1 : Int) < (xl.length : Int) := by have := hxl2.out; omega
          have hj0 : (0 : Int) ≤ (m1 : Int) := by omega
          go_region_held3 (fun V => V.cell? ⟨q, 3, none⟩ = some (.slice (some ⟨g, 0, none⟩) xl.length c3) ∧ V.cell? ⟨g, m1 * 8, none⟩ = some (.int .i64 xn.tx)) (exact ⟨q3, y0⟩) (fail)
          go_wp2
          exact ⟨N1.out _, by simp [intOf]; omega⟩
      · obtain ⟨hfo, hA2, _⟩ := hA.other (by omega) ⟨o.kind, tx, o.at_, o.to_, o.last⟩ (k : Int) rfl hk0
        obtain ⟨W6, hW6⟩ : ∃ W6, W6 = W4.setCell ⟨bo, 1, none⟩ (.int .i64 tx) := ⟨_, rfl⟩
        have fz1 : W4.frozen? ⟨bo, 1, none⟩ = false := blk_frozen ob4.out _
        have ob6 : W6.heap[bo]? = some (boxOn ⟨o.kind, tx, o.at_, o.to_, o.last⟩) := by
          rw [hW6, blk_set ob4.out 1 _]
          rfl
        have hL6 : Lw w4 w2.heap.size q p Uw rv W W6 := by
          refine hLk.out.below ?_
          rw [hW6]
          exact B4k.out.grown (grown_set W4 bo 1 (.int .i64 tx)) B4k.out.size (fun k hk => by injection hk with hk; have := hbo.out; omega)
        have ST := hL6.any hA.caps hA.cap hA.bd (by omega) (by omega) ⟨o.kind, tx, o.at_, o.to_, o.last⟩ ⟨hox.out.kind, okt.out, hox.out.at_, hox.out.to_, hox.out.last⟩ (k : Int) hA.good hA2.good
        dsimp only at ST
        obtain ⟨t0, t1, t2, t3, t4, t5⟩ := opn_cells ob6
        dsimp only at t0 t1 t2 t3 t4 t5
        obtain ⟨W2, hW2⟩ : ∃ W2, W2 = (W.step (iT c.reads) ⟨o.kind, tx, o.at_, o.to_, o.last⟩ (k : Int)).2 := ⟨_, rfl⟩
        rw [← hW2] at ST hA2
        generalize (W.step (iT c.reads) ⟨o.kind, tx, o.at_, o.to_, o.last⟩ (k : Int)).1 = re at ST hfo
        have N1 : ∀ V, Lw w4 w2.heap.size q p Uw rv W2 V → ∃ k' W' tx' s', k' ≤ xs.length ∧ Value.int .i64 ((k : Int) + 1) = .int .i64 ((k' : Nat) : Int) ∧ Value.int .i64 tx = .int .i64 tx' ∧ s' ≤ 2 * k' ∧ AlI c xs.length W' tx' s' ∧ Lw w4 w2.heap.size q p Uw rv W' V := fun V hV => ⟨k + 1, _, tx, _, hkl, by push_cast; rfl, rfl, by omega, hA2, hV⟩
        replace N1 := Aside0.mk N1
        replace hW2 := Aside0.mk hW2
        clear hA2 hA hL4 hL6 ob6
        go_upto_region 18 with (fail)
        rw [← hW6]
        clear hW6 r0 r1 r2 r3 r4 r5 fz1
        rcases hfo with rfl | rfl
        · go_wp2_with (go_at_call 19; refine ST.mono ?_; rintro e w7 ⟨rfl, hL7, _⟩)
          exact ⟨N1.out _ hL7, by simp [intOf]; omega⟩
        · go_wp2_with (go_at_call 19; refine ST.mono ?_; rintro e w7 ⟨rfl, hL7, _⟩)
          exact ⟨N1.out _ hL7, by simp [intOf]; omega⟩
    · obtain rfl : k = xs.length := by omega
      obtain ⟨wm, hwm⟩ : ∃ wm, wm = wr := ⟨_, rfl⟩
      have hLm : Lw w4 w2.heap.size q p Uw rv W wm := by rw [hwm]; exact hL
      have BWm := AH.out hLm
      obtain ⟨F1, vv1, lv1, xl1, H1, kp1⟩ := hLm
      have Q1 := H1.toQ
      obtain ⟨Uu, hUu⟩ : ∃ Uu : Nat → Prop, Uu = fun k => (w3.heap.size ≤ k ∧ k < w4.heap.size) ∨ wm.heap.size ≤ k := ⟨_, rfl⟩
      have h34 := B4.out.size
      have h4m := kp1.fr.size
      have Hu := H4.out.beside kp1.fr (fun k h1 h2 => by rw [hUw.out] at h1; omega) (U' := Uu) (fun k h1 h2 => by rw [hUu]; exact .inl ⟨h1, h2⟩) (fun k hk => by rw [hUu]; exact .inr hk)
      have LU0 : Lw wm w3.heap.size q2 p2 Uu rv2 (W0 c xs) wm := ⟨F0, _, _, _, Hu, Fr.refl _ _, fun k c e s h _ => h⟩
      have AHu : ∀ {W V}, Lw wm w3.heap.size q2 p2 Uu rv2 W V → Below w.heap.size w V := fun h => AH2.out BWm h03.out (fun k hk => by rw [hUu] at hk; omega) (by omega) h
      have QF : ∀ {Wu V}, Lw wm w3.heap.size q2 p2 Uu rv2 Wu V → Wq V w2.heap.size q p Uw W rv vv1 lv1 xl1 := fun hL => by
        obtain ⟨_, _, _, _, _, kp⟩ := hL
        exact Q1.frame kp.fr (fun k h1 h2 h3 => by rw [hUu] at h1; rw [hUw.out] at h3; omega)
      replace AHu := Aside0.mk @AHu
      replace QF := Aside0.mk @QF
      have LU0' := Aside0.mk LU0
      replace hUu := Aside0.mk hUu
      replace hwm := Aside0.mk hwm
      replace hA := Aside0.mk hA
      clear hL H1 kp1 Q1 Hu LU0 AH AH2 BWm h34 h4m
      go_wp2_with fail
      go_loopw [97] (fun iv wr => ∃ (k : Nat) (Wu : Wld St) (s' : Nat), k ≤ xs.length ∧ iv = .int .i64 k ∧ s' ≤ k ∧ UnI c xs.length Wu s' ∧ Lw wm w3.heap.size q2 p2 Uu rv2 Wu wr) (fun iv _ => xs.length - (intOf iv).toNat)
      case atStart => exact ⟨0, _, 0, Nat.zero_le _, rfl, Nat.zero_le _, U0.out, by rw [← hwm.out]; exact LU0'.out⟩
      case round =>
        clear LU0' U0
        obtain ⟨k, Wu, s', hk, rfl, hs', hU, hL⟩ := hrel
        by_cases hkl : k < xs.length
        · have C := Kd.C_below hC.out (AHu.out hL)
          obtain ⟨ad, rfl, z0, z1, z2, z3, z4, z5⟩ := opn_at C k hkl
          have hox := hops.out _ (List.getElem_mem hkl)
          obtain ⟨W4, hW4⟩ : ∃ W4, W4 = wr.alloc (boxOn xs[k]) := ⟨_, rfl⟩
          have B4' : Below wr.heap.size wr W4 := by rw [hW4]; exact allocB wr _
          have ob4 : W4.heap[wr.heap.size]? = some (boxOn xs[k]) := by rw [hW4]; exact heap_alloc_new wr _
          have hL4 := hL.below B4'
          unfold boxOn at hW4
          generalize xs[k] = o at z0 z1 z2 z3 z4 z5 hW4 ob4 hox
          obtain ⟨r0, r1, r2, r3, r4, r5⟩ := opn_cells ob4
          have N0 : ∃ (k' : Nat) (Wu' : Wld St) (s2 : Nat), k' ≤ xs.length ∧ Value.int .i64 ((k : Int) + 1) = .int .i64 k' ∧ s2 ≤ k' ∧ UnI c xs.length Wu' s2 ∧ Lw wm w3.heap.size q2 p2 Uu rv2 Wu' W4 := ⟨k + 1, _, _, hkl, by push_cast; rfl, by omega, hU, hL4⟩
          replace N0 := Aside0.mk N0
          by_cases hk12 : o.kind ≠ 1 ∧ o.kind ≠ 2
          · obtain ⟨hU2, hne⟩ := hU.step (by omega) o (k : Int) hk12
            have ST := hL4.any hU.caps hU.cap hU.bd (by omega) (by omega) o hox (k : Int) hU.good hU2.good
            obtain ⟨W2, hW2⟩ : ∃ W2, W2 = (Wu.step (iT c.reads) o (k : Int)).2 := ⟨_, rfl⟩
            rw [← hW2] at ST hU2
            generalize (Wu.step (iT c.reads) o (k : Int)).1 = re at ST hne
            have N1 : ∀ V, Lw wm w3.heap.size q2 p2 Uu rv2 W2 V → ∃ (k' : Nat) (Wu' : Wld St) (s2 : Nat), k' ≤ xs.length ∧ Value.int .i64 ((k : Int) + 1) = .int .i64 k' ∧ s2 ≤ k' ∧ UnI c xs.length Wu' s2 ∧ Lw wm w3.heap.size q2 p2 Uu rv2 Wu' V := fun V hV => ⟨k + 1, _, _, hkl, by push_cast; rfl, by omega, hU2, hV⟩
            obtain ⟨g1, g2⟩ := hk12
            have e1 : (re == 100) = false := by simpa using hne
            have e2 : (o.kind != 1) = true := by simpa using g1
            have e3 : (o.kind != 2) = true := by simpa using g2
            replace N1 := Aside0.mk N1
            replace hW2 := Aside0.mk hW2
            replace hox := Aside0.mk hox
            clear B4' hL C hL4 hU hU2 ob4
            go_upto_region 25 with (fail)
            rw [← hW4]
            clear hW4 z0 z1 z2 z3 z4 z5
            go_wp2_with (go_at_call 19; refine ST.mono ?_; rintro e w7 ⟨rfl, hL7, _⟩)
            exact ⟨N1.out _ hL7, by simp [intOf]; omega⟩
          · replace hox := Aside0.mk hox
            clear B4' hL C hL4 hU ob4
            go_upto_region 25 with (fail)
            rw [← hW4]
            clear hW4 z0 z1 z2 z3 z4 z5
            by_cases h1 : o.kind = 1
            · rw [h1] at r0
              replace hk12 := Aside0.mk hk12
              replace h1 := Aside0.mk h1
              go_wp2
              exact ⟨N0.out, by simp [intOf]; omega⟩
            · have h2 : o.kind = 2 := by omega
              rw [h2] at r0
              replace hk12 := Aside0.mk hk12
              replace h1 := Aside0.mk h1
              replace h2 := Aside0.mk h2
              go_wp2
              exact ⟨N0.out, by simp [intOf]; omega⟩
        · obtain rfl : k = xs.length := by omega
          have Q2 := QF.out hL
          have BW := AHu.out hL
          obtain ⟨G1, wl1⟩ := hA.out.wl
          obtain ⟨G2, wl2⟩ := hU.wl
          have bd1 := hA.out.bd
          have bd2 := hU.bd
          have c4 := Q2.cell.2.2.2.2
          rw [hA.out.good] at c4
          obtain ⟨Al, cl, c3⟩ := Q2.lens
          have d4 := hL.bad_at
          rw [hU.good] at d4
          obtain ⟨Au, cu, d3⟩ := hL.list_at
          have DEPw := fun V (B : Below wr.heap.size wr V) => (Q2.below B).deps wl1.si bd1 (by omega) (by omega)
          have QU : ∃ vv2 lv2 xl2, Wq wr w3.heap.size q2 p2 Uu Wu rv2 vv2 lv2 xl2 := by
            obtain ⟨_, vv2, lv2, xl2, HU, _⟩ := hL
            exact ⟨vv2, lv2, xl2, HU.toQ⟩
          obtain ⟨vv2, lv2, xl2, QU⟩ := QU
          have DEPu := fun V (B : Below wr.heap.size wr V) => (QU.below B).deps wl2.si bd2 (by omega) (by omega)
          have ORw := fun b v V (hv : RowD V b v (depsW W.vers W.list)) => ordered_s wl1.mi wl1.si bd1 (by omega) (by omega) hv
          have ORu := fun b v V (hv : RowD V b v (depsW Wu.vers Wu.list)) => ordered_s wl2.mi wl2.si bd2 (by omega) (by omega) hv
          have KC : ∀ V, Below wr.heap.size wr V → V.cell? ⟨q, 4, none⟩ = some (.bool false) ∧ V.cell? ⟨q2, 4, none⟩ = some (.bool false) ∧ V.cell? ⟨q, 3, none⟩ = some (.slice Al W.list.length cl) ∧ V.cell? ⟨q2, 3, none⟩ = some (.slice Au Wu.list.length cu) := fun V B => ⟨below_cell B c4, below_cell B d4, below_cell B c3, below_cell B d3⟩
          replace ORw := Aside0.mk ORw
          replace ORu := Aside0.mk ORu
          replace DEPw := Aside0.mk DEPw
          replace DEPu := Aside0.mk DEPu
          replace KC := Aside0.mk KC
          replace BW := Aside0.mk BW
          have K0 := KC.out wr (Below.refl _ _)
          clear Q2 QU wl1 wl2 bd1 bd2 hL hU c3 c4 d3 d4
          generalize W.list.length = n1 at *
          generalize Wu.list.length = n2 at *
          obtain ⟨c4, d4, c3, d3⟩ := K0
          go_wp2_with fail
          go_region_held3 (fun V => V.cell? ⟨q, 4, none⟩ = some (.bool false) ∧ V.cell? ⟨q2, 4, none⟩ = some (.bool false) ∧ V.cell? ⟨q, 3, none⟩ = some (.slice Al n1 cl) ∧ V.cell? ⟨q2, 3, none⟩ = some (.slice Au n2 cu)) (first | exact K4 | exact K3 | exact K2 | exact K1 | exact ⟨c4, d4, c3, d3⟩)
            (first | (go_at_call 20; refine OR3.mono ?_; rintro e x4 ⟨rfl, b4⟩; have B4x := below_then B3x B3x.size b4; have K4 := KC.out x4 B4x) | (go_at_call 21; refine (DEPu.out _ B2x).mono ?_; rintro e x3 ⟨v3, rfl, hv3, b3⟩; have B3x := below_then B2x B2x.size b3; have K3 := KC.out x3 B3x; have OR3 := ORu.out _ v3 x3 hv3) | (go_at_call 20; refine OR1.mono ?_; rintro e x2 ⟨rfl, b2⟩; have B2x := below_then B1x B1x.size b2; have K2 := KC.out x2 B2x) | (go_at_call 21; refine (DEPw.out _ (drewB2 wr _)).mono ?_; rintro e x1 ⟨v1, rfl, hv1, b1⟩; have B1x := below_then (drewB2 wr _) (drewB2 wr _).size b1; have K1 := KC.out x1 B1x; have OR1 := ORw.out _ v1 x1 hv1))
          have FN := Aside0.mk (below_then BW.out BW.out.size B4x)
          clear K1 K2 K3 K4 b1 b2 b3 b4 B1x B2x B3x B4x hv1 hv3 OR1 OR3 c3 c4 d3 d4
          go_wp2
          go_ret
          exact ⟨rfl, FN.out⟩
theorem SsiAlone_calls (c : Cp) (z : Scp) (w : World) (hz : z.OK w) (hn : z.xs.length ≤ 524288) : Calls Tryz.prog 6 #[.agg c.cells, z.val] w fun e w' => e = .returned (.bool true) ∧ Below w.heap.size w w' := by
  cases h : mayC c with
  | false => exact SsiAlone_no c z w h
  | true => exact SsiAlone_go c z w hz hn h
end Go.Proofs.YthaoedfalkebbaaGreat
