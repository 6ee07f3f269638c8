/- Cut by a program out of the seat's texts (VC): what the theorem needs, one behind the other. -/
import Derived.Test.YthaoedfalkebbaaGreatPBQ
namespace Go.Proofs.YthaoedfalkebbaaGreat
open Go.RowKit Go.Maps Go.Sort Go.Lib Go.Shelf Go.Proofs.YthaoedfalkebbaaGreatW.PrintWords Go.Proofs.YthaoedfalkebbaaGreatW.PrintLast Go.Proofs.YthaoedfalkebbaaGreatW.PrintMore
set_option linter.unusedVariables false
set_option linter.unusedSimpArgs false
set_option linter.unusedSectionVars false
set_option maxHeartbeats 16000000 in
set_option maxRecDepth 100000 in
theorem SsiFirst_no (c : Cp) (z : Scp) (w : World) (h : mayC c = false) : Calls Tryz.prog 5 #[.agg c.cells, z.val] w fun e w' => e = .returned (.bool true) ∧ Below w.heap.size w w' := by
  obtain ⟨w1, hw1⟩ : ∃ w1, w1 = w.alloc (.cells c.cells 31) := ⟨_, rfl⟩
  have B1 : Below w.heap.size w w1 := by rw [hw1]; exact allocB w _
  have SN := fun W => start_no c z W h
  have MN := fun W => mayC_calls c W h
  obtain ⟨ac, kp, rd, lk⟩ := c
  unfold Cp.cells at hw1 SN MN ⊢
  dsimp only at hw1 SN MN ⊢
  have ob1 : w1.heap[w.heap.size]? = some (.cells #[.int .i64 ac, .int .i64 kp, .int .i64 rd, .int .i64 lk] 31 (0, 0)) := by rw [hw1]; exact heap_alloc_new w _
  have x0 := cell_of_row w1 _ 0 _ 31 (0, 0) ob1
  have x1 := cell_of_row w1 _ 1 _ 31 (0, 0) ob1
  have x2 := cell_of_row w1 _ 2 _ 31 (0, 0) ob1
  have x3 := cell_of_row w1 _ 3 _ 31 (0, 0) ob1
  have CEL : ∀ V, Below w1.heap.size w1 V → V.cell? ⟨w.heap.size, 0, none⟩ = some (.int .i64 ac) ∧ V.cell? ⟨w.heap.size, 1, none⟩ = some (.int .i64 kp) ∧ V.cell? ⟨w.heap.size, 2, none⟩ = some (.int .i64 rd) ∧ V.cell? ⟨w.heap.size, 3, none⟩ = some (.int .i64 lk) := fun V B => ⟨below_cell B x0, below_cell B x1, below_cell B x2, below_cell B x3⟩
  replace CEL := Aside0.mk CEL
  replace B1 := Aside0.mk B1
  replace SN := Aside0.mk SN
  replace MN := Aside0.mk MN
  clear ob1 h x0 x1 x2 x3
  unfold Scp.val at SN ⊢
  go_enter Tryz.func5, Tryz.ntmps5
  go_upto_region 1 with (fail)
  rw [← hw1]
  clear hw1
  go_wp2_with (go_at_call 11; refine (begun_calls w1).mono ?_; rintro e w2 ⟨rfl, B2⟩; obtain ⟨x0, x1, x2, x3⟩ := CEL.out w2 B2; have SNw := SN.out w2)
  go_wp2_with (first | (go_at_call 17; refine SNw.mono ?_; rintro e w3 ⟨rfl, B3⟩; clear x0 x1 x2 x3; obtain ⟨x0, x1, x2, x3⟩ := CEL.out w3 (below_then B2 B2.size B3); have MNw := MN.out w3) | (go_at_call 18; refine MNw.mono ?_; rintro e w4 ⟨rfl, B4⟩))
  go_ret
  exact ⟨rfl, below_then (below_then (below_then B1.out B1.out.size B2) (below_then B1.out B1.out.size B2).size B3) (below_then (below_then B1.out B1.out.size B2) (below_then B1.out B1.out.size B2).size B3).size B4⟩
set_option maxHeartbeats 32000000 in
set_option maxRecDepth 100000 in
theorem SsiFirst_go (c : Cp) (z : Scp) (w : World) (hz : z.OK w) (hn : z.xs.length ≤ 1048576) (h : mayC c = true) : Calls Tryz.prog 5 #[.agg c.cells, z.val] w fun e w' => e = .returned (.bool true) ∧ Below w.heap.size w w' := by
  obtain ⟨w1, hw1⟩ : ∃ w1, w1 = w.alloc (.cells c.cells 31) := ⟨_, rfl⟩
  have B1 : Below w.heap.size w w1 := by rw [hw1]; exact allocB w _
  have SY := fun W (B : Below w.heap.size w W) => start_calls (UpFrom W.heap.size) c z W (top_up W) ⟨Kd.C_below hz.reads B, hz.ops, hz.len⟩ h
  obtain ⟨A, cz, xs⟩ := z
  obtain ⟨hC, hops, hlen⟩ := hz
  have FI := atS_WI (xs := xs) h xs.length (by dsimp only at hn; omega)
  have FB := atS_Bd (c := c) (xs := xs) xs.length
  have FG := atS_bad (xs := xs) h xs.length (by dsimp only at hn; omega)
  unfold Scp.val at SY ⊢
  dsimp only at hC hops hn SY ⊢
  have cc : c.cells = #[.int .i64 c.active, .int .i64 c.kept, .int .i64 c.reads, .int .i64 c.locks] := rfl
  rw [cc] at hw1 SY ⊢
  have ob1 : w1.heap[w.heap.size]? = some (.cells #[.int .i64 c.active, .int .i64 c.kept, .int .i64 c.reads, .int .i64 c.locks] 31 (0, 0)) := by rw [hw1]; exact heap_alloc_new w _
  have x0 := cell_of_row w1 _ 0 _ 31 (0, 0) ob1
  have x1 := cell_of_row w1 _ 1 _ 31 (0, 0) ob1
  have x2 := cell_of_row w1 _ 2 _ 31 (0, 0) ob1
  have x3 := cell_of_row w1 _ 3 _ 31 (0, 0) ob1
  have CEL : ∀ V, Below w1.heap.size w1 V → V.cell? ⟨w.heap.size, 0, none⟩ = some (.int .i64 c.active) ∧ V.cell? ⟨w.heap.size, 1, none⟩ = some (.int .i64 c.kept) ∧ V.cell? ⟨w.heap.size, 2, none⟩ = some (.int .i64 c.reads) ∧ V.cell? ⟨w.heap.size, 3, none⟩ = some (.int .i64 c.locks) := fun V B => ⟨below_cell B x0, below_cell B x1, below_cell B x2, below_cell B x3⟩
  replace CEL := Aside0.mk CEL
  replace B1 := Aside0.mk B1
  replace SY := Aside0.mk SY
  replace FI := Aside0.mk FI
  replace FB := Aside0.mk FB
  replace FG := Aside0.mk FG
  replace hC := Aside0.mk hC
  replace hops := Aside0.mk hops
  replace cc := Aside0.mk cc
  clear ob1 hlen x0 x1 x2 x3
  go_enter Tryz.func5, Tryz.ntmps5
  go_upto_region 1 with (fail)
  rw [← hw1]
  clear hw1
  go_wp2_with (go_at_call 11; refine (begun_calls w1).mono ?_; rintro e w2 ⟨rfl, B2⟩; obtain ⟨x0, x1, x2, x3⟩ := CEL.out w2 B2)
  have B12 := below_then B1.out B1.out.size B2
  have SYw := SY.out w2 B12
  go_wp2_with (go_at_call 17; refine SYw.mono ?_; rintro e w3 ⟨q, p, rv, rfl, H3, B3⟩; clear x0 x1 x2 x3)
  have L0 : Lw w3 w2.heap.size q p (UpFrom w2.heap.size) rv (atS c xs 0) w3 := ⟨F0, _, _, _, H3, Fr.refl _ _, fun k c e s h _ => h⟩
  have AH : ∀ {W V}, Lw w3 w2.heap.size q p (UpFrom w2.heap.size) rv W V → Below w.heap.size w V := fun hL => by
    have b := hL.ahead B3.size (fun k hk => hk)
    have b2 := below_then B12 B12.size B3
    exact ⟨b.os.trans b2.os, b.tape.trans b2.tape, b.output.trans b2.output, by have := b.size; have := b2.size; omega, fun k hk => (b.block k (by have := B12.size; omega)).trans (b2.block k hk)⟩
  replace AH := Aside0.mk @AH
  clear H3 SYw B2
  replace B3 := Aside0.mk B3
  replace B12 := Aside0.mk B12
  go_wp2_with fail
  go_loopw [30] (fun iv wr => ∃ k : Nat, k ≤ xs.length ∧ iv = .int .i64 k ∧ Lw w3 w2.heap.size q p (UpFrom w2.heap.size) rv (atS c xs k) wr) (fun iv _ => xs.length - (intOf iv).toNat)
  case atStart => exact ⟨0, Nat.zero_le _, rfl, L0⟩
  case round =>
    clear L0
    obtain ⟨k, hk, rfl, hL⟩ := hrel
    by_cases hkl : k < xs.length
    · have C := Kd.C_below hC.out (AH.out hL)
      obtain ⟨ad, rfl, q0, q1, q2, q3, q4, q5⟩ := opn_at C k hkl
      have hox := hops.out _ (List.getElem_mem hkl)
      obtain ⟨W4, hW4⟩ : ∃ W4, W4 = wr.alloc (boxOn xs[k]) := ⟨_, rfl⟩
      have B4 : Below wr.heap.size wr W4 := by rw [hW4]; exact allocB wr _
      have ob4 : W4.heap[wr.heap.size]? = some (boxOn xs[k]) := by rw [hW4]; exact heap_alloc_new wr _
      have ST4 := (hL.below B4).next h hn (List.getElem?_eq_getElem hkl) hox
      unfold boxOn at hW4
      generalize xs[k] = o at q0 q1 q2 q3 q4 q5 ST4 hW4 ob4
      obtain ⟨r0, r1, r2, r3, r4, r5⟩ := opn_cells ob4
      replace hox := Aside0.mk hox
      clear ob4 B4 hL C
      go_upto_region 9 with (fail)
      rw [← hW4]
      clear hW4 q0 q1 q2 q3 q4 q5
      go_wp2_with (go_at_call 19; refine ST4.mono ?_; rintro e w5 ⟨rfl, hL5⟩)
      exact ⟨⟨k + 1, hkl, by push_cast; rfl, hL5⟩, by simp [intOf]; omega⟩
    · obtain rfl : k = xs.length := by omega
      obtain ⟨G, wi⟩ := FI.out
      have FR := fun (i k : Nat) (a b : Run) (h1 : i ≠ k) ha hb ca cb h2 h3 => first_of wi (i := i) (k := k) (a := a) (b := b) h1 ha hb ca cb h2 h3
      have BW := AH.out hL
      have bad := FG.out
      obtain ⟨F', vv, lv, xl, H, kp⟩ := hL
      have hxl : xl.length ≤ 1048576 := by
        have e : xl.length = (atS c xs xs.length).list.length := by rw [← H.fst, List.length_map]
        have := FB.out.list
        omega
      have hwl : ∀ x ∈ (atS c xs xs.length).list, x.writes.length ≤ 1048576 := fun x hx => Nat.le_trans (FB.out.writes x hx) hn
      obtain ⟨Al, cl, hlv, _, hAl⟩ := H.list.slice
      obtain ⟨wf, hwf⟩ : ∃ wf, wf = wr := ⟨_, rfl⟩
      have q3 := H.cell.2.2.2.1
      rw [hlv] at q3
      have H0 := Aside0.mk H
      have HB0 := Aside0.mk (Below.refl wr.heap.size wr)
      generalize atS c xs xs.length = W at *
      rw [← hwf] at H0 BW
      replace HB0 : Aside0 (Below wf.heap.size wf wr) := Aside0.mk (by rw [hwf]; exact Below.refl _ _)
      have VC : ∀ V, Below wf.heap.size wf V → V.cell? ⟨q, 3, none⟩ = some (.slice Al xl.length cl) ∧ V.cell? ⟨q, 4, none⟩ = some (.bool false) ∧ Wm V w2.heap.size q p F' (UpFrom w2.heap.size) W rv vv lv xl := fun V B => by
        have HV := H0.out.below B
        have e2 := HV.cell.2.2.2.1
        have e3 := HV.cell.2.2.2.2
        rw [hlv] at e2
        rw [bad] at e3
        exact ⟨e2, e3, HV⟩
      replace VC := Aside0.mk VC
      replace FR := Aside0.mk FR
      replace BW := Aside0.mk BW
      replace hlv := Aside0.mk hlv
      replace hwl := Aside0.mk hwl
      clear H kp bad H0 FI FB FG wi hwf AH
      go_wp2_with fail
      go_loopw [45] (fun iv wr => ∃ i : Nat, i ≤ xl.length ∧ iv = .int .i64 i ∧ Below wf.heap.size wf wr) (fun iv _ => xl.length - (intOf iv).toNat)
      case atStart => exact ⟨0, Nat.zero_le _, rfl, HB0.out⟩
      case round =>
        clear q3 HB0
        obtain ⟨i, hi, rfl, hB⟩ := hrel
        obtain ⟨q3, q4, H⟩ := VC.out _ hB
        by_cases hil : i < xl.length
        · obtain ⟨g, rfl, _⟩ := hAl (by omega)
          have hl := H.list
          rw [hlv.out] at hl
          obtain ⟨y0, y1, y2, y3, y4, y5, y6, y7⟩ := RowX.at hl i xl[i] (List.getElem?_eq_getElem hil)
          have hmx := List.getElem_mem hil
          obtain ⟨Ar, cr, er, _, _⟩ := (H.rd _ hmx).slice
          obtain ⟨Aw, cw, ew, _, hAw⟩ := (H.wr _ hmx).slice
          have hlx : W.list[i]? = some xl[i].1 := H.list_at (List.getElem?_eq_getElem hil)
          generalize xl[i] = x at y0 y1 y2 y3 y4 y5 y6 y7 er ew hmx hlx hAw
          obtain ⟨x, rv', wv'⟩ := x
          dsimp only at y0 y1 y2 y3 y4 y5 y6 y7 er ew hmx hlx hAw
          subst er ew
          have hxw : x.writes.length ≤ 1048576 := hwl.out x (List.mem_of_getElem? hlx)
          obtain ⟨W4, hW4⟩ : ∃ W4, W4 = wr.alloc (boxX (x, .slice Ar x.reads.length cr, .slice Aw x.writes.length cw)) := ⟨_, rfl⟩
          unfold boxX at hW4
          dsimp only at hW4
          have B4 : Below wr.heap.size wr W4 := by rw [hW4]; exact allocB wr _
          have ob4 := run_cells (x := (x, .slice Ar x.reads.length cr, .slice Aw x.writes.length cw)) (by rw [hW4]; exact heap_alloc_new wr _ : W4.heap[wr.heap.size]? = some (boxX (x, .slice Ar x.reads.length cr, .slice Aw x.writes.length cw)))
          dsimp only at ob4
          have hB4 := below_then hB hB.size B4
          obtain ⟨bx, hbx⟩ : ∃ bx, bx = wr.heap.size := ⟨_, rfl⟩
          have XC : ∀ V, Below W4.heap.size W4 V → V.cell? ⟨bx, 2, none⟩ = some (.int .i64 x.begun) ∧ V.cell? ⟨bx, 3, none⟩ = some (.int .i64 x.ended) ∧ V.cell? ⟨bx, 4, none⟩ = some (.bool x.committed) ∧ V.cell? ⟨bx, 7, none⟩ = some (.slice Aw x.writes.length cw) ∧ Below wf.heap.size wf V := fun V B => by
            rw [hbx]
            obtain ⟨x0, x1, x2, x3, x4, x5, x6, x7⟩ := ob4
            exact ⟨below_cell B x2, below_cell B x3, below_cell B x4, below_cell B x7, below_then hB4 hB4.size B⟩
          have q3' := below_cell B4 q3
          replace XC := Aside0.mk XC
          replace hmx := Aside0.mk hmx
          replace hlx := Aside0.mk hlx
          clear hB B4 ob4 hl H hB4 q4
          go_upto_region 14 with (fail)
          rw [← hW4, ← hbx]
          clear hW4 y0 y1 y2 y3 y4 y5 y6 y7 q3
          replace hbx := Aside0.mk hbx
          go_wp2_with fail
          go_loopw [55] (fun iv wr => ∃ k : Nat, k ≤ xl.length ∧ iv = .int .i64 k ∧ Below W4.heap.size W4 wr) (fun iv _ => xl.length - (intOf iv).toNat)
          case atStart => exact ⟨0, Nat.zero_le _, rfl, Below.refl _ _⟩
          case round =>
            clear q3'
            obtain ⟨k, hk, rfl, hB⟩ := hrel
            obtain ⟨a2, a3, a4, a7, hBf⟩ := XC.out _ hB
            obtain ⟨q3, q4, H⟩ := VC.out _ hBf
            by_cases hkl : k < xl.length
            · have hl := H.list
              rw [hlv.out] at hl
              obtain ⟨y0, y1, y2, y3, y4, y5, y6, y7⟩ := RowX.at hl k xl[k] (List.getElem?_eq_getElem hkl)
              have hmy := List.getElem_mem hkl
              obtain ⟨As, cs, es, _, _⟩ := (H.rd _ hmy).slice
              obtain ⟨Au, cu, eu, _, _⟩ := (H.wr _ hmy).slice
              have hly : W.list[k]? = some xl[k].1 := H.list_at (List.getElem?_eq_getElem hkl)
              generalize xl[k] = y at y0 y1 y2 y3 y4 y5 y6 y7 es eu hmy hly
              obtain ⟨y, rv2, wv2⟩ := y
              dsimp only at y0 y1 y2 y3 y4 y5 y6 y7 es eu hmy hly
              subst es eu
              have hyw : y.writes.length ≤ 1048576 := hwl.out y (List.mem_of_getElem? hly)
              obtain ⟨W6, hW6⟩ : ∃ W6, W6 = wr.alloc (boxX (y, .slice As y.reads.length cs, .slice Au y.writes.length cu)) := ⟨_, rfl⟩
              unfold boxX at hW6
              dsimp only at hW6
              have B6 : Below wr.heap.size wr W6 := by rw [hW6]; exact allocB wr _
              obtain ⟨z0, z1, z2, z3, z4, z5, z6, z7⟩ := run_cells (x := (y, .slice As y.reads.length cs, .slice Au y.writes.length cu)) (by rw [hW6]; exact heap_alloc_new wr _ : W6.heap[wr.heap.size]? = some (boxX (y, .slice As y.reads.length cs, .slice Au y.writes.length cu)))
              dsimp only at z0 z1 z2 z3 z4 z5 z6 z7
              have hB6 := below_then hB hB.size B6
              have YC : ∀ V, Below W6.heap.size W6 V → V.cell? ⟨wr.heap.size, 7, none⟩ = some (.slice Au y.writes.length cu) ∧ Below W4.heap.size W4 V := fun V B => ⟨below_cell B z7, below_then hB6 hB6.size B⟩
              have c2 := below_cell B6 a2
              have c3 := below_cell B6 a3
              have c4 := below_cell B6 a4
              have c7 := below_cell B6 a7
              have N1 : ∀ V, Below W4.heap.size W4 V → ∃ k' : Nat, k' ≤ xl.length ∧ Value.int .i64 ((k : Int) + 1) = .int .i64 k' ∧ Below W4.heap.size W4 V := fun V B => ⟨k + 1, hkl, by push_cast; rfl, B⟩
              have N6 := Aside0.mk (N1 W6 hB6)
              replace N1 := Aside0.mk N1
              replace YC := Aside0.mk YC
              replace hmy := Aside0.mk hmy
              replace hly := Aside0.mk hly
              clear hB B6 hl H hB6 q4 hBf q3
              go_upto_region 17 with (fail)
              rw [← hW6]
              clear hW6 y0 y1 y2 y3 y4 y5 y6 y7 a2 a3 a4 a7
              by_cases hki : k ≤ i
              · clear c2 c3 c4 c7 z0 z1 z2 z3 z4 z5 z6 z7
                go_wp2
                exact ⟨N6.out, by simp [intOf]; omega⟩
              · by_cases hcx : x.committed = true
                · rw [hcx] at c4
                  replace hcx := Aside0.mk hcx
                  by_cases hcy : y.committed = true
                  · rw [hcy] at z4
                    replace hcy := Aside0.mk hcy
                    by_cases e1 : x.ended < y.begun
                    · go_wp2
                      exact ⟨N6.out, by simp [intOf]; omega⟩
                    · by_cases e2 : y.ended < x.begun
                      · go_wp2
                        exact ⟨N6.out, by simp [intOf]; omega⟩
                      · have DJ := FR.out i k x y (by omega) hlx.out hly.out hcx.out hcy.out (by omega) (by omega)
                        replace DJ := Aside0.mk DJ
                        go_wp2_with fail
                        go_loopw [90] (fun iv wr => ∃ m : Nat, m ≤ x.writes.length ∧ iv = .int .i64 m ∧ Below W6.heap.size W6 wr) (fun iv _ => x.writes.length - (intOf iv).toNat)
                        case atStart => exact ⟨0, Nat.zero_le _, rfl, Below.refl _ _⟩
                        case round =>
                          clear c2 c3 c4 c7 z0 z1 z2 z3 z4 z5 z6 z7
                          obtain ⟨m, hm, rfl, hB⟩ := hrel
                          obtain ⟨d7, hB4⟩ := YC.out _ hB
                          by_cases hml : m < x.writes.length
                          · obtain ⟨_, _, _, _, hBf⟩ := XC.out _ hB4
                            obtain ⟨_, _, H⟩ := VC.out _ hBf
                            have hwx := H.wr _ hmx.out
                            have hwy := H.wr _ hmy.out
                            obtain ⟨gw, rfl, _⟩ := hAw (by omega)
                            obtain ⟨y0, y1⟩ := RowL.at hwx m x.writes[m] (List.getElem?_eq_getElem hml)
                            have hna := DJ.out _ (List.getElem_mem hml)
                            generalize x.writes[m] = a at y0 y1 hna
                            obtain ⟨W8, hW8⟩ : ∃ W8, W8 = wr.alloc (.cells #[.string a.1, .string a.2] 23) := ⟨_, rfl⟩
                            obtain ⟨B8, _, x0, x1⟩ := lk_box wr W8 a hW8
                            have d7' := below_cell B8 d7
                            have HS := has_calls w2.heap.size _ y.writes a W8 (hwy.grown (grown_of_below B8 none) (by simp)) (by omega)
                            rw [decide_eq_false hna] at HS
                            dsimp only at HS
                            have hB8 := Aside0.mk (below_then hB hB.size B8)
                            clear hB B8 hwx hwy H hBf hB4 hna
                            go_upto_region 21 with (fail)
                            rw [← hW8]
                            clear hW8 y0 y1 d7
                            go_wp2_with (go_at_call 22; refine HS.mono ?_; rintro e w9 ⟨rfl, B9⟩)
                            exact ⟨⟨m + 1, hml, by push_cast; rfl, below_then hB8.out hB8.out.size B9⟩, by simp [intOf]; omega⟩
                          · obtain rfl : m = x.writes.length := by omega
                            have N2 := Aside0.mk (N1.out wr hB4)
                            clear hB hB4 d7
                            go_wp2
                            exact ⟨N2.out, by simp [intOf]; omega⟩
                  · have hcy : y.committed = false := by simpa using hcy
                    rw [hcy] at z4
                    replace hcy := Aside0.mk hcy
                    go_wp2
                    exact ⟨N6.out, by simp [intOf]; omega⟩
                · have hcx : x.committed = false := by simpa using hcx
                  rw [hcx] at c4
                  replace hcx := Aside0.mk hcx
                  go_wp2
                  exact ⟨N6.out, by simp [intOf]; omega⟩
            · obtain rfl : k = xl.length := by omega
              have N3 : ∃ i' : Nat, i' ≤ xl.length ∧ Value.int .i64 ((i : Int) + 1) = .int .i64 i' ∧ Below wf.heap.size wf wr := ⟨i + 1, hil, by push_cast; rfl, hBf⟩
              replace N3 := Aside0.mk N3
              clear hB hBf H q3 q4 a2 a3 a4 a7
              go_wp2
              exact ⟨N3.out, by simp [intOf]; omega⟩
        · obtain rfl : i = xl.length := by omega
          have FN := Aside0.mk (below_then BW.out BW.out.size hB)
          clear hB H
          go_wp2
          go_ret
          exact ⟨rfl, FN.out⟩
theorem SsiFirst_calls (c : Cp) (z : Scp) (w : World) (hz : z.OK w) (hn : z.xs.length ≤ 1048576) : Calls Tryz.prog 5 #[.agg c.cells, z.val] w fun e w' => e = .returned (.bool true) ∧ Below w.heap.size w w' := by
  cases h : mayC c with
  | false => exact SsiFirst_no c z w h
  | true => exact SsiFirst_go c z w hz hn h
end Go.Proofs.YthaoedfalkebbaaGreat
