/- Cut by a program out of the seat's texts (VE): what the theorem needs, one behind the other. -/
import Derived.Test.YthaoedfalkebbaaGreatPBT
namespace Go.Proofs.YthaoedfalkebbaaGreat
open Go.RowKit Go.Maps Go.Sort Go.Lib Go.Shelf Go.Proofs.YthaoedfalkebbaaGreatW.PrintWords Go.Proofs.YthaoedfalkebbaaGreatW.PrintLast Go.Proofs.YthaoedfalkebbaaGreatW.PrintMore
set_option linter.unusedVariables false
set_option linter.unusedSimpArgs false
set_option linter.unusedSectionVars false
theorem neq67f (a b : Bool) (w : World) : (binOp .neq 67 (.agg #[.bool a, .bool b]) (.agg #[.bool a, .bool b])).run Tryz.prog w = .ok (.bool false) w := by
  cases a <;> cases b <;> kernel_rfl
def encF (f : Bool × Bool) : List Value := [.bool f.1, .bool f.2]
theorem encF_one : ∀ x, ∀ u ∈ encF x, u.oneCell' = true := fun x u hu => by
  simp only [encF, List.mem_cons, List.not_mem_nil, or_false] at hu
  rcases hu with rfl | rfl <;> rfl
abbrev RowF (w : World) (base : Nat) (v : Value) (xs : List (Bool × Bool)) : Prop := Lo encF 2 67 w base v xs
theorem info67 : (Tryz.prog.info? 67).map (fun i => (i.zero, i.size, i.bytes)) = some (some (.agg #[.bool false, .bool false]), 2, 2) := by kernel_rfl
theorem RowF.at {w : World} {base g n c : Nat} {xs : List (Bool × Bool)} (h : RowF w base (.slice (some ⟨g, 0, none⟩) n c) xs) (j : Nat) (x : Bool × Bool) (hj : xs[j]? = some x) : w.cell? ⟨g, j * 2, none⟩ = some (.bool x.1) ∧ w.cell? ⟨g, j * 2 + 1, none⟩ = some (.bool x.2) := by
  have H := h.cell (fun _ => rfl) rfl j x hj
  exact ⟨by simpa using H 0 _ rfl, H 1 _ rfl⟩
theorem Lw.nextK {w3 wr : World} {b q p : Nat} {U : Nat → Prop} {rv : Value} {c : Cp} {xs : List Opn} {k : Nat} (h : Lw w3 b q p U rv (atS c xs k) wr) (hm : mayC c = true) (hxs : xs.length ≤ 1048576) {o : Opn} (hk : xs[k]? = some o) (ho : o.OK) :
    Calls Tryz.prog 19 #[ptr q, .agg #[.int .i64 o.kind, .int .i64 o.tx, .string o.at_.1, .string o.at_.2, .string o.to_, .int .i64 o.last], .int .i64 (k : Int)] wr fun e w' => e = .returned (.int .i64 ((atS c xs k).step (iT c.reads) o k).1) ∧ Lw w3 b q p U rv (atS c xs (k + 1)) w' ∧ KeepW U wr w' := by
  have hlt := (List.getElem?_eq_some_iff.1 hk).1
  have e := atS_succ (c := c) hk
  have hb' := atS_bad (xs := xs) hm (k + 1) (by omega)
  have ec := atS_caps (c := c) (xs := xs) k
  rw [e] at hb' ⊢
  obtain ⟨F', vv, lv, xs', H, kp⟩ := h
  have e1 := step_iT (atS c xs k).m.caps.reads (atS c xs k) o k ho.at_.t ho.at_.k ho.to_
  rw [ec] at e1
  have D := do_calls H (atS_cap hm k) (by omega) (by omega) (atS_Bd k) (by omega) hxs o ho k (atS_bad hm k (by omega)) (by rw [ec, e1]; exact hb')
  rw [ec, e1] at D
  refine D.mono ?_
  rintro e2 w' ⟨rfl, F2, vv2, lv2, xs2, H2, k2⟩
  exact ⟨rfl, ⟨F2, vv2, lv2, xs2, H2, kp.trans k2⟩, k2⟩
def flg (S : Sm St) (x : Run) : Bool × Bool := ((flagV (S.actv x.tx)).1, (flagV (S.actv x.tx)).2.1)
theorem leaves_plain {W : Wld St} {c : Cp} {G G' : List Gh} {mom mom' : Int} (wl : WL (iT c.reads) (okS c) W G mom) (hm : mom ≤ 4611686018427387904) (o : Opn) (m : Int) (wl' : WL (iT c.reads) (okS c) (W.step (iT c.reads) o m).2 G' mom') {k R : Nat} (hB : Bd W k R) (h1 : 1 ≤ o.kind ∧ o.kind ≤ 3) {i : Nat} {y : Run} (hof : ofR W.list o.tx = (i : Int)) (hy : W.list[i]? = some y) (hyt : y.tx = o.tx) (hyo : y.over = false) :
    (snapV ((W.step (iT c.reads) o m).2.m.actv o.tx)).2 = (if (W.step (iT c.reads) o m).1 = 0 then 0 else 101) ∧ (W.step (iT c.reads) o m).2.list.length = W.list.length ∧
    ∀ (n : Nat) x, (W.step (iT c.reads) o m).2.list[n]? = some x → n ≠ i → x.over = false → (flagV ((W.step (iT c.reads) o m).2.m.actv x.tx)).2.2 = 0 ∧ ((W.step (iT c.reads) o m).1 ≠ 0 → ∃ z, W.list[n]? = some z ∧ flg (W.step (iT c.reads) o m).2.m x = flg W.m z) := by
  have ht : o.tx = (i : Int) + 1 := by rw [← hyt]; exact wl.mi.num i y hy
  obtain ⟨L1, L2⟩ := leaves_of (iT_law c.reads) wl hm hy hyo o ht (by omega)
  have hst := step_op (I := iT c.reads) (m := m) ⟨h1.1, by omega⟩ hof hy
  have e1 : (W.step (iT c.reads) o m).1 = (W.opAt (iT c.reads) o i y).1 := by rw [hst]; split <;> rfl
  have e2 : (W.step (iT c.reads) o m).2.m = (W.opAt (iT c.reads) o i y).2.m := by rw [hst]; split <;> rfl
  obtain ⟨x', hl, _⟩ := hB.opAt (I := iT c.reads) o hy
  have e3 : (W.step (iT c.reads) o m).2.list.length = W.list.length := by
    rw [hst]
    split
    · show ((W.opAt (iT c.reads) o i y).2.list.modify i _).length = _
      rw [List.length_modify, hl, List.length_set]
    · rw [hl, List.length_set]
  refine ⟨?_, e3, fun n x hx hn ho => ?_⟩
  · rw [e1, e2, ht]
    by_cases hr : (W.opAt (iT c.reads) o i y).1 = 0
    · obtain ⟨t, ht2⟩ := L2 hr
      rw [if_pos hr, ht2]
      rfl
    · rw [if_neg hr, L1 hr, if_pos rfl]
      rfl
  · obtain ⟨_, t, g, _, _, _, _, _, _, _, _, hav⟩ := wl'.mi.open_ hx ho
    have hxt := wl'.mi.num n x hx
    refine ⟨?_, fun hr => ?_⟩
    · rw [hxt, hav]
      rfl
    · have hlt := (List.getElem?_eq_some_iff.1 hx).1
      rw [e3] at hlt
      have hz := List.getElem?_eq_getElem hlt
      refine ⟨_, hz, ?_⟩
      have hzt := wl.mi.num n _ hz
      unfold flg
      rw [hxt, hzt, e2, L1 (by rw [← e1]; exact hr), if_neg (by omega)]
set_option maxHeartbeats 16000000 in
set_option maxRecDepth 100000 in
theorem SsiLeaves_no (c : Cp) (z : Scp) (w : World) (h : mayC c = false) : Calls Tryz.prog 8 #[.agg c.cells, z.val] w fun e w' => e = .returned (.bool true) ∧ Below w.heap.size w w' := by
  obtain ⟨w1, hw1⟩ : ∃ w1, w1 = w.alloc (.cells c.cells 31) := ⟨_, rfl⟩
  have B1 : Below w.heap.size w w1 := by rw [hw1]; exact allocB w _
  have SN := fun W => start_no c z W h
  have MN := fun W => mayC_calls c W h
  obtain ⟨ac, kp, rd, lk⟩ := c
  unfold Cp.cells at hw1 SN MN ⊢
  dsimp only at hw1 SN MN ⊢
  have ob1 : w1.heap[w.heap.size]? = some (.cells #[.int .i64 ac, .int .i64 kp, .int .i64 rd, .int .i64 lk] 31 (0, 0)) := by rw [hw1]; exact heap_alloc_new w _
  have x0 := cell_of_row w1 _ 0 _ 31 (0, 0) ob1
  have x1 := cell_of_row w1 _ 1 _ 31 (0, 0) ob1
  have x2 := cell_of_row w1 _ 2 _ 31 (0, 0) ob1
  have x3 := cell_of_row w1 _ 3 _ 31 (0, 0) ob1
  have CEL : ∀ V, Below w1.heap.size w1 V → V.cell? ⟨w.heap.size, 0, none⟩ = some (.int .i64 ac) ∧ V.cell? ⟨w.heap.size, 1, none⟩ = some (.int .i64 kp) ∧ V.cell? ⟨w.heap.size, 2, none⟩ = some (.int .i64 rd) ∧ V.cell? ⟨w.heap.size, 3, none⟩ = some (.int .i64 lk) := fun V B => ⟨below_cell B x0, below_cell B x1, below_cell B x2, below_cell B x3⟩
  replace CEL := Aside0.mk CEL
  replace B1 := Aside0.mk B1
  replace SN := Aside0.mk SN
  replace MN := Aside0.mk MN
  clear ob1 h x0 x1 x2 x3
  unfold Scp.val at SN ⊢
  go_enter Tryz.func8, Tryz.ntmps8
  go_upto_region 1 with (fail)
  rw [← hw1]
  clear hw1
  go_wp2_with (go_at_call 11; refine (begun_calls w1).mono ?_; rintro e w2 ⟨rfl, B2⟩; obtain ⟨x0, x1, x2, x3⟩ := CEL.out w2 B2; have SNw := SN.out w2)
  go_wp2_with (first | (go_at_call 17; refine SNw.mono ?_; rintro e w3 ⟨rfl, B3⟩; clear x0 x1 x2 x3; obtain ⟨x0, x1, x2, x3⟩ := CEL.out w3 (below_then B2 B2.size B3); have MNw := MN.out w3) | (go_at_call 18; refine MNw.mono ?_; rintro e w4 ⟨rfl, B4⟩))
  go_ret
  exact ⟨rfl, below_then (below_then (below_then B1.out B1.out.size B2) (below_then B1.out B1.out.size B2).size B3) (below_then (below_then B1.out B1.out.size B2) (below_then B1.out B1.out.size B2).size B3).size B4⟩
set_option maxHeartbeats 32000000 in
set_option maxRecDepth 100000 in
theorem SsiLeaves_go (c : Cp) (z : Scp) (w : World) (hz : z.OK w) (hn : z.xs.length ≤ 1048576) (h : mayC c = true) : Calls Tryz.prog 8 #[.agg c.cells, z.val] w fun e w' => e = .returned (.bool true) ∧ Below w.heap.size w w' := by
  obtain ⟨w1, hw1⟩ : ∃ w1, w1 = w.alloc (.cells c.cells 31) := ⟨_, rfl⟩
  have B1 : Below w.heap.size w w1 := by rw [hw1]; exact allocB w _
  have SY := fun W (B : Below w.heap.size w W) => start_calls (UpFrom W.heap.size) c z W (top_up W) ⟨Kd.C_below hz.reads B, hz.ops, hz.len⟩ h
  obtain ⟨A, cz, xs⟩ := z
  obtain ⟨hC, hops, hlen⟩ := hz
  have FI := atS_WI (xs := xs) h xs.length (by dsimp only at hn; omega)
  have FB := atS_Bd (c := c) (xs := xs) xs.length
  have FG := atS_bad (xs := xs) h xs.length (by dsimp only at hn; omega)
  unfold Scp.val at SY ⊢
  dsimp only at hC hops hn SY ⊢
  have cc : c.cells = #[.int .i64 c.active, .int .i64 c.kept, .int .i64 c.reads, .int .i64 c.locks] := rfl
  rw [cc] at hw1 SY ⊢
  have ob1 : w1.heap[w.heap.size]? = some (.cells #[.int .i64 c.active, .int .i64 c.kept, .int .i64 c.reads, .int .i64 c.locks] 31 (0, 0)) := by rw [hw1]; exact heap_alloc_new w _
  have x0 := cell_of_row w1 _ 0 _ 31 (0, 0) ob1
  have x1 := cell_of_row w1 _ 1 _ 31 (0, 0) ob1
  have x2 := cell_of_row w1 _ 2 _ 31 (0, 0) ob1
  have x3 := cell_of_row w1 _ 3 _ 31 (0, 0) ob1
  have CEL : ∀ V, Below w1.heap.size w1 V → V.cell? ⟨w.heap.size, 0, none⟩ = some (.int .i64 c.active) ∧ V.cell? ⟨w.heap.size, 1, none⟩ = some (.int .i64 c.kept) ∧ V.cell? ⟨w.heap.size, 2, none⟩ = some (.int .i64 c.reads) ∧ V.cell? ⟨w.heap.size, 3, none⟩ = some (.int .i64 c.locks) := fun V B => ⟨below_cell B x0, below_cell B x1, below_cell B x2, below_cell B x3⟩
  replace CEL := Aside0.mk CEL
  replace B1 := Aside0.mk B1
  replace SY := Aside0.mk SY
  replace FI := Aside0.mk FI
  replace FB := Aside0.mk FB
  replace FG := Aside0.mk FG
  replace hC := Aside0.mk hC
  replace hops := Aside0.mk hops
  replace cc := Aside0.mk cc
  clear ob1 hlen x0 x1 x2 x3
  go_enter Tryz.func8, Tryz.ntmps8
  go_upto_region 1 with (fail)
  rw [← hw1]
  clear hw1
  go_wp2_with (go_at_call 11; refine (begun_calls w1).mono ?_; rintro e w2 ⟨rfl, B2⟩; obtain ⟨x0, x1, x2, x3⟩ := CEL.out w2 B2)
  have B12 := below_then B1.out B1.out.size B2
  have SYw := SY.out w2 B12
  go_wp2_with (go_at_call 17; refine SYw.mono ?_; rintro e w3 ⟨q, p, rv, rfl, H3, B3⟩; clear x0 x1 x2 x3)
  have L0 : Lw w3 w2.heap.size q p (UpFrom w2.heap.size) rv (atS c xs 0) w3 := ⟨F0, _, _, _, H3, Fr.refl _ _, fun k c e s h _ => h⟩
  have AH : ∀ {W V}, Lw w3 w2.heap.size q p (UpFrom w2.heap.size) rv W V → Below w.heap.size w V := fun hL => by
    have b := hL.ahead B3.size (fun k hk => hk)
    have b2 := below_then B12 B12.size B3
    exact ⟨b.os.trans b2.os, b.tape.trans b2.tape, b.output.trans b2.output, by have := b.size; have := b2.size; omega, fun k hk => (b.block k (by have := B12.size; omega)).trans (b2.block k hk)⟩
  have WLk := fun k hk => atS_WL (c := c) (xs := xs) h k hk
  replace WLk := Aside0.mk WLk
  replace AH := Aside0.mk @AH
  clear H3 SYw B2
  replace B3 := Aside0.mk B3
  replace B12 := Aside0.mk B12
  go_wp2_with fail
  go_loopw [37] (fun iv wr => ∃ k : Nat, k ≤ xs.length ∧ iv = .int .i64 k ∧ Lw w3 w2.heap.size q p (UpFrom w2.heap.size) rv (atS c xs k) wr) (fun iv _ => xs.length - (intOf iv).toNat)
  case atStart => exact ⟨0, Nat.zero_le _, rfl, L0⟩
  case round =>
    clear L0
    obtain ⟨k, hk, rfl, hL⟩ := hrel
    by_cases hkl : k < xs.length
    · have C := Kd.C_below hC.out (AH.out hL)
      obtain ⟨ad, rfl, q0, q1, q2, q3', q4, q5⟩ := opn_at C k hkl
      have hox := hops.out _ (List.getElem_mem hkl)
      obtain ⟨W4, hW4⟩ : ∃ W4, W4 = wr.alloc (boxOn xs[k]) := ⟨_, rfl⟩
      have B4 : Below wr.heap.size wr W4 := by rw [hW4]; exact allocB wr _
      have ob4 : W4.heap[wr.heap.size]? = some (boxOn xs[k]) := by rw [hW4]; exact heap_alloc_new wr _
      have hL0 := hL
      have B40 := B4
      have ob40 := ob4
      have hok : xs[k]? = some xs[k] := List.getElem?_eq_getElem hkl
      have ST4 := fun V (hLV : Lw w3 w2.heap.size q p (UpFrom w2.heap.size) rv (atS c xs k) V) => hLV.nextK h hn (List.getElem?_eq_getElem hkl) hox
      unfold boxOn at hW4
      generalize xs[k] = o at q0 q1 q2 q3' q4 q5 ST4 hW4 ob4 ob40 hok hox
      obtain ⟨r0, r1, r2, r3, r4, r5⟩ := opn_cells ob4
      replace hox := Aside0.mk hox
      clear ob4 B4 hL C
      obtain ⟨G, wl⟩ := WLk.out k (by omega)
      have FBk := atS_Bd (c := c) (xs := xs) k
      have hL4 := hL0.below B40
      obtain ⟨W, hWe⟩ : ∃ W, atS c xs k = W := ⟨_, rfl⟩
      rw [hWe] at wl FBk hL4
      have hL4' := hL4
      obtain ⟨F', vv, lv, xl, H, kp⟩ := hL4'
      have hxl : xl.length = W.list.length := by rw [← H.fst, List.length_map]
      obtain ⟨A2, c2, hlv, _, hAl⟩ := H.list.slice
      have q3 := H.cell.2.2.2.1
      rw [hlv] at q3
      have hxb : xl.length ≤ 1048576 := by have := FBk.list; omega
      have hnum := wl.mi.num
      have VC : ∀ V, Below W4.heap.size W4 V → V.cell? ⟨q, 0, none⟩ = some (ptr p) ∧ Wm V w2.heap.size q p F' (UpFrom w2.heap.size) W rv vv lv xl ∧ Lw w3 w2.heap.size q p (UpFrom w2.heap.size) rv W V := fun V B => ⟨(H.below B).cell.1, H.below B, hL4.below B⟩
      have FLc : ∀ V, Below W4.heap.size W4 V → ∀ x : Run, x ∈ W.list → Calls Tryz.prog 27 #[ptr p, .int .i64 x.tx] V fun e w' => e = .returned (.tuple #[.agg #[.bool (flg W.m x).1, .bool (flg W.m x).2], .int .i64 (flagV (W.m.actv x.tx)).2.2]) ∧ Below V.heap.size V w' := fun V B x hx => by
        obtain ⟨n, hn2⟩ := List.mem_iff_getElem?.1 hx
        have := hnum n x hn2
        have hlt := (List.getElem?_eq_some_iff.1 hn2).1
        exact (H.below B).m.flags (okN_small x.tx (by omega))
      replace VC := Aside0.mk VC
      replace FLc := Aside0.mk FLc
      replace hlv := Aside0.mk hlv
      replace hxl := Aside0.mk hxl
      replace hnum := Aside0.mk hnum
      replace wl := Aside0.mk wl
      replace hWe := Aside0.mk hWe
      replace hL0 := Aside0.mk hL0
      replace ST4 := Aside0.mk ST4
      obtain ⟨bo, hbo⟩ : ∃ bo, bo = wr.heap.size := ⟨_, rfl⟩
      rw [← hbo] at ob40 r0 r1 r2 r3 r4 r5
      clear H kp hL4 FBk
      go_upto_region 9 with (fail)
      rw [← hW4, ← hbo]
      clear hW4 q0 q1 q2 q3' q4 q5
      replace hbo := Aside0.mk hbo
      replace ob40 := Aside0.mk ob40
      replace hok := Aside0.mk hok
      go_wp2_with fail
      go_loopw [9, 47] (fun bv iv wr => ∃ j : Nat, j ≤ xl.length ∧ iv = .int .i64 j ∧ RowF wr W4.heap.size bv ((W.list.take j).map (flg W.m)) ∧ Below W4.heap.size W4 wr) (fun _ iv _ => xl.length - (intOf iv).toNat)
      case atStart => exact ⟨0, Nat.zero_le _, rfl, Lo.nil _ _, Below.refl _ _⟩
      case round =>
        clear q3
        obtain ⟨j, hj, rfl, hR, hB⟩ := hrel
        obtain ⟨q0, H, _⟩ := VC.out _ hB
        by_cases hjl : j < xl.length
        · obtain ⟨g, rfl, _⟩ := hAl (by omega)
          have hl := H.list
          rw [hlv.out] at hl
          obtain ⟨y0, y1, y2, y3, y4, y5, y6, y7⟩ := RowX.at hl j xl[j] (List.getElem?_eq_getElem hjl)
          have hmx := List.getElem_mem hjl
          obtain ⟨Ar, cr, er, _, _⟩ := (H.rd _ hmx).slice
          obtain ⟨Aw, cw, ew, _, _⟩ := (H.wr _ hmx).slice
          have hlx : W.list[j]? = some xl[j].1 := H.list_at (List.getElem?_eq_getElem hjl)
          generalize xl[j] = x at y0 y1 y2 y3 y4 y5 y6 y7 er ew hmx hlx
          obtain ⟨x, rv', wv'⟩ := x
          dsimp only at y0 y1 y2 y3 y4 y5 y6 y7 er ew hmx hlx
          subst er ew
          obtain ⟨W9, hW9⟩ : ∃ W9, W9 = wr.alloc (boxX (x, .slice Ar x.reads.length cr, .slice Aw x.writes.length cw)) := ⟨_, rfl⟩
          unfold boxX at hW9
          dsimp only at hW9
          have B9 : Below wr.heap.size wr W9 := by rw [hW9]; exact allocB wr _
          obtain ⟨x0, x1, x2, x3, x4, x5, x6, x7⟩ := run_cells (x := (x, .slice Ar x.reads.length cr, .slice Aw x.writes.length cw)) (by rw [hW9]; exact heap_alloc_new wr _ : W9.heap[wr.heap.size]? = some (boxX (x, .slice Ar x.reads.length cr, .slice Aw x.writes.length cw)))
          dsimp only at x0 x1 x2 x3 x4 x5 x6 x7
          have hB9 := below_then hB hB.size B9
          have q0' := below_cell B9 q0
          have FL := fun V (B : Below W9.heap.size W9 V) => FLc.out V (below_then hB9 hB9.size B) x (List.mem_of_getElem? hlx)
          have hR9 := hR.grown (grown_of_below B9 none) (by simp)
          have hms : (W.list.take (j + 1)).map (flg W.m) = (W.list.take j).map (flg W.m) ++ [flg W.m x] := by
            rw [List.take_add_one, hlx, List.map_append]
            rfl
          have hln : ((W.list.take j).map (flg W.m)).length ≤ 1048576 := by
            rw [List.length_map, List.length_take]
            omega
          generalize (W.list.take j).map (flg W.m) = Fl at hR9 hms hln
          generalize flg W.m x = fx at hms FL
          generalize (flagV (W.m.actv x.tx)).2.2 = he at FL
          have NX : ∀ V v, RowF V W4.heap.size v (Fl ++ [fx]) → Below W4.heap.size W4 V → ∃ j' : Nat, j' ≤ xl.length ∧ Value.int .i64 ((j : Int) + 1) = .int .i64 j' ∧ RowF V W4.heap.size v ((W.list.take j').map (flg W.m)) ∧ Below W4.heap.size W4 V := fun V v h1 h2 => ⟨j + 1, hjl, by push_cast; rfl, by rw [hms]; exact h1, h2⟩
          replace NX := Aside0.mk NX
          replace hB9 := Aside0.mk hB9
          replace hR9 := Aside0.mk hR9
          replace hms := Aside0.mk hms
          clear B9 hl H hmx hlx hB hR q0
          go_upto_region 13 with (fail)
          rw [← hW9]
          clear hW9 y0 y1 y2 y3 y4 y5 y6 y7 x1 x2 x3 x4 x5 x6 x7
          go_wp2_with fail
          have AD : Below W9.heap.size W9 (W9.alloc (.cells #[.bool false, .bool false] 67)).drew := below_then (allocB W9 _) (allocB W9 _).size (drewB1 _)
          have ADo : (W9.alloc (.cells #[.bool false, .bool false] 67)).drew.heap[W9.heap.size]? = some (.cells #[.bool false, .bool false] 67 (0, 0)) := ((drewB1 _).block _ (by simp)).trans (heap_alloc_new W9 _)
          replace AD := Aside0.mk AD
          replace ADo := Aside0.mk ADo
          go_region_held3 (fun V => V.cell? ⟨q, 0, none⟩ = some (ptr p) ∧ V.cell? ⟨wr.heap.size, 0, none⟩ = some (.int .i64 x.tx)) (first | exact K9 | exact ⟨below_cell (allocB _ _) K9.1, below_cell (allocB _ _) K9.2⟩ | exact ⟨below_cell AD.out q0', below_cell AD.out x0⟩ | exact ⟨q0', x0⟩ | exact ⟨below_cell BW2 q0', below_cell BW2 x0⟩)
              (first | (go_at_call 27; refine (FL _ (drewB2 W9 _)).mono ?_; rintro e w10 ⟨rfl, B10⟩; have BW := below_then (drewB2 W9 _) (drewB2 W9 _).size B10; have K9 : w10.cell? ⟨q, 0, none⟩ = some (ptr p) ∧ w10.cell? ⟨wr.heap.size, 0, none⟩ = some (.int .i64 x.tx) := ⟨below_cell BW q0', below_cell BW x0⟩) | (go_at_call 27; refine (FL _ AD.out).mono ?_; rintro e w10 ⟨rfl, B10⟩; have BW := below_then AD.out AD.out.size B10; have obz : w10.heap[W9.heap.size]? = some (.cells #[.bool false, .bool false] 67 (0, 0)) := (B10.block _ (Array.getElem?_eq_some_iff.1 ADo.out).1).trans ADo.out; have z0 := cell_of_row w10 _ 0 _ 67 (0, 0) obz; have z1 := cell_of_row w10 _ 1 _ 67 (0, 0) obz; have f0 : w10.frozen? ⟨W9.heap.size, 0, none⟩ = false := blk_frozen obz _; have f1 : w10.frozen? ⟨W9.heap.size, 1, none⟩ = false := blk_frozen obz _; have BW2 := (BW.grown (grown_set w10 W9.heap.size 0 (.bool fx.1)) BW.size (fun k hk => by injection hk with hk; omega)).grown (grown_set (w10.setCell ⟨W9.heap.size, 0, none⟩ (.bool fx.1)) W9.heap.size 1 (.bool fx.2)) (Nat.le_trans BW.size (grown_set w10 W9.heap.size 0 (.bool fx.1)).size) (fun k hk => by injection hk with hk; omega); have K9 : w10.cell? ⟨q, 0, none⟩ = some (ptr p) ∧ w10.cell? ⟨wr.heap.size, 0, none⟩ = some (.int .i64 x.tx) := ⟨below_cell BW q0', below_cell BW x0⟩))
          · obtain ⟨Wf, hWf⟩ : ∃ Wf, Wf = w10.alloc (.cells #[.bool fx.1, .bool fx.2] 67) := ⟨_, rfl⟩
            obtain ⟨ad, had⟩ : ∃ ad, ad = w10.heap.size := ⟨_, rfl⟩
            have obf : Wf.heap[ad]? = some (.cells #[.bool fx.1, .bool fx.2] 67 (0, 0)) := by rw [hWf, had]; exact heap_alloc_new w10 _
            have BWf : Below W9.heap.size W9 Wf := by rw [hWf]; exact below_then BW BW.size (allocB w10 _)
            rw [← hWf, ← had]
            clear hWf had K9 B10 BW
            have t0 : Wf.cell? ⟨ad, 0, none⟩ = some (.bool fx.1) := cell_of_row Wf ad 0 _ 67 (0, 0) obf
            have t1 : Wf.cell? ⟨ad, 1, none⟩ = some (.bool fx.2) := cell_of_row Wf ad 1 _ 67 (0, 0) obf
            have hBf := below_then hB9.out hB9.out.size BWf
            have hRf := hR9.out.grown (grown_of_below BWf none) (by simp)
            obtain ⟨v5, w5, hrun, L5, g5⟩ := Lo.append (P := Tryz.prog) hRf (fun _ => rfl) encF_one 65 65 _ 2 Tryz.underlying65 info67 rfl (by decide) (by decide) fx (by omega) hBf.size
            have N1 := Aside0.mk (NX.out w5 v5 L5 (hBf.grown g5 hBf.size (fun b hb => (hRf.typed b hb).1)))
            clear L5 g5 hRf hBf BWf obf FL
            go_wp2_with (at_builtin; refine app_list rfl rfl rfl rfl hrun ?_)
            exact ⟨N1.out, by simp [intOf]; omega⟩
          · obtain ⟨Wf, hWf⟩ : ∃ Wf, Wf = (w10.setCell ⟨W9.heap.size, 0, none⟩ (.bool fx.1)).setCell ⟨W9.heap.size, 1, none⟩ (.bool fx.2) := ⟨_, rfl⟩
            obtain ⟨ad, had⟩ : ∃ ad, ad = W9.heap.size := ⟨_, rfl⟩
            have obf : Wf.heap[ad]? = some (.cells #[.bool fx.1, .bool fx.2] 67 (0, 0)) := by rw [hWf, had, blk_set (blk_set obz 0 _) 1 _]; rfl
            have BWf : Below W9.heap.size W9 Wf := by rw [hWf]; exact (BW.grown (grown_set w10 W9.heap.size 0 (.bool fx.1)) BW.size (fun k hk => by injection hk with hk; omega)).grown (grown_set (w10.setCell ⟨W9.heap.size, 0, none⟩ (.bool fx.1)) W9.heap.size 1 (.bool fx.2)) (Nat.le_trans BW.size (grown_set w10 W9.heap.size 0 (.bool fx.1)).size) (fun k hk => by injection hk with hk; omega)
            rw [← hWf, ← had]
            clear hWf had K9 B10 BW obz z0 z1 f0 f1
            have t0 : Wf.cell? ⟨ad, 0, none⟩ = some (.bool fx.1) := cell_of_row Wf ad 0 _ 67 (0, 0) obf
            have t1 : Wf.cell? ⟨ad, 1, none⟩ = some (.bool fx.2) := cell_of_row Wf ad 1 _ 67 (0, 0) obf
            have hBf := below_then hB9.out hB9.out.size BWf
            have hRf := hR9.out.grown (grown_of_below BWf none) (by simp)
            obtain ⟨v5, w5, hrun, L5, g5⟩ := Lo.append (P := Tryz.prog) hRf (fun _ => rfl) encF_one 65 65 _ 2 Tryz.underlying65 info67 rfl (by decide) (by decide) fx (by omega) hBf.size
            have N1 := Aside0.mk (NX.out w5 v5 L5 (hBf.grown g5 hBf.size (fun b hb => (hRf.typed b hb).1)))
            clear L5 g5 hRf hBf BWf obf FL
            go_wp2_with (at_builtin; refine app_list rfl rfl rfl rfl hrun ?_)
            exact ⟨N1.out, by simp [intOf]; omega⟩
        · obtain rfl : j = xl.length := by omega
          obtain ⟨A9, c9, rfl, _, hA9⟩ := hR.slice
          rw [hxl.out, List.take_length] at hR hA9 ⊢
          obtain ⟨q0, H, hLw⟩ := VC.out _ hB
          have OB : ∀ V, Below W4.heap.size W4 V → V.heap[bo]? = some (boxOn o) := fun V B => (B.block _ (Array.getElem?_eq_some_iff.1 ob40.out).1).trans ob40.out
          obtain ⟨r0', r1', r2', r3', r4', r5'⟩ := opn_cells (OB wr hB)
          have OF : Calls Tryz.prog 23 #[ptr q, .int .i64 o.tx] wr fun e w2 => e = .returned (.int .i64 (ofR W.list o.tx)) ∧ Below wr.heap.size wr w2 := by
            have := of_calls w2.heap.size q lv xl o.tx wr H.cell.2.2.2.1 H.list (by omega) H.slices
            rw [H.fst] at this
            exact this
          replace OB := Aside0.mk OB
          clear r0 r1 r2 r3 r4 r5 H
          go_upto_region 17 with (go_at_call 23; refine OF.mono ?_; rintro e w10 ⟨rfl, B10⟩)
          have hB10 := below_then hB hB.size B10
          have hR10 := hR.grown (grown_of_below B10 none) (by simp)
          obtain ⟨q0', _, hLw10⟩ := VC.out _ hB10
          have ob10 := OB.out _ hB10
          have STw := ST4.out w10 (by rw [hWe.out]; exact hLw10)
          rw [hWe.out] at STw
          obtain ⟨G2, wl2⟩ := WLk.out (k + 1) (by omega)
          have es : atS c xs (k + 1) = (W.step (iT c.reads) o k).2 := by rw [← hWe.out]; exact atS_succ hok.out
          have hbl : ∀ b, (Value.slice A9 (W.list.map (flg W.m)).length c9).ownBlock = some b → ∃ cs, w10.heap[b]? = some (.cells cs 67 (0, 0)) := fun b hb => by
            obtain ⟨_, _, cs, hc⟩ := hR10.typed b hb
            exact ⟨cs, hc⟩
          obtain ⟨s0, s1, s2, s3, s4, s5⟩ := opn_cells ob10
          generalize hr : (W.step (iT c.reads) o k).1 = r at STw
          have FBk := atS_Bd (c := c) (xs := xs) k
          rw [hWe.out] at FBk
          rw [es] at wl2
          have LP := fun (h1 : 1 ≤ o.kind ∧ o.kind ≤ 3) (i : Nat) (y : Run) hof hy hyt hyo => leaves_plain wl.out (by omega) o (k : Int) wl2 FBk h1 (i := i) (y := y) hof hy hyt hyo
          rw [hr] at LP
          rcases ofR_cases W.list o.tx with ⟨hof, _⟩ | ⟨i, y, hof, hy, hyt, hyo⟩
          · generalize ofR W.list o.tx = oi at hof
            clear LP wl2 hr hbl hR10 hLw10 hR hLw hB hB10 B10 OF r0' r1' r2' r3' r4' r5' q0
            go_wp2_with (go_at_call 19; refine STw.mono ?_; rintro e w11 ⟨rfl, hL11, hk11⟩; clear s0 s1 s2 s3 s4 s5; obtain ⟨s0, s1, s2, s3, s4, s5⟩ := opn_cells (hk11.block _ _ _ _ ob10 rfl); have N1 : ∃ k' : Nat, k' ≤ xs.length ∧ Value.int .i64 ((k : Int) + 1) = .int .i64 k' ∧ Lw w3 w2.heap.size q p (UpFrom w2.heap.size) rv (atS c xs k') w11 := ⟨k + 1, hkl, by push_cast; rfl, hL11⟩; replace N1 := Aside0.mk N1; clear hL11 hk11)
            all_goals exact ⟨N1.out, by simp [intOf]; omega⟩
          · rw [hof]
            have LQ := fun h1 => LP h1 i y hof hy hyt hyo
            replace LQ := Aside0.mk LQ
            clear LP wl2 hr OF r0' r1' r2' r3' r4' r5' q0 hLw10 hR hLw hB hB10 B10
            go_upto_region 18 with (go_at_call 19; refine STw.mono ?_; rintro e w11 ⟨rfl, hL11, hk11⟩)
            clear s0 s1 s2 s3 s4 s5
            obtain ⟨s0, s1, s2, s3, s4, s5⟩ := opn_cells (hk11.block _ _ _ _ ob10 rfl)
            have hR11 : RowF w11 W4.heap.size (.slice A9 (W.list.map (flg W.m)).length c9) (W.list.map (flg W.m)) := hR10.move fun b hb => by
              obtain ⟨cs, hc⟩ := hbl b hb
              exact (hk11.block _ _ _ _ hc rfl).trans hc.symm
            have N1 : ∃ k' : Nat, k' ≤ xs.length ∧ Value.int .i64 ((k : Int) + 1) = .int .i64 k' ∧ Lw w3 w2.heap.size q p (UpFrom w2.heap.size) rv (atS c xs k') w11 := ⟨k + 1, hkl, by push_cast; rfl, hL11⟩
            replace N1 := Aside0.mk N1
            by_cases k1 : o.kind < 1
            · clear hL11 hk11 hR11 hR10 hbl STw
              go_wp2
              exact ⟨N1.out, by simp [intOf]; omega⟩
            · by_cases k2 : 3 < o.kind
              · clear hL11 hk11 hR11 hR10 hbl STw
                go_wp2
                exact ⟨N1.out, by simp [intOf]; omega⟩
              · obtain ⟨LA, LB, LC⟩ := LQ.out ⟨by omega, by omega⟩
                have hL12 := hL11
                rw [es] at hL11
                obtain ⟨W', hW'⟩ : ∃ W', W' = (W.step (iT c.reads) o k).2 := ⟨_, rfl⟩
                rw [← hW'] at hL11 LA LB LC
                have FBk2 := atS_Bd (c := c) (xs := xs) (k + 1)
                obtain ⟨F2, vv2, lv2, xl2, H2, kp2⟩ := hL11
                have hxl2 : xl2.length = W'.list.length := by rw [← H2.fst, List.length_map]
                have hxb2 : xl2.length ≤ 1048576 := by rw [hxl2, LB, ← hxl.out]; exact hxb
                obtain ⟨A3, c3, hlv2, _, hAl2⟩ := H2.list.slice
                have VC2 : ∀ V, Below w11.heap.size w11 V → V.cell? ⟨q, 0, none⟩ = some (ptr p) ∧ V.cell? ⟨q, 3, none⟩ = some (.slice A3 xl2.length c3) ∧ Wm V w2.heap.size q p F2 (UpFrom w2.heap.size) W' rv vv2 lv2 xl2 := fun V B => by
                  have HV := H2.below B
                  have e2 := HV.cell.2.2.2.1
                  rw [hlv2] at e2
                  exact ⟨HV.cell.1, e2, HV⟩
                have BFR : ∀ V, Below w11.heap.size w11 V → RowF V W4.heap.size (.slice A9 (W.list.map (flg W.m)).length c9) (W.list.map (flg W.m)) := fun V B => hR11.grown (grown_of_below B none) (by simp)
                have NXk : ∀ V, Below w11.heap.size w11 V → ∃ k' : Nat, k' ≤ xs.length ∧ Value.int .i64 ((k : Int) + 1) = .int .i64 k' ∧ Lw w3 w2.heap.size q p (UpFrom w2.heap.size) rv (atS c xs k') V := fun V B => ⟨k + 1, hkl, by push_cast; rfl, hL12.below B⟩
                have hnum2 : ∀ (n : Nat) x, W'.list[n]? = some x → x.tx = (n : Int) + 1 := by
                  obtain ⟨G3, wl3⟩ := WLk.out (k + 1) (by omega)
                  rw [es, ← hW'] at wl3
                  exact wl3.mi.num
                have SN := fun n => (H2.below (drewB2 w11 n)).m.snapshot hox.out.tx
                obtain ⟨eb, heb⟩ : ∃ eb : Bool, eb = (r != 0) := ⟨_, rfl⟩
                have e2 : (r != 0) = eb := heb.symm
                have e1 : ((snapV (W'.m.actv o.tx)).2 == 101) = eb := by
                  rw [LA, heb]
                  by_cases hr0 : r = 0
                  · rw [if_pos hr0, hr0]; rfl
                  · rw [if_neg hr0]; simp [hr0]
                have e1' : decide ((snapV (W'.m.actv o.tx)).2 = 101) = eb := by rw [← e1]; rfl
                have FAC : ∀ (n : Nat) x, W'.list[n]? = some x → n ≠ i → x.over = false → (flagV (W'.m.actv x.tx)).2.2 = 0 ∧ (eb = true → ∃ hz : W.list[n]? = some (W.list.getD n ⟨0, 0, 0, 0, false, false, [], []⟩), (W.list[n]?).map (flg W.m) = some (flg W'.m x)) := fun n x hx hn ho => by
                  obtain ⟨h1, h2⟩ := LC n x hx hn ho
                  refine ⟨h1, fun h => ?_⟩
                  obtain ⟨z, hz, hze⟩ := h2 (by rw [heb] at h; simpa using h)
                  refine ⟨by rw [List.getD_eq_getElem?_getD, hz]; rfl, by rw [hz, hze]; rfl⟩
                have FLc2 : ∀ V, Below w11.heap.size w11 V → ∀ x : Run, x ∈ W'.list → Calls Tryz.prog 27 #[ptr p, .int .i64 x.tx] V fun e w' => e = .returned (.tuple #[.agg #[.bool (flg W'.m x).1, .bool (flg W'.m x).2], .int .i64 (flagV (W'.m.actv x.tx)).2.2]) ∧ Below V.heap.size V w' := fun V B x hx => by
                  obtain ⟨n, hn2⟩ := List.mem_iff_getElem?.1 hx
                  have := hnum2 n x hn2
                  have hlt := (List.getElem?_eq_some_iff.1 hn2).1
                  exact (H2.below B).m.flags (okN_small x.tx (by omega))
                generalize (snapV (W'.m.actv o.tx)).2 = sn at SN e1 e1'
                generalize (snapV (W'.m.actv o.tx)).1 = sn1 at SN
                have q0 := (VC2 w11 (Below.refl _ _)).1
                replace VC2 := Aside0.mk VC2
                replace BFR := Aside0.mk BFR
                replace NXk := Aside0.mk NXk
                replace FAC := Aside0.mk FAC
                replace FLc2 := Aside0.mk FLc2
                replace hlv2 := Aside0.mk hlv2
                replace hxl2 := Aside0.mk hxl2
                replace heb := Aside0.mk heb
                replace hW' := Aside0.mk hW'
                clear H2 kp2 hL12 hR11 hR10 hbl FBk2 LA LB LC hk11 STw FBk hnum2 LQ N1
                go_wp2_with fail
                go_region_held3 (fun V => V.cell? ⟨q, 0, none⟩ = some (ptr p) ∧ V.cell? ⟨bo, 1, none⟩ = some (.int .i64 o.tx)) (first | exact K9 | exact ⟨q0, s1⟩)
                  ((go_at_call 28; refine (SN _).mono ?_; rintro e w12 ⟨rfl, rfl⟩; have K9 : (w11.drewN 1).cell? ⟨q, 0, none⟩ = some (ptr p) ∧ (w11.drewN 1).cell? ⟨bo, 1, none⟩ = some (.int .i64 o.tx) := ⟨below_cell (drewB2 w11 _) q0, below_cell (drewB2 w11 _) s1⟩))
                have Bd := drewB2 w11 1
                obtain ⟨wd, hwd⟩ : ∃ wd, wd = w11.drewN 1 := ⟨_, rfl⟩
                first | rw [← hwd] at Bd ⊢ | (have hwd2 : wd = w11.drew := hwd; rw [← hwd] at Bd; rw [← hwd2])
                have q3 := (VC2.out _ Bd).2.1
                have ne1 : (eb != eb) = false := by simp
                clear SN K9 q0 s0 s1 s2 s3 s4 s5
                replace hwd := Aside0.mk hwd
                replace Bd := Aside0.mk Bd
                go_wp2_with fail
                go_loopw [106] (fun iv wr => ∃ j : Nat, j ≤ xl2.length ∧ iv = .int .i64 j ∧ Below w11.heap.size w11 wr) (fun iv _ => xl2.length - (intOf iv).toNat)
                case atStart => exact ⟨0, Nat.zero_le _, rfl, Bd.out⟩
                case round =>
                  clear q3
                  obtain ⟨j, hj, rfl, hB⟩ := hrel
                  obtain ⟨q0, _, H⟩ := VC2.out _ hB
                  by_cases hjl : j < xl2.length
                  · obtain ⟨g, rfl, _⟩ := hAl2 (by omega)
                    have hl := H.list
                    rw [hlv2.out] at hl
                    obtain ⟨y0, y1, y2, y3, y4, y5, y6, y7⟩ := RowX.at hl j xl2[j] (List.getElem?_eq_getElem hjl)
                    have hmx := List.getElem_mem hjl
                    obtain ⟨Ar, cr, er, _, _⟩ := (H.rd _ hmx).slice
                    obtain ⟨Aw, cw, ew, _, _⟩ := (H.wr _ hmx).slice
                    have hlx : W'.list[j]? = some xl2[j].1 := H.list_at (List.getElem?_eq_getElem hjl)
                    generalize xl2[j] = x at y0 y1 y2 y3 y4 y5 y6 y7 er ew hmx hlx
                    obtain ⟨x, rv', wv'⟩ := x
                    dsimp only at y0 y1 y2 y3 y4 y5 y6 y7 er ew hmx hlx
                    subst er ew
                    obtain ⟨W9, hW9⟩ : ∃ W9, W9 = wr.alloc (boxX (x, .slice Ar x.reads.length cr, .slice Aw x.writes.length cw)) := ⟨_, rfl⟩
                    unfold boxX at hW9
                    dsimp only at hW9
                    have B9 : Below wr.heap.size wr W9 := by rw [hW9]; exact allocB wr _
                    obtain ⟨x0, x1, x2, x3, x4, x5, x6, x7⟩ := run_cells (x := (x, .slice Ar x.reads.length cr, .slice Aw x.writes.length cw)) (by rw [hW9]; exact heap_alloc_new wr _ : W9.heap[wr.heap.size]? = some (boxX (x, .slice Ar x.reads.length cr, .slice Aw x.writes.length cw)))
                    dsimp only at x0 x1 x2 x3 x4 x5 x6 x7
                    have hB9 := below_then hB hB.size B9
                    have q0' := below_cell B9 q0
                    have FL := fun V (B : Below W9.heap.size W9 V) => FLc2.out V (below_then hB9 hB9.size B) x (List.mem_of_getElem? hlx)
                    obtain ⟨fx, hfx⟩ : ∃ fx, fx = flg W'.m x := ⟨_, rfl⟩
                    rw [← hfx] at FL
                    obtain ⟨he, hhe⟩ : ∃ he, he = (flagV (W'.m.actv x.tx)).2.2 := ⟨_, rfl⟩
                    rw [← hhe] at FL
                    have NX : ∀ V, Below w11.heap.size w11 V → ∃ j' : Nat, j' ≤ xl2.length ∧ Value.int .i64 ((j : Int) + 1) = .int .i64 j' ∧ Below w11.heap.size w11 V := fun V h => ⟨j + 1, hjl, by push_cast; rfl, h⟩
                    replace NX := Aside0.mk NX
                    replace hB9 := Aside0.mk hB9
                    replace hfx := Aside0.mk hfx
                    replace hhe := Aside0.mk hhe.symm
                    replace hlx := Aside0.mk hlx
                    clear B9 hl H hmx hB q0
                    go_upto_region 25 with (fail)
                    rw [← hW9]
                    clear hW9 y0 y1 y2 y3 y4 y5 y6 y7 x1 x2 x3 x4 x6 x7
                    go_wp2_with fail
                    have AD : Below W9.heap.size W9 (W9.alloc (.cells #[.bool false, .bool false] 67)).drew := below_then (allocB W9 _) (allocB W9 _).size (drewB1 _)
                    have ADo : (W9.alloc (.cells #[.bool false, .bool false] 67)).drew.heap[W9.heap.size]? = some (.cells #[.bool false, .bool false] 67 (0, 0)) := ((drewB1 _).block _ (by simp)).trans (heap_alloc_new W9 _)
                    replace AD := Aside0.mk AD
                    replace ADo := Aside0.mk ADo
                    go_region_held3 (fun V => V.cell? ⟨q, 0, none⟩ = some (ptr p) ∧ V.cell? ⟨wr.heap.size, 0, none⟩ = some (.int .i64 x.tx)) (first | exact K9 | exact ⟨below_cell (allocB _ _) K9.1, below_cell (allocB _ _) K9.2⟩ | exact ⟨below_cell AD.out q0', below_cell AD.out x0⟩ | exact ⟨q0', x0⟩ | exact ⟨below_cell BW2 q0', below_cell BW2 x0⟩)
                        (first | (go_at_call 27; refine (FL _ (drewB2 W9 _)).mono ?_; rintro e w10 ⟨rfl, B10⟩; have BW := below_then (drewB2 W9 _) (drewB2 W9 _).size B10; have K9 : w10.cell? ⟨q, 0, none⟩ = some (ptr p) ∧ w10.cell? ⟨wr.heap.size, 0, none⟩ = some (.int .i64 x.tx) := ⟨below_cell BW q0', below_cell BW x0⟩) | (go_at_call 27; refine (FL _ AD.out).mono ?_; rintro e w10 ⟨rfl, B10⟩; have BW := below_then AD.out AD.out.size B10; have obz : w10.heap[W9.heap.size]? = some (.cells #[.bool false, .bool false] 67 (0, 0)) := (B10.block _ (Array.getElem?_eq_some_iff.1 ADo.out).1).trans ADo.out; have z0 := cell_of_row w10 _ 0 _ 67 (0, 0) obz; have z1 := cell_of_row w10 _ 1 _ 67 (0, 0) obz; have f0 : w10.frozen? ⟨W9.heap.size, 0, none⟩ = false := blk_frozen obz _; have f1 : w10.frozen? ⟨W9.heap.size, 1, none⟩ = false := blk_frozen obz _; have BW2 := (BW.grown (grown_set w10 W9.heap.size 0 (.bool fx.1)) BW.size (fun k hk => by injection hk with hk; omega)).grown (grown_set (w10.setCell ⟨W9.heap.size, 0, none⟩ (.bool fx.1)) W9.heap.size 1 (.bool fx.2)) (Nat.le_trans BW.size (grown_set w10 W9.heap.size 0 (.bool fx.1)).size) (fun k hk => by injection hk with hk; omega); have K9 : w10.cell? ⟨q, 0, none⟩ = some (ptr p) ∧ w10.cell? ⟨wr.heap.size, 0, none⟩ = some (.int .i64 x.tx) := ⟨below_cell BW q0', below_cell BW x0⟩))
                    · obtain ⟨Wf, hWf⟩ : ∃ Wf, Wf = w10.alloc (.cells #[.bool fx.1, .bool fx.2] 67) := ⟨_, rfl⟩
                      obtain ⟨ad, had⟩ : ∃ ad, ad = w10.heap.size := ⟨_, rfl⟩
                      have obf : Wf.heap[ad]? = some (.cells #[.bool fx.1, .bool fx.2] 67 (0, 0)) := by rw [hWf, had]; exact heap_alloc_new w10 _
                      have BWf : Below W9.heap.size W9 Wf := by rw [hWf]; exact below_then BW BW.size (allocB w10 _)
                      rw [← hWf, ← had]
                      clear hWf had K9 B10 BW
                      have t0 : Wf.cell? ⟨ad, 0, none⟩ = some (.bool fx.1) := cell_of_row Wf ad 0 _ 67 (0, 0) obf
                      have t1 : Wf.cell? ⟨ad, 1, none⟩ = some (.bool fx.2) := cell_of_row Wf ad 1 _ 67 (0, 0) obf
                      have hBf := below_then hB9.out hB9.out.size BWf
                      have x5f := below_cell BWf x5
                      have obfd : Wf.drew.heap[ad]? = some (.cells #[.bool fx.1, .bool fx.2] 67 (0, 0)) := ((drewB1 Wf).block _ (Array.getElem?_eq_some_iff.1 obf).1).trans obf
                      have N0 := Aside0.mk (fun n => NX.out (Wf.drewN n) (below_then hBf hBf.size (drewB2 Wf n)))
                      have N1 := Aside0.mk (NX.out Wf hBf)
                      by_cases hji : j = i
                      · have E1 : ((j : Int) == (i : Int)) = true := by rw [hji]; simp
                        have E1' : decide ((j : Int) = (i : Int)) = true := by rw [hji]; simp
                        replace hji := Aside0.mk hji
                        clear hBf BWf obf obfd FL FAC t0 t1
                        go_wp2
                        exact ⟨N1.out, by simp [intOf]; omega⟩
                      · have E1 : ((j : Int) == (i : Int)) = false := by simp; omega
                        have E1' : decide ((j : Int) = (i : Int)) = false := by simp; omega
                        by_cases ho : x.over = true
                        · rw [ho] at x5f
                          replace ho := Aside0.mk ho
                          replace hji := Aside0.mk hji
                          clear hBf BWf obf obfd FL FAC t0 t1
                          go_wp2
                          exact ⟨N1.out, by simp [intOf]; omega⟩
                        · have ho2 : x.over = false := by simpa using ho
                          rw [ho2] at x5f
                          obtain ⟨hh, hfl⟩ := FAC.out j x hlx.out hji ho2
                          rw [hhe.out] at hh
                          subst hh
                          replace ho := Aside0.mk ho
                          replace ho2 := Aside0.mk ho2
                          replace hji := Aside0.mk hji
                          cases eb with
                          | false =>
                            clear hBf BWf obf obfd FL FAC t0 t1 hfl
                            go_wp2_with fail
                            go_quiet (fail)
                            go_wp2
                            exact ⟨N0.out _, by simp [intOf]; omega⟩
                          | true =>
                            obtain ⟨hz, hze⟩ := hfl rfl
                            have hRf := (BFR.out _ hBf)
                            obtain ⟨g9, rfl, _⟩ := hA9 (by rw [List.length_map]; have := (List.getElem?_eq_some_iff.1 hz).1; omega)
                            obtain ⟨b0, b1⟩ := RowF.at hRf j fx (by rw [List.getElem?_map, hfx.out]; exact hze)
                            have hjW : j < W.list.length := (List.getElem?_eq_some_iff.1 hz).1
                            have hjW2 := Aside0.mk hjW
                            have neqf := neq67f fx.1 fx.2
                            clear hBf BWf obf obfd FL FAC hRf hz hze
                            go_wp2_with fail
                            have hjI : (j : Int) < (W.list.length : Int) := by have := hjW2.out; omega
                            have hj0 : (0 : Int) ≤ (j : Int) := by omega
                            go_region_held3 (fun V => V.cell? ⟨ad, 0, none⟩ = some (.bool fx.1) ∧ V.cell? ⟨ad, 1, none⟩ = some (.bool fx.2) ∧ V.cell? ⟨g9, j * 2, none⟩ = some (.bool fx.1) ∧ V.cell? ⟨g9, j * 2 + 1, none⟩ = some (.bool fx.2)) (exact ⟨t0, t1, b0, b1⟩) (fail)
                            go_wp2
                            exact ⟨N0.out _, by simp [intOf]; omega⟩
                    · obtain ⟨Wf, hWf⟩ : ∃ Wf, Wf = (w10.setCell ⟨W9.heap.size, 0, none⟩ (.bool fx.1)).setCell ⟨W9.heap.size, 1, none⟩ (.bool fx.2) := ⟨_, rfl⟩
                      obtain ⟨ad, had⟩ : ∃ ad, ad = W9.heap.size := ⟨_, rfl⟩
                      have obf : Wf.heap[ad]? = some (.cells #[.bool fx.1, .bool fx.2] 67 (0, 0)) := by rw [hWf, had, blk_set (blk_set obz 0 _) 1 _]; rfl
                      have BWf : Below W9.heap.size W9 Wf := by rw [hWf]; exact BW2
                      rw [← hWf, ← had]
                      clear hWf had K9 B10 BW BW2 obz z0 z1 f0 f1
                      have t0 : Wf.cell? ⟨ad, 0, none⟩ = some (.bool fx.1) := cell_of_row Wf ad 0 _ 67 (0, 0) obf
                      have t1 : Wf.cell? ⟨ad, 1, none⟩ = some (.bool fx.2) := cell_of_row Wf ad 1 _ 67 (0, 0) obf
                      have hBf := below_then hB9.out hB9.out.size BWf
                      have x5f := below_cell BWf x5
                      have obfd : Wf.drew.heap[ad]? = some (.cells #[.bool fx.1, .bool fx.2] 67 (0, 0)) := ((drewB1 Wf).block _ (Array.getElem?_eq_some_iff.1 obf).1).trans obf
                      have N0 := Aside0.mk (fun n => NX.out (Wf.drewN n) (below_then hBf hBf.size (drewB2 Wf n)))
                      have N1 := Aside0.mk (NX.out Wf hBf)
                      by_cases hji : j = i
                      · have E1 : ((j : Int) == (i : Int)) = true := by rw [hji]; simp
                        have E1' : decide ((j : Int) = (i : Int)) = true := by rw [hji]; simp
                        replace hji := Aside0.mk hji
                        clear hBf BWf obf obfd FL FAC t0 t1
                        go_wp2
                        exact ⟨N1.out, by simp [intOf]; omega⟩
                      · have E1 : ((j : Int) == (i : Int)) = false := by simp; omega
                        have E1' : decide ((j : Int) = (i : Int)) = false := by simp; omega
                        by_cases ho : x.over = true
                        · rw [ho] at x5f
                          replace ho := Aside0.mk ho
                          replace hji := Aside0.mk hji
                          clear hBf BWf obf obfd FL FAC t0 t1
                          go_wp2
                          exact ⟨N1.out, by simp [intOf]; omega⟩
                        · have ho2 : x.over = false := by simpa using ho
                          rw [ho2] at x5f
                          obtain ⟨hh, hfl⟩ := FAC.out j x hlx.out hji ho2
                          rw [hhe.out] at hh
                          subst hh
                          replace ho := Aside0.mk ho
                          replace ho2 := Aside0.mk ho2
                          replace hji := Aside0.mk hji
                          cases eb with
                          | false =>
                            clear hBf BWf obf obfd FL FAC t0 t1 hfl
                            go_wp2_with fail
                            go_quiet (fail)
                            go_wp2
                            exact ⟨N0.out _, by simp [intOf]; omega⟩
                          | true =>
                            obtain ⟨hz, hze⟩ := hfl rfl
                            have hRf := (BFR.out _ hBf)
                            obtain ⟨g9, rfl, _⟩ := hA9 (by rw [List.length_map]; have := (List.getElem?_eq_some_iff.1 hz).1; omega)
                            obtain ⟨b0, b1⟩ := RowF.at hRf j fx (by rw [List.getElem?_map, hfx.out]; exact hze)
                            have hjW : j < W.list.length := (List.getElem?_eq_some_iff.1 hz).1
                            have hjW2 := Aside0.mk hjW
                            have neqf := neq67f fx.1 fx.2
                            clear hBf BWf obf obfd FL FAC hRf hz hze
                            go_wp2_with fail
                            have hjI : (j : Int) < (W.list.length : Int) := by have := hjW2.out; omega
                            have hj0 : (0 : Int) ≤ (j : Int) := by omega
                            go_region_held3 (fun V => V.cell? ⟨ad, 0, none⟩ = some (.bool fx.1) ∧ V.cell? ⟨ad, 1, none⟩ = some (.bool fx.2) ∧ V.cell? ⟨g9, j * 2, none⟩ = some (.bool fx.1) ∧ V.cell? ⟨g9, j * 2 + 1, none⟩ = some (.bool fx.2)) (exact ⟨t0, t1, b0, b1⟩) (fail)
                            go_wp2
                            exact ⟨N0.out _, by simp [intOf]; omega⟩
                  · obtain rfl : j = xl2.length := by omega
                    have N2 := Aside0.mk (NXk.out _ hB)
                    clear hB H q0
                    go_wp2
                    exact ⟨N2.out, by simp [intOf]; omega⟩
    · obtain rfl : k = xs.length := by omega
      have q4 := hL.bad_at
      rw [FG.out] at q4
      have BW := Aside0.mk (AH.out hL)
      clear hL
      go_wp2
      go_ret
      exact ⟨rfl, BW.out⟩
theorem SsiLeaves_calls (c : Cp) (z : Scp) (w : World) (hz : z.OK w) (hn : z.xs.length ≤ 1048576) : Calls Tryz.prog 8 #[.agg c.cells, z.val] w fun e w' => e = .returned (.bool true) ∧ Below w.heap.size w w' := by
  cases h : mayC c with
  | false => exact SsiLeaves_no c z w h
  | true => exact SsiLeaves_go c z w hz hn h
end Go.Proofs.YthaoedfalkebbaaGreat
