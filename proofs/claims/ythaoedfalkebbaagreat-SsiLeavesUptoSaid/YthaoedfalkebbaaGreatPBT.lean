/- Cut by a program out of the seat's texts (VD): what the theorem needs, one behind the other. -/
import Derived.Test.YthaoedfalkebbaaGreatPBR
namespace Go.Proofs.YthaoedfalkebbaaGreat
open Go.RowKit Go.Maps Go.Sort Go.Lib Go.Shelf Go.Proofs.YthaoedfalkebbaaGreatW.PrintWords Go.Proofs.YthaoedfalkebbaaGreatW.PrintLast Go.Proofs.YthaoedfalkebbaaGreatW.PrintMore
set_option linter.unusedVariables false
set_option linter.unusedSimpArgs false
set_option linter.unusedSectionVars false
theorem neq60z (w : World) : (binOp .eql 60 (.agg #[.int .i64 0, .int .i64 0, .int .i64 0, .int .i64 0]) (.agg #[.int .i64 0, .int .i64 0, .int .i64 0, .int .i64 0])).run Tryz.prog w = .ok (.bool true) w := by kernel_rfl
theorem Lw.tracked {w3 wr : World} {b q p : Nat} {U : Nat → Prop} {rv : Value} {W : Wld St} (h : Lw w3 b q p U rv W wr) {K N : Int} (hC : Cap W.m K N) : Calls Tryz.prog 24 #[ptr p] wr fun e w' => e = .returned (.agg #[.int .i64 W.m.acts, .int .i64 ((W.m.txs.length : Int) - W.m.acts), .int .i64 W.m.reads.n, .int .i64 W.m.locks.length]) ∧ Below wr.heap.size wr w' := by
  obtain ⟨F', vv, lv, xs', H, k⟩ := h
  exact H.m.tracked hC
theorem actW_succ (l : List Run) (j : Nat) (x : Run) (h : l[j]? = some x) : actW (l.take (j + 1)) = actW (l.take j) + (if x.over then 0 else 1) := by
  unfold actW
  rw [List.take_add_one, h, List.filter_append, List.length_append]
  cases hx : x.over <;> simp [hx]
theorem lockW_succ (l : List Run) (j : Nat) (x : Run) (h : l[j]? = some x) : lockW (l.take (j + 1)) = lockW (l.take j) + (if x.over then 0 else x.writes.length) := by
  unfold lockW
  rw [List.take_add_one, h, List.filter_append, List.map_append, List.sum_append]
  cases hx : x.over <;> simp [hx]
theorem acts_eq {ρ : Type} (S : Sm ρ) : S.acts = actC S.txs := rfl
theorem lockW_le (l : List Run) (B : Nat) (h : ∀ x ∈ l, x.writes.length ≤ B) : lockW l ≤ l.length * B := by
  unfold lockW
  induction l with
  | nil => simp
  | cons x l ih =>
    have h1 := ih (fun y hy => h y (List.mem_cons_of_mem _ hy))
    have h2 := h x (List.mem_cons_self ..)
    rw [List.length_cons, Nat.add_mul, Nat.one_mul]
    by_cases hx : x.over = true
    · rw [List.filter_cons_of_neg (by simp [hx])]
      omega
    · rw [List.filter_cons_of_pos (by simpa using hx), List.map_cons, List.sum_cons]
      omega
def abJ (c : Cp) (W : Wld St) (fin : Sm St) (w3 : World) (b q p : Nat) (U : Nat → Prop) (rv : Value) (F' : Nat → Prop) (vv lv : Value) (xl : List Rx) (j : Nat) (V : World) : Prop :=
  ∃ Sj, abortAll (iT c.reads) Sj (W.list.drop j) = (0, fin) ∧ Sj.caps = c ∧ (∃ K : Int, K ≤ 4000000000000 ∧ Cap Sj K 0) ∧ Wm V b q p F' U { W with m := Sj } rv vv lv xl ∧ KeepW U w3 V
theorem abJ.below {c : Cp} {W : Wld St} {fin : Sm St} {w3 V V' : World} {b q p : Nat} {U : Nat → Prop} {rv : Value} {F' : Nat → Prop} {vv lv : Value} {xl : List Rx} {j : Nat} (h : abJ c W fin w3 b q p U rv F' vv lv xl j V) (B : Below V.heap.size V V') : abJ c W fin w3 b q p U rv F' vv lv xl j V' := by
  obtain ⟨Sj, h1, h2, h3, H, k⟩ := h
  exact ⟨Sj, h1, h2, h3, H.below B, k.trans (KeepW.ofBelow B H.m.size)⟩
theorem okN_small (n : Int) (h : 0 ≤ n ∧ n ≤ 4000000000000) : okN n := by
  show (Lit.int .i64 n).wf = true
  simp only [Lit.wf, Bool.and_eq_true, decide_eq_true_eq]
  have e1 : IntKind.i64.min = -9223372036854775808 := by decide
  have e2 : IntKind.i64.max = 9223372036854775807 := by decide
  rw [e1, e2]
  omega
theorem abJ.next {c : Cp} {W : Wld St} {fin : Sm St} {w3 V : World} {b q p : Nat} {U : Nat → Prop} {rv : Value} {F' : Nat → Prop} {vv lv : Value} {xl : List Rx} {j : Nat} {x : Run} (h : abJ c W fin w3 b q p U rv F' vv lv xl j V) (hx : W.list[j]? = some x) (htx : x.tx = (j : Int) + 1) (hj : j ≤ 2000000) :
    (x.over = true → abJ c W fin w3 b q p U rv F' vv lv xl (j + 1) V) ∧ (x.over = false → Calls Tryz.prog 25 #[ptr p, .int .i64 x.tx] V fun e w' => e = .returned (.int .i64 0) ∧ abJ c W fin w3 b q p U rv F' vv lv xl (j + 1) w' ∧ KeepO U V w') := by
  obtain ⟨Sj, h1, h2, ⟨K, hK, hC⟩, H, k⟩ := h
  have hd : W.list.drop j = x :: W.list.drop (j + 1) := by
    have hj' := (List.getElem?_eq_some_iff.1 hx).1
    rw [List.drop_eq_getElem_cons hj', (List.getElem?_eq_some_iff.1 hx).2]
  rw [hd] at h1
  unfold abortAll at h1
  refine ⟨fun ho => ?_, fun ho => ?_⟩
  · rw [if_pos ho] at h1
    exact ⟨Sj, h1, h2, ⟨K, hK, hC⟩, H, k⟩
  · rw [if_neg (by rw [ho]; simp)] at h1
    by_cases hr : (Sj.abort (iT c.reads) x.tx).1 = 0
    · rw [if_neg (by omega)] at h1
      refine (H.m.abort H.top hC (okN_small x.tx (by omega))).mono ?_
      rintro e w' ⟨rfl, hM, hk⟩
      have ec : ({ W with m := Sj } : Wld St).m.caps.reads = c.reads := by rw [show ({ W with m := Sj } : Wld St).m = Sj from rfl, h2]
      rw [ec, abort_iT] at hM
      rw [ec, abort_iT]
      exact ⟨congrArg (fun n => Ending.returned (.int .i64 n)) hr, ⟨_, h1, by rw [abort_caps]; exact h2, ⟨K, hK, hC.abort _⟩, H.keep hk hM, k.trans hk.toW⟩, hk⟩
    · rw [if_pos hr] at h1
      injection h1 with h1 _
      exact absurd h1 hr
theorem abJ.done {c : Cp} {W : Wld St} {fin : Sm St} {w3 V : World} {b q p : Nat} {U : Nat → Prop} {rv : Value} {F' : Nat → Prop} {vv lv : Value} {xl : List Rx} (h : abJ c W fin w3 b q p U rv F' vv lv xl W.list.length V) (ha : fin.acts = 0) (ht : fin.txs = []) (hl : fin.locks = []) (hr : fin.reads.n = 0) :
    (Calls Tryz.prog 24 #[ptr p] V fun e w' => e = .returned (.agg #[.int .i64 0, .int .i64 0, .int .i64 0, .int .i64 0]) ∧ Below V.heap.size V w') ∧ ∀ V', Below V.heap.size V V' → Calls Tryz.prog 26 #[ptr p] V' fun e w2 => ∃ A c, e = .returned (.slice A 0 c) ∧ Below V'.heap.size V' w2 := by
  obtain ⟨Sj, h1, h2, ⟨K, hK, hC⟩, H, k⟩ := h
  rw [List.drop_length] at h1
  have h1 : (0, Sj) = ((0, fin) : Int × Sm St) := h1
  injection h1 with _ h1
  subst h1
  refine ⟨(H.m.tracked hC).mono ?_, fun V' B => (H.below B).m.active.mono ?_⟩
  · rintro e w' ⟨rfl, B⟩
    refine ⟨?_, B⟩
    show Ending.returned (.agg #[.int .i64 (Sj.acts : Int), .int .i64 ((Sj.txs.length : Int) - (Sj.acts : Int)), .int .i64 Sj.reads.n, .int .i64 (Sj.locks.length : Int)]) = _
    rw [ha, ht, hl, hr]
    rfl
  · rintro e w2 ⟨A, c', rfl, B2⟩
    refine ⟨A, c', ?_, B2⟩
    show Ending.returned (.slice A Sj.acts c') = _
    rw [ha]
theorem abort_fin {c : Cp} {W : Wld St} {G : List Gh} {mom : Int} (w : WL (iT c.reads) (okS c) W G mom) : ∃ fin, abortAll (iT c.reads) W.m W.list = (0, fin) ∧ fin.acts = 0 ∧ fin.txs = [] ∧ fin.locks = [] ∧ fin.reads.n = 0 := by
  obtain ⟨list', G', M, hk, h0, hall⟩ := abortAll_ok (iT_law c.reads) W.list [] W.m G w.mi w.kp (fun x hx => by cases hx)
  have ha : (abortAll (iT c.reads) W.m W.list).2.acts = 0 := by
    rw [act_len M]
    unfold actW
    rw [List.length_eq_zero_iff, List.filter_eq_nil_iff]
    intro x hx
    rw [hall x hx]
    simp
  obtain ⟨h1, h2, h3⟩ := all_gone (iT_law c.reads) M hk ha
  exact ⟨_, by rw [← h0], ha, h1, h2, h3⟩
set_option maxHeartbeats 16000000 in
set_option maxRecDepth 100000 in
theorem SsiBounded_no (c : Cp) (z : Scp) (w : World) (h : mayC c = false) : Calls Tryz.prog 7 #[.agg c.cells, z.val] w fun e w' => e = .returned (.bool true) ∧ Below w.heap.size w w' := by
  obtain ⟨w1, hw1⟩ : ∃ w1, w1 = w.alloc (.cells c.cells 31) := ⟨_, rfl⟩
  have B1 : Below w.heap.size w w1 := by rw [hw1]; exact allocB w _
  have SN := fun W => start_no c z W h
  have MN := fun W => mayC_calls c W h
  obtain ⟨ac, kp, rd, lk⟩ := c
  unfold Cp.cells at hw1 SN MN ⊢
  dsimp only at hw1 SN MN ⊢
  have ob1 : w1.heap[w.heap.size]? = some (.cells #[.int .i64 ac, .int .i64 kp, .int .i64 rd, .int .i64 lk] 31 (0, 0)) := by rw [hw1]; exact heap_alloc_new w _
  have x0 := cell_of_row w1 _ 0 _ 31 (0, 0) ob1
  have x1 := cell_of_row w1 _ 1 _ 31 (0, 0) ob1
  have x2 := cell_of_row w1 _ 2 _ 31 (0, 0) ob1
  have x3 := cell_of_row w1 _ 3 _ 31 (0, 0) ob1
  have CEL : ∀ V, Below w1.heap.size w1 V → V.cell? ⟨w.heap.size, 0, none⟩ = some (.int .i64 ac) ∧ V.cell? ⟨w.heap.size, 1, none⟩ = some (.int .i64 kp) ∧ V.cell? ⟨w.heap.size, 2, none⟩ = some (.int .i64 rd) ∧ V.cell? ⟨w.heap.size, 3, none⟩ = some (.int .i64 lk) := fun V B => ⟨below_cell B x0, below_cell B x1, below_cell B x2, below_cell B x3⟩
  replace CEL := Aside0.mk CEL
  replace B1 := Aside0.mk B1
  replace SN := Aside0.mk SN
  replace MN := Aside0.mk MN
  clear ob1 h x0 x1 x2 x3
  unfold Scp.val at SN ⊢
  go_enter Tryz.func7, Tryz.ntmps7
  go_upto_region 1 with (fail)
  rw [← hw1]
  clear hw1
  go_wp2_with (go_at_call 11; refine (begun_calls w1).mono ?_; rintro e w2 ⟨rfl, B2⟩; obtain ⟨x0, x1, x2, x3⟩ := CEL.out w2 B2; have SNw := SN.out w2)
  go_wp2_with (first | (go_at_call 17; refine SNw.mono ?_; rintro e w3 ⟨rfl, B3⟩; clear x0 x1 x2 x3; obtain ⟨x0, x1, x2, x3⟩ := CEL.out w3 (below_then B2 B2.size B3); have MNw := MN.out w3) | (go_at_call 18; refine MNw.mono ?_; rintro e w4 ⟨rfl, B4⟩))
  go_ret
  exact ⟨rfl, below_then (below_then (below_then B1.out B1.out.size B2) (below_then B1.out B1.out.size B2).size B3) (below_then (below_then B1.out B1.out.size B2) (below_then B1.out B1.out.size B2).size B3).size B4⟩
set_option maxHeartbeats 32000000 in
set_option maxRecDepth 100000 in
theorem SsiBounded_go (c : Cp) (z : Scp) (w : World) (hz : z.OK w) (hn : z.xs.length ≤ 1048576) (h : mayC c = true) : Calls Tryz.prog 7 #[.agg c.cells, z.val] w fun e w' => e = .returned (.bool true) ∧ Below w.heap.size w w' := by
  obtain ⟨w1, hw1⟩ : ∃ w1, w1 = w.alloc (.cells c.cells 31) := ⟨_, rfl⟩
  have B1 : Below w.heap.size w w1 := by rw [hw1]; exact allocB w _
  have SY := fun W (B : Below w.heap.size w W) => start_calls (UpFrom W.heap.size) c z W (top_up W) ⟨Kd.C_below hz.reads B, hz.ops, hz.len⟩ h
  obtain ⟨A, cz, xs⟩ := z
  obtain ⟨hC, hops, hlen⟩ := hz
  have FI := atS_WI (xs := xs) h xs.length (by dsimp only at hn; omega)
  have FB := atS_Bd (c := c) (xs := xs) xs.length
  have FG := atS_bad (xs := xs) h xs.length (by dsimp only at hn; omega)
  unfold Scp.val at SY ⊢
  dsimp only at hC hops hn SY ⊢
  have cc : c.cells = #[.int .i64 c.active, .int .i64 c.kept, .int .i64 c.reads, .int .i64 c.locks] := rfl
  rw [cc] at hw1 SY ⊢
  have ob1 : w1.heap[w.heap.size]? = some (.cells #[.int .i64 c.active, .int .i64 c.kept, .int .i64 c.reads, .int .i64 c.locks] 31 (0, 0)) := by rw [hw1]; exact heap_alloc_new w _
  have x0 := cell_of_row w1 _ 0 _ 31 (0, 0) ob1
  have x1 := cell_of_row w1 _ 1 _ 31 (0, 0) ob1
  have x2 := cell_of_row w1 _ 2 _ 31 (0, 0) ob1
  have x3 := cell_of_row w1 _ 3 _ 31 (0, 0) ob1
  have CEL : ∀ V, Below w1.heap.size w1 V → V.cell? ⟨w.heap.size, 0, none⟩ = some (.int .i64 c.active) ∧ V.cell? ⟨w.heap.size, 1, none⟩ = some (.int .i64 c.kept) ∧ V.cell? ⟨w.heap.size, 2, none⟩ = some (.int .i64 c.reads) ∧ V.cell? ⟨w.heap.size, 3, none⟩ = some (.int .i64 c.locks) := fun V B => ⟨below_cell B x0, below_cell B x1, below_cell B x2, below_cell B x3⟩
  replace CEL := Aside0.mk CEL
  replace B1 := Aside0.mk B1
  replace SY := Aside0.mk SY
  replace FI := Aside0.mk FI
  replace FB := Aside0.mk FB
  replace FG := Aside0.mk FG
  replace hC := Aside0.mk hC
  replace hops := Aside0.mk hops
  replace cc := Aside0.mk cc
  clear ob1 hlen x0 x1 x2 x3
  go_enter Tryz.func7, Tryz.ntmps7
  go_upto_region 1 with (fail)
  rw [← hw1]
  clear hw1
  go_wp2_with (go_at_call 11; refine (begun_calls w1).mono ?_; rintro e w2 ⟨rfl, B2⟩; obtain ⟨x0, x1, x2, x3⟩ := CEL.out w2 B2)
  have B12 := below_then B1.out B1.out.size B2
  have SYw := SY.out w2 B12
  go_wp2_with (go_at_call 17; refine SYw.mono ?_; rintro e w3 ⟨q, p, rv, rfl, H3, B3⟩; clear x0 x1 x2 x3)
  have L0 : Lw w3 w2.heap.size q p (UpFrom w2.heap.size) rv (atS c xs 0) w3 := ⟨F0, _, _, _, H3, Fr.refl _ _, fun k c e s h _ => h⟩
  have AH : ∀ {W V}, Lw w3 w2.heap.size q p (UpFrom w2.heap.size) rv W V → Below w.heap.size w V := fun hL => by
    have b := hL.ahead B3.size (fun k hk => hk)
    have b2 := below_then B12 B12.size B3
    exact ⟨b.os.trans b2.os, b.tape.trans b2.tape, b.output.trans b2.output, by have := b.size; have := b2.size; omega, fun k hk => (b.block k (by have := B12.size; omega)).trans (b2.block k hk)⟩
  have AH1 : ∀ {W V}, Lw w3 w2.heap.size q p (UpFrom w2.heap.size) rv W V → Below w1.heap.size w1 V := fun hL => by
    have b := hL.ahead B3.size (fun k hk => hk)
    have b2 := below_then B2 B2.size B3
    exact ⟨b.os.trans b2.os, b.tape.trans b2.tape, b.output.trans b2.output, by have := b.size; have := b2.size; omega, fun k hk => (b.block k (by have := B2.size; omega)).trans (b2.block k hk)⟩
  replace AH1 := Aside0.mk @AH1
  have WLk := fun k hk => atS_WL (c := c) (xs := xs) h k hk
  have CAk := fun k => atS_cap (c := c) (xs := xs) h k
  replace WLk := Aside0.mk WLk
  replace CAk := Aside0.mk CAk
  replace AH := Aside0.mk @AH
  clear H3 SYw B2
  replace B3 := Aside0.mk B3
  replace B12 := Aside0.mk B12
  go_wp2_with fail
  go_loopw [31] (fun iv wr => ∃ k : Nat, k ≤ xs.length ∧ iv = .int .i64 k ∧ Lw w3 w2.heap.size q p (UpFrom w2.heap.size) rv (atS c xs k) wr) (fun iv _ => xs.length - (intOf iv).toNat)
  case atStart => exact ⟨0, Nat.zero_le _, rfl, L0⟩
  case round =>
    clear L0
    obtain ⟨k, hk, rfl, hL⟩ := hrel
    by_cases hkl : k < xs.length
    · have C := Kd.C_below hC.out (AH.out hL)
      obtain ⟨ad, rfl, q0, q1, q2, q3, q4, q5⟩ := opn_at C k hkl
      have hox := hops.out _ (List.getElem_mem hkl)
      obtain ⟨W4, hW4⟩ : ∃ W4, W4 = wr.alloc (boxOn xs[k]) := ⟨_, rfl⟩
      have B4 : Below wr.heap.size wr W4 := by rw [hW4]; exact allocB wr _
      have ob4 : W4.heap[wr.heap.size]? = some (boxOn xs[k]) := by rw [hW4]; exact heap_alloc_new wr _
      have ST4 := (hL.below B4).next h hn (List.getElem?_eq_getElem hkl) hox
      unfold boxOn at hW4
      generalize xs[k] = o at q0 q1 q2 q3 q4 q5 ST4 hW4 ob4
      obtain ⟨r0, r1, r2, r3, r4, r5⟩ := opn_cells ob4
      replace hox := Aside0.mk hox
      clear ob4 B4 hL C
      go_upto_region 9 with (fail)
      rw [← hW4]
      clear hW4 q0 q1 q2 q3 q4 q5
      obtain ⟨G, wl⟩ := WLk.out (k + 1) (by omega)
      have ca := CAk.out (k + 1)
      have eca := atS_caps (c := c) (xs := xs) (k + 1)
      have FBk := atS_Bd (c := c) (xs := xs) (k + 1)
      have TRc := fun V (hL : Lw w3 w2.heap.size q p (UpFrom w2.heap.size) rv (atS c xs (k + 1)) V) => hL.tracked ca
      obtain ⟨W, hWe⟩ : ∃ W, atS c xs (k + 1) = W := ⟨_, rfl⟩
      rw [hWe] at wl ca eca FBk TRc ST4
      replace hWe := Aside0.mk hWe
      have hact := act_len wl.mi
      have hlck := lock_len wl.mi
      have g1 : (actW W.list : Int) ≤ c.active := by
        have := ca.act
        rw [eca] at this
        rw [← hact, acts_eq]
        exact this
      have g2 : (W.m.txs.length : Int) - (actW W.list : Int) ≤ c.kept := by
        have := ca.kpt
        rw [eca] at this
        have e := cnt_all W.m.txs
        rw [← hact, acts_eq]
        omega
      have g3 : W.m.reads.n ≤ c.reads := wl.mi.okr.2
      have g4 : (lockW W.list : Int) ≤ c.locks := by
        have := ca.lck
        rw [eca] at this
        rw [← hlck]
        exact this
      rw [hact, hlck] at TRc
      have hlk : ∀ x ∈ W.list, x.writes.length ≤ 1048577 := fun x hx => Nat.le_trans (FBk.writes x hx) (by omega)
      have hll := FBk.list
      replace TRc := Aside0.mk TRc
      replace hlk := Aside0.mk hlk
      clear wl ca eca FBk hact hlck
      go_upto_region 10 with (go_at_call 19; refine ST4.mono ?_; rintro e w5 ⟨rfl, hL5⟩)
      have q0 := hL5.ptr_at
      have TRw := TRc.out w5 hL5
      obtain ⟨Al, cl, q3⟩ := hL5.list_at
      have hL5' := hL5
      obtain ⟨F', vv, lv, xl, H, kp⟩ := hL5'
      have hxl : xl.length = W.list.length := by rw [← H.fst, List.length_map]
      obtain ⟨A2, c2, hlv, _, hAl⟩ := H.list.slice
      have q3b := H.cell.2.2.2.1
      rw [hlv] at q3b
      rw [q3b] at q3
      injection q3 with q3
      injection q3 with e1 e2 e3
      subst e1 e3
      have VC : ∀ V, Below w5.heap.size w5 V → V.cell? ⟨q, 3, none⟩ = some (.slice A2 xl.length c2) ∧ Wm V w2.heap.size q p F' (UpFrom w2.heap.size) W rv vv lv xl ∧ Lw w3 w2.heap.size q p (UpFrom w2.heap.size) rv W V := fun V B => by
        have HV := H.below B
        have e2 := HV.cell.2.2.2.1
        rw [hlv] at e2
        exact ⟨e2, HV, hL5.below B⟩
      obtain ⟨u1, u2, u3, u4⟩ := CEL.out _ (AH1.out hL5)
      have CC : ∀ V, Below w5.heap.size w5 V → V.cell? ⟨w.heap.size, 0, none⟩ = some (.int .i64 c.active) ∧ V.cell? ⟨w.heap.size, 1, none⟩ = some (.int .i64 c.kept) ∧ V.cell? ⟨w.heap.size, 2, none⟩ = some (.int .i64 c.reads) ∧ V.cell? ⟨w.heap.size, 3, none⟩ = some (.int .i64 c.locks) := fun V B => ⟨below_cell B u1, below_cell B u2, below_cell B u3, below_cell B u4⟩
      have hBB : Below w5.heap.size w5 w5 := Below.refl _ _
      replace VC := Aside0.mk VC
      replace CC := Aside0.mk CC
      replace hlv := Aside0.mk hlv
      have hxb : xl.length ≤ 1048577 := by omega
      replace hxl := Aside0.mk hxl
      replace hll := Aside0.mk hll
      clear H kp hL5 u1 u2 u3 u4 q3b e2 ST4 r0 r1 r2 r3 r4 r5
      go_upto_region 11 with (go_at_call 24; refine TRw.mono ?_; rintro e w6 ⟨rfl, B6⟩; obtain ⟨bt, hbt⟩ : ∃ bt, bt = w6.heap.size := ⟨_, rfl⟩; obtain ⟨W7, hW7⟩ : ∃ W7, W7 = w6.alloc (.cells #[.int .i64 (actW W.list : Int), .int .i64 ((W.m.txs.length : Int) - (actW W.list : Int)), .int .i64 W.m.reads.n, .int .i64 (lockW W.list : Int)] 60) := ⟨_, rfl⟩)
      rw [← hW7, ← hbt]
      have B7 : Below w6.heap.size w6 W7 := by rw [hW7]; exact allocB w6 _
      have ob7 : W7.heap[bt]? = some (.cells #[.int .i64 (actW W.list : Int), .int .i64 ((W.m.txs.length : Int) - (actW W.list : Int)), .int .i64 W.m.reads.n, .int .i64 (lockW W.list : Int)] 60 (0, 0)) := by rw [hW7, hbt]; exact heap_alloc_new w6 _
      have B57 := below_then B6 B6.size B7
      have TC : ∀ V, Below W7.heap.size W7 V → V.cell? ⟨bt, 0, none⟩ = some (.int .i64 (actW W.list : Int)) ∧ V.cell? ⟨bt, 1, none⟩ = some (.int .i64 ((W.m.txs.length : Int) - (actW W.list : Int))) ∧ V.cell? ⟨bt, 2, none⟩ = some (.int .i64 W.m.reads.n) ∧ V.cell? ⟨bt, 3, none⟩ = some (.int .i64 (lockW W.list : Int)) ∧ Below w5.heap.size w5 V := fun V B => ⟨below_cell B (cell_of_row W7 bt 0 _ 60 (0, 0) ob7), below_cell B (cell_of_row W7 bt 1 _ 60 (0, 0) ob7), below_cell B (cell_of_row W7 bt 2 _ 60 (0, 0) ob7), below_cell B (cell_of_row W7 bt 3 _ 60 (0, 0) ob7), below_then B57 B57.size B⟩
      have q3 := (VC.out _ B57).1
      replace TC := Aside0.mk TC
      replace hbt := Aside0.mk hbt
      generalize hkp : (W.m.txs.length : Int) - (actW W.list : Int) = kp at g2 TC
      generalize hrn : W.m.reads.n = rn at g3 TC
      replace hkp := Aside0.mk hkp
      replace hrn := Aside0.mk hrn
      clear hW7 B7 ob7 B57 B6 TRw q0 hBB
      go_wp2_with fail
      go_loopw [10, 11, 50] (fun av lv iv wr => ∃ j : Nat, j ≤ xl.length ∧ iv = .int .i64 j ∧ av = .int .i64 (actW (W.list.take j) : Int) ∧ lv = .int .i64 (lockW (W.list.take j) : Int) ∧ Below W7.heap.size W7 wr) (fun _ _ iv _ => xl.length - (intOf iv).toNat)
      case atStart => exact ⟨0, Nat.zero_le _, rfl, rfl, rfl, Below.refl _ _⟩
      case round =>
        clear q3
        obtain ⟨j, hj, rfl, rfl, rfl, hB⟩ := hrel
        obtain ⟨t0, t1, t2, t3, hB5⟩ := TC.out _ hB
        obtain ⟨_, H, hLj⟩ := VC.out _ hB5
        by_cases hjl : j < xl.length
        · obtain ⟨g, rfl, _⟩ := hAl (by omega)
          have hl := H.list
          rw [hlv.out] at hl
          obtain ⟨y0, y1, y2, y3, y4, y5, y6, y7⟩ := RowX.at hl j xl[j] (List.getElem?_eq_getElem hjl)
          have hmx := List.getElem_mem hjl
          obtain ⟨Ar, cr, er, _, _⟩ := (H.rd _ hmx).slice
          obtain ⟨Aw, cw, ew, _, _⟩ := (H.wr _ hmx).slice
          have hlx : W.list[j]? = some xl[j].1 := H.list_at (List.getElem?_eq_getElem hjl)
          generalize xl[j] = x at y0 y1 y2 y3 y4 y5 y6 y7 er ew hmx hlx
          obtain ⟨x, rv', wv'⟩ := x
          dsimp only at y0 y1 y2 y3 y4 y5 y6 y7 er ew hmx hlx
          subst er ew
          have hs1 := actW_succ W.list j x hlx
          have hs2 := lockW_succ W.list j x hlx
          have hxw : x.writes.length ≤ 1048577 := hlk.out x (List.mem_of_getElem? hlx)
          have hb1 : actW (W.list.take j) ≤ 1048577 := by
            have h1 := List.length_filter_le (fun x : Run => !x.over) (W.list.take j)
            rw [List.length_take] at h1
            have h2 := hll.out
            unfold actW
            omega
          have hb2 : lockW (W.list.take j) ≤ 1099513724929 := by
            have h1 := lockW_le (W.list.take j) 1048577 (fun x hx => hlk.out x (List.mem_of_mem_take hx))
            have h2 : (W.list.take j).length ≤ 1048577 := by rw [List.length_take]; have := hll.out; omega
            have h3 := Nat.mul_le_mul_right 1048577 h2
            omega
          obtain ⟨W9, hW9⟩ : ∃ W9, W9 = wr.alloc (boxX (x, .slice Ar x.reads.length cr, .slice Aw x.writes.length cw)) := ⟨_, rfl⟩
          unfold boxX at hW9
          dsimp only at hW9
          have B9 : Below wr.heap.size wr W9 := by rw [hW9]; exact allocB wr _
          obtain ⟨x0, x1, x2, x3, x4, x5, x6, x7⟩ := run_cells (x := (x, .slice Ar x.reads.length cr, .slice Aw x.writes.length cw)) (by rw [hW9]; exact heap_alloc_new wr _ : W9.heap[wr.heap.size]? = some (boxX (x, .slice Ar x.reads.length cr, .slice Aw x.writes.length cw)))
          dsimp only at x0 x1 x2 x3 x4 x5 x6 x7
          have hB9 := below_then hB hB.size B9
          generalize actW (W.list.take j) = na at hs1 hb1
          generalize lockW (W.list.take j) = nl at hs2 hb2
          have NX : ∀ a l : Int, a = (actW (W.list.take (j + 1)) : Int) → l = (lockW (W.list.take (j + 1)) : Int) → ∃ j' : Nat, j' ≤ xl.length ∧ Value.int .i64 ((j : Int) + 1) = .int .i64 j' ∧ Value.int .i64 a = .int .i64 (actW (W.list.take j') : Int) ∧ Value.int .i64 l = .int .i64 (lockW (W.list.take j') : Int) ∧ Below W7.heap.size W7 W9 := fun a l h1 h2 => ⟨j + 1, hjl, by push_cast; rfl, by rw [h1], by rw [h2], hB9⟩
          clear hB B9 hl H hB9 hB5 hLj hmx hlx t0 t1 t2 t3
          go_upto_region 16 with (fail)
          rw [← hW9]
          clear hW9 y0 y1 y2 y3 y4 y5 y6 y7 x0 x1 x2 x3 x4 x6
          by_cases ho : x.over = true
          · rw [ho] at x5
            have N1 := Aside0.mk (NX na nl (by rw [hs1, if_pos ho]; rfl) (by rw [hs2, if_pos ho]; rfl))
            replace ho := Aside0.mk ho
            clear NX hs1 hs2
            go_wp2
            exact ⟨N1.out, by simp [intOf]; omega⟩
          · have ho2 : x.over = false := by simpa using ho
            rw [ho2] at x5
            have N1 := Aside0.mk (NX ((na : Int) + 1) ((nl : Int) + (x.writes.length : Int)) (by rw [hs1, if_neg ho]; push_cast; rfl) (by rw [hs2, if_neg ho]; push_cast; rfl))
            replace ho := Aside0.mk ho
            replace ho2 := Aside0.mk ho2
            clear NX hs1 hs2
            go_wp2
            exact ⟨N1.out, by simp [intOf]; omega⟩
        · obtain rfl : j = xl.length := by omega
          rw [hxl.out, List.take_length]
          obtain ⟨u1, u2, u3, u4⟩ := CC.out _ hB5
          have N1 : ∃ k' : Nat, k' ≤ xs.length ∧ Value.int .i64 ((k : Int) + 1) = .int .i64 k' ∧ Lw w3 w2.heap.size q p (UpFrom w2.heap.size) rv (atS c xs k') wr := ⟨k + 1, hkl, by push_cast; rfl, by rw [hWe.out]; exact hLj⟩
          replace N1 := Aside0.mk N1
          have e1 : ∀ n : Nat, ((n : Int) != (n : Int)) = false := fun n => by simp
          clear hB hB5 H hLj
          generalize actW W.list = na at *
          generalize lockW W.list = nl at *
          go_wp2
          exact ⟨N1.out, by simp [intOf]; omega⟩
    · obtain rfl : k = xs.length := by omega
      obtain ⟨G, wl⟩ := WLk.out xs.length (by omega)
      have ca := CAk.out xs.length
      have eca := atS_caps (c := c) (xs := xs) xs.length
      have hll := FB.out.list
      obtain ⟨W, hWe⟩ : ∃ W, atS c xs xs.length = W := ⟨_, rfl⟩
      rw [hWe] at wl ca eca hL hll
      obtain ⟨fin, hf, ha, ht, hlk, hrn⟩ := abort_fin wl
      have hnum := wl.mi.num
      have q0 := hL.ptr_at
      obtain ⟨F', vv, lv, xl, H, kp⟩ := hL
      have hxl : xl.length = W.list.length := by rw [← H.fst, List.length_map]
      obtain ⟨A2, c2, hlv, _, hAl⟩ := H.list.slice
      have q3 := H.cell.2.2.2.1
      rw [hlv] at q3
      have J0 : abJ c W fin w3 w2.heap.size q p (UpFrom w2.heap.size) rv F' vv lv xl 0 wr := ⟨W.m, by rw [List.drop_zero]; exact hf, eca, ⟨_, by omega, ca⟩, H, kp⟩
      have AJ : ∀ {j V}, abJ c W fin w3 w2.heap.size q p (UpFrom w2.heap.size) rv F' vv lv xl j V → Below w.heap.size w V := fun ⟨Sj, _, _, _, H, k⟩ => AH.out (⟨F', vv, lv, xl, H, k⟩ : Lw w3 w2.heap.size q p (UpFrom w2.heap.size) rv _ _)
      have DONE := fun V (h : abJ c W fin w3 w2.heap.size q p (UpFrom w2.heap.size) rv F' vv lv xl W.list.length V) => h.done ha ht hlk hrn
      have hxb : xl.length ≤ 1048576 := by omega
      replace hnum := Aside0.mk hnum
      replace hlv := Aside0.mk hlv
      replace hxl := Aside0.mk hxl
      replace AJ := Aside0.mk @AJ
      replace DONE := Aside0.mk DONE
      clear H kp wl ca eca hf ha ht hlk hrn hWe hll FI FB FG AH AH1 WLk CAk
      go_wp2_with fail
      go_loopw [109] (fun iv wr => ∃ j : Nat, j ≤ xl.length ∧ iv = .int .i64 j ∧ abJ c W fin w3 w2.heap.size q p (UpFrom w2.heap.size) rv F' vv lv xl j wr) (fun iv _ => xl.length - (intOf iv).toNat)
      case atStart => exact ⟨0, Nat.zero_le _, rfl, J0⟩
      case round =>
        clear J0 q0 q3
        obtain ⟨j, hj, rfl, hJ⟩ := hrel
        have hJ' := hJ
        obtain ⟨Sj, _, _, _, H, _⟩ := hJ'
        have q0 := H.cell.1
        by_cases hjl : j < xl.length
        · obtain ⟨g, rfl, _⟩ := hAl (by omega)
          have hl := H.list
          rw [hlv.out] at hl
          obtain ⟨y0, y1, y2, y3, y4, y5, y6, y7⟩ := RowX.at hl j xl[j] (List.getElem?_eq_getElem hjl)
          have hmx := List.getElem_mem hjl
          obtain ⟨Ar, cr, er, _, _⟩ := (H.rd _ hmx).slice
          obtain ⟨Aw, cw, ew, _, _⟩ := (H.wr _ hmx).slice
          have hlx : W.list[j]? = some xl[j].1 := H.list_at (List.getElem?_eq_getElem hjl)
          generalize xl[j] = x at y0 y1 y2 y3 y4 y5 y6 y7 er ew hmx hlx
          obtain ⟨x, rv', wv'⟩ := x
          dsimp only at y0 y1 y2 y3 y4 y5 y6 y7 er ew hmx hlx
          subst er ew
          obtain ⟨W9, hW9⟩ : ∃ W9, W9 = wr.alloc (boxX (x, .slice Ar x.reads.length cr, .slice Aw x.writes.length cw)) := ⟨_, rfl⟩
          unfold boxX at hW9
          dsimp only at hW9
          have B9 : Below wr.heap.size wr W9 := by rw [hW9]; exact allocB wr _
          have ob9 : W9.heap[wr.heap.size]? = some (boxX (x, .slice Ar x.reads.length cr, .slice Aw x.writes.length cw)) := by rw [hW9]; exact heap_alloc_new wr _
          obtain ⟨x0, x1, x2, x3, x4, x5, x6, x7⟩ := run_cells ob9
          dsimp only at x0 x1 x2 x3 x4 x5 x6 x7
          have hJ9 := hJ.below B9
          have q0' := below_cell B9 q0
          have STn := fun n => (hJ9.below (drewB2 W9 n)).next hlx (hnum.out j x hlx) (by omega)
          have obn : ∀ n, (W9.drewN n).heap[wr.heap.size]? = some (boxX (x, .slice Ar x.reads.length cr, .slice Aw x.writes.length cw)) := fun n => ((drewB2 W9 n).block _ (Array.getElem?_eq_some_iff.1 ob9).1).trans ob9
          have NX : ∀ V, abJ c W fin w3 w2.heap.size q p (UpFrom w2.heap.size) rv F' vv lv xl (j + 1) V → ∃ j' : Nat, j' ≤ xl.length ∧ Value.int .i64 ((j : Int) + 1) = .int .i64 j' ∧ abJ c W fin w3 w2.heap.size q p (UpFrom w2.heap.size) rv F' vv lv xl j' V := fun V h => ⟨j + 1, hjl, by push_cast; rfl, h⟩
          replace NX := Aside0.mk NX
          replace obn := Aside0.mk obn
          clear B9 hl H hmx hlx hJ ob9 q0
          go_upto_region 26 with (fail)
          rw [← hW9]
          clear hW9 y0 y1 y2 y3 y4 y5 y6 y7 x1 x2 x3 x4 x6 x7
          by_cases ho : x.over = true
          · rw [ho] at x5
            have N1 := Aside0.mk (fun n => NX.out _ ((STn n).1 ho))
            replace ho := Aside0.mk ho
            clear STn hJ9
            go_wp2_with fail
            go_quiet (fail)
            go_wp2
            exact ⟨N1.out _, by simp [intOf]; omega⟩
          · have ho2 : x.over = false := by simpa using ho
            rw [ho2] at x5
            have AB := fun n => (STn n).2 ho2
            replace ho := Aside0.mk ho
            replace ho2 := Aside0.mk ho2
            clear STn hJ9
            go_wp2_with fail
            go_region_held3 (fun V => V.cell? ⟨wr.heap.size, 5, none⟩ = some (.bool false) ∧ V.cell? ⟨q, 0, none⟩ = some (ptr p) ∧ V.cell? ⟨wr.heap.size, 0, none⟩ = some (.int .i64 x.tx)) (first | exact K9 | exact ⟨x5, q0', x0⟩)
              ((go_at_call 25; refine (AB _).mono ?_; rintro e w10 ⟨rfl, hJ10, hk10⟩; have K9 : w10.cell? ⟨wr.heap.size, 5, none⟩ = some (.bool false) ∧ w10.cell? ⟨q, 0, none⟩ = some (ptr p) ∧ w10.cell? ⟨wr.heap.size, 0, none⟩ = some (.int .i64 x.tx) := (by
                have ob := hk10.block _ _ _ _ (obn.out _) (by decide) (by decide) (by decide)
                have hJ11 := hJ10
                obtain ⟨_, _, _, _, H10, _⟩ := hJ11
                exact ⟨(cell_of_row w10 _ 5 _ 57 (0, 0) ob).trans (congrArg (fun b => some (Value.bool b)) ho2.out), H10.cell.1, cell_of_row w10 _ 0 _ 57 (0, 0) ob⟩)))
            have N1 := Aside0.mk (NX.out _ hJ10)
            clear hJ10 hk10 AB x0 x5 q0' K9
            go_wp2
            exact ⟨N1.out, by simp [intOf]; omega⟩
        · obtain rfl : j = xl.length := by omega
          rw [hxl.out] at hJ
          obtain ⟨TR, ACT⟩ := DONE.out _ hJ
          have FN := AJ.out hJ
          have q0b := fun V (B : Below wr.heap.size wr V) => below_cell B q0
          have nz := neq60z
          replace FN := Aside0.mk FN
          replace q0b := Aside0.mk q0b
          replace ACT := Aside0.mk ACT
          clear hJ H
          go_wp2_with (first | (go_at_call 24; refine TR.mono ?_; rintro e w10 ⟨rfl, B10⟩; have q1 := q0b.out _ B10; have ACw := ACT.out _ B10) | (go_at_call 26; refine ACw.mono ?_; rintro e w11 ⟨A9, c9, rfl, B11⟩))
          go_ret
          exact ⟨rfl, below_then (below_then FN.out FN.out.size B10) (below_then FN.out FN.out.size B10).size B11⟩
theorem SsiBounded_calls (c : Cp) (z : Scp) (w : World) (hz : z.OK w) (hn : z.xs.length ≤ 1048576) : Calls Tryz.prog 7 #[.agg c.cells, z.val] w fun e w' => e = .returned (.bool true) ∧ Below w.heap.size w w' := by
  cases h : mayC c with
  | false => exact SsiBounded_no c z w h
  | true => exact SsiBounded_go c z w hz hn h
end Go.Proofs.YthaoedfalkebbaaGreat
