/- Cut by a program out of the seat's texts (RX VA VB): what the theorem needs, one behind the other. -/
import Derived.Test.YthaoedfalkebbaaGreatPAP
import Derived.Test.YthaoedfalkebbaaGreatPAK
import Derived.Test.YthaoedfalkebbaaGreatRows
namespace Go.Proofs.YthaoedfalkebbaaGreat
open Go.RowKit Go.Maps Go.Sort Go.Lib Go.Shelf Go.Proofs.YthaoedfalkebbaaGreatW.PrintWords Go.Proofs.YthaoedfalkebbaaGreatW.PrintLast Go.Proofs.YthaoedfalkebbaaGreatW.PrintMore
set_option linter.unusedVariables false
set_option linter.unusedSimpArgs false
set_option linter.unusedSectionVars false
theorem step_caps {ρ : Type} {I : RdI ρ} (W : Wld ρ) (o : Opn) (m : Int) : (W.step I o m).2.m.caps = W.m.caps := by
  have ho : ∀ i x, (W.opAt I o i x).2.m.caps = W.m.caps := fun i x => by
    unfold Wld.opAt
    split
    · exact read_caps _ _
    · split
      · exact scan_caps _ _ _ _
      · split
        · exact write_caps _ _ _
        · split
          · split
            · exact commit_caps _
            · exact commit_caps _
          · exact abort_caps _
  unfold Wld.step
  split
  · split
    · exact begin_caps
    · exact begin_caps
  · split
    · rfl
    · split
      · rfl
      · split
        · rfl
        · dsimp only
          split
          · exact ho _ _
          · exact ho _ _
theorem atW_caps {ρ : Type} {I : RdI ρ} (W0 : Wld ρ) (xs : List Opn) (k : Nat) : (atW I W0 xs k).m.caps = W0.m.caps := by
  induction k with
  | zero => rfl
  | succ k ih =>
    unfold atW
    split
    · rw [step_caps, ih]
    · exact ih
theorem okT (c : Cp) : (fun r : St => InvK r ∧ r.n ≤ c.reads) St0 ↔ 0 ≤ c.reads := ⟨fun h => h.2, fun h => ⟨InvK.empty, h⟩⟩
theorem hasT (most n : Int) : (iT most).has St0 n = false := by
  cases h : (iT most).has St0 n with
  | false => rfl
  | true =>
    obtain ⟨q, hq, _⟩ := (has_iff InvK.empty n).1 h
    cases hq
theorem may_reads {c : Cp} (h : mayC c = true) : 0 ≤ c.reads := by
  rw [mayC_eq] at h
  simp only [Bool.and_eq_true, decide_eq_true_eq] at h
  omega
abbrev atS (c : Cp) (xs : List Opn) (k : Nat) : Wld St := atW (iT c.reads) (W0 c xs) xs k
abbrev okS (c : Cp) : St → Prop := fun r => InvK r ∧ r.n ≤ c.reads
section
variable {c : Cp} {xs : List Opn}
theorem atS_WI (h : mayC c = true) (k : Nat) (hk : k ≤ 4000000000000) : ∃ G, WI (iT c.reads) (okS c) (atS c xs k) G k :=
  atW_WI (iT_law c.reads) ⟨[], WI.start c St0 _ ((okT c).2 (may_reads h)) (hasT _)⟩ k (by omega)
theorem atS_cap (h : mayC c = true) (k : Nat) : Cap (atS c xs k).m k 0 := atW_cap (Cap.start c 0 h (Int.le_refl _)) k
theorem atS_Bd (k : Nat) : Bd (atS c xs k) k xs.length := atW_Bd (Bd.start _ _ _ (rowsN_len _ _)) k
theorem atS_caps (k : Nat) : (atS c xs k).m.caps = c := atW_caps _ _ _
theorem atS_bad (h : mayC c = true) (k : Nat) (hk : k ≤ 4000000000000) : (atS c xs k).bad = false := by
  obtain ⟨G, w⟩ := atS_WI (xs := xs) h k hk
  exact w.good
theorem atS_succ {k : Nat} {o : Opn} (h : xs[k]? = some o) : atS c xs (k + 1) = ((atS c xs k).step (iT c.reads) o k).2 := atW_succ h
end
/-- what a law has of its world when k operations are done -/
def Lw (w3 : World) (b q p : Nat) (U : Nat → Prop) (rv : Value) (W : Wld St) (wr : World) : Prop := ∃ F' vv lv xs', Wm wr b q p F' U W rv vv lv xs' ∧ KeepW U w3 wr
section
variable {w3 wr V : World} {b q p : Nat} {U : Nat → Prop} {rv : Value} {W : Wld St}
theorem Lw.below (h : Lw w3 b q p U rv W wr) (B : Below wr.heap.size wr V) : Lw w3 b q p U rv W V := by
  obtain ⟨F', vv, lv, xs', H, k⟩ := h
  exact ⟨F', vv, lv, xs', H.below B, k.trans (KeepW.ofBelow B H.m.size)⟩
theorem Lw.ahead (h : Lw w3 b q p U rv W wr) {n : Nat} (hn : n ≤ w3.heap.size) (hU : ∀ k, U k → n ≤ k) : Below n w3 wr := by
  obtain ⟨F', vv, lv, xs', H, k⟩ := h
  exact k.fr.below hn hU
theorem Lw.bad_at (h : Lw w3 b q p U rv W wr) : wr.cell? ⟨q, 4, none⟩ = some (.bool W.bad) := by
  obtain ⟨F', vv, lv, xs', H, k⟩ := h
  exact H.cell.2.2.2.2
theorem Lw.list_at (h : Lw w3 b q p U rv W wr) : ∃ A c, wr.cell? ⟨q, 3, none⟩ = some (.slice A W.list.length c) := by
  obtain ⟨F', vv, lv, xs', H, k⟩ := h
  obtain ⟨A, c, e, _⟩ := H.list.slice
  have := H.cell.2.2.2.1
  rw [e] at this
  rw [← H.fst, List.length_map]
  exact ⟨A, c, this⟩
/-- one operation, any -/
theorem Lw.step (h : Lw w3 b q p U rv W wr) {K : Nat} (hc : Cap W.m K 0) (hK : K ≤ 4000000000000) {k R : Nat} (hB : Bd W k R) (hk : k ≤ 1048576) (hR : R ≤ 1048576) (o : Opn) (ho : o.OK) (m : Int) (hb : W.bad = false) (hb' : (W.step (iT W.m.caps.reads) o m).2.bad = false) :
    Calls Tryz.prog 19 #[ptr q, .agg #[.int .i64 o.kind, .int .i64 o.tx, .string o.at_.1, .string o.at_.2, .string o.to_, .int .i64 o.last], .int .i64 m] wr fun e w' => e = .returned (.int .i64 (W.step (iT W.m.caps.reads) o m).1) ∧ Lw w3 b q p U rv (W.step (iT W.m.caps.reads) o m).2 w' := by
  obtain ⟨F', vv, lv, xs', H, kp⟩ := h
  have e := step_iT W.m.caps.reads W o m ho.at_.t ho.at_.k ho.to_
  refine (do_calls H hc (by omega) (by omega) hB hk hR o ho m hb (by rw [e]; exact hb')).mono ?_
  rintro e2 w' ⟨rfl, F2, vv2, lv2, xs2, H2, k2⟩
  rw [e] at H2
  rw [e]
  exact ⟨rfl, F2, vv2, lv2, xs2, H2, kp.trans k2⟩
end
theorem Lw.next {w3 wr : World} {b q p : Nat} {U : Nat → Prop} {rv : Value} {c : Cp} {xs : List Opn} {k : Nat} (h : Lw w3 b q p U rv (atS c xs k) wr) (hm : mayC c = true) (hxs : xs.length ≤ 1048576) {o : Opn} (hk : xs[k]? = some o) (ho : o.OK) :
    Calls Tryz.prog 19 #[ptr q, .agg #[.int .i64 o.kind, .int .i64 o.tx, .string o.at_.1, .string o.at_.2, .string o.to_, .int .i64 o.last], .int .i64 (k : Int)] wr fun e w' => e = .returned (.int .i64 ((atS c xs k).step (iT c.reads) o k).1) ∧ Lw w3 b q p U rv (atS c xs (k + 1)) w' := by
  have hlt := (List.getElem?_eq_some_iff.1 hk).1
  have e := atS_succ (c := c) hk
  have hb' := atS_bad (xs := xs) hm (k + 1) (by omega)
  have ec := atS_caps (c := c) (xs := xs) k
  rw [e] at hb' ⊢
  have := h.step (atS_cap hm k) (by omega) (atS_Bd k) (by omega) hxs o ho (k : Int) (atS_bad hm k (by omega))
  rw [ec] at this
  exact this hb'
theorem deps_fst {vs : List Ver} {list : List Run} (hby : ∀ v ∈ vs, v.by_ < list.length) (hsaw : ∀ x ∈ list, ∀ r ∈ x.reads, 0 ≤ r.saw → r.saw.toNat < vs.length) : ∀ d ∈ depsW vs list, d.1 < list.length := by
  intro d hd
  unfold depsW at hd
  rcases List.mem_append.1 hd with hd | hd
  · obtain ⟨l, hl, hd⟩ := List.mem_flatten.1 hd
    obtain ⟨j, hj, rfl⟩ := List.mem_mapIdx.1 hl
    unfold depsX at hd
    split at hd
    · obtain ⟨r, hr, hd⟩ := List.mem_flatMap.1 hd
      unfold depsR at hd
      dsimp only at hd
      rcases List.mem_append.1 hd with hd | hd
      · split at hd
        · rename_i h0
          have h1 := hsaw _ (List.getElem_mem hj) r hr h0
          rw [List.mem_singleton.1 hd, List.getElem?_eq_getElem h1]
          exact hby _ (List.getElem_mem h1)
        · cases hd
      · generalize (if 0 ≤ r.saw then ((vs[r.saw.toNat]?).map (·.next)).getD (-1) else firstV vs r.at_) = nx at hd
        split at hd
        · rw [List.mem_singleton.1 hd]
          exact hj
        · cases hd
    · cases hd
  · obtain ⟨v, hv, hd⟩ := List.mem_flatMap.1 hd
    unfold depsV at hd
    split at hd
    · rw [List.mem_singleton.1 hd]
      exact hby v hv
    · cases hd
theorem si_saw {list : List Run} {G : List Gh} {vs : List Ver} {now : Int} (s : SI list G vs now) : ∀ x ∈ list, ∀ r ∈ x.reads, 0 ≤ r.saw → r.saw.toNat < vs.length := fun x hx r hr h0 => by
  have e := s.saw x hx r hr
  rcases newest_cases vs r.at_ x.snap with ⟨h1, _⟩ | ⟨k, v, h1, h2, _⟩
  · rw [h1] at e; omega
  · rw [h1] at e
    have := (List.getElem?_eq_some_iff.1 h2).1
    omega
theorem si_next {list : List Run} {G : List Gh} {vs : List Ver} {now : Int} (s : SI list G vs now) : ∀ v ∈ vs, 0 ≤ v.next → v.next.toNat < vs.length := fun v hv h0 => by
  obtain ⟨k, hk⟩ := List.mem_iff_getElem?.1 hv
  obtain ⟨m, u, h1, _, h2, _⟩ := s.vnext k v hk h0
  have := (List.getElem?_eq_some_iff.1 h2).1
  omega
theorem si_by {list : List Run} {G : List Gh} {vs : List Ver} {now : Int} (s : SI list G vs now) : ∀ v ∈ vs, v.by_ < list.length := fun v hv => by
  obtain ⟨x, g, h1, _⟩ := s.vby v hv
  exact (List.getElem?_eq_some_iff.1 h1).1
section
variable {w3 wr : World} {b q p : Nat} {U : Nat → Prop} {rv : Value}
theorem Lw.deps {W : Wld St} (h : Lw w3 b q p U rv W wr) {G : List Gh} (s : SI W.list G W.vers W.m.now) {k R : Nat} (hB : Bd W k R) (hk : k ≤ 1048576) (hR : R ≤ 1048576) :
    Calls Tryz.prog 21 #[ptr q] wr fun e w' => ∃ v, e = .returned v ∧ RowD w' wr.heap.size v (depsW W.vers W.list) ∧ Below wr.heap.size wr w' := by
  obtain ⟨F', vv, lv, xs', H, kp⟩ := h
  obtain ⟨s1, s2⟩ := sq_bound hk hR
  have h1 := hB.reads
  have h2 := hB.vers
  have h3 := hB.list
  exact deps_calls H (si_saw s) (si_next s) (by omega) (by omega)
theorem deps_len {vs : List Ver} {list : List Run} : (depsW vs list).length ≤ 2 * (list.map (fun x => x.reads.length)).sum + vs.length := by
  have e1 := depsN_len vs list list.length
  have e2 := depsM_len vs vs.length
  have e : depsW vs list = depsN vs list list.length ++ depsM vs vs.length := by
    unfold depsW depsN depsM
    rw [List.take_length, List.take_length]
  rw [e, List.length_append]
  rw [List.take_length] at e1
  omega
theorem ordered_s {W : Wld St} {G : List Gh} {ok : St → Prop} {I : RdI St} (M : MI I ok W.m W.list G) (s : SI W.list G W.vers W.m.now) {k R : Nat} (hB : Bd W k R) (hk : k ≤ 1048576) (hR : R ≤ 1048576) {base : Nat} {v : Value} {V : World} (hv : RowD V base v (depsW W.vers W.list)) :
    Calls Tryz.prog 20 #[.int .i64 (W.list.length : Int), v] V fun e w' => e = .returned (.bool true) ∧ Below V.heap.size V w' := by
  obtain ⟨s1, s2⟩ := sq_bound hk hR
  have h1 := hB.reads
  have h2 := hB.vers
  have h3 := hB.list
  have h4 := deps_len (vs := W.vers) (list := W.list)
  exact ordered_calls base v _ _ V hv (by omega) (deps_fst (si_by s) (si_saw s)) (by omega) (ordered_of M s)
end
end Go.Proofs.YthaoedfalkebbaaGreat
namespace Go.Proofs.YthaoedfalkebbaaGreat
open Go.RowKit Go.Maps Go.Sort Go.Lib Go.Shelf Go.Proofs.YthaoedfalkebbaaGreatW.PrintWords Go.Proofs.YthaoedfalkebbaaGreatW.PrintLast Go.Proofs.YthaoedfalkebbaaGreatW.PrintMore
set_option linter.unusedVariables false
set_option linter.unusedSimpArgs false
set_option linter.unusedSectionVars false
abbrev UpFrom (n : Nat) : Nat → Prop := fun k => n ≤ k
theorem top_up (w : World) : Top (UpFrom w.heap.size) w := fun k hk => hk
set_option maxHeartbeats 16000000 in
set_option maxRecDepth 100000 in
theorem SsiSerial_no (c : Cp) (z : Scp) (w : World) (h : mayC c = false) : Calls Tryz.prog 4 #[.agg c.cells, z.val] w fun e w' => e = .returned (.bool true) ∧ Below w.heap.size w w' := by
  obtain ⟨w1, hw1⟩ : ∃ w1, w1 = w.alloc (.cells c.cells 31) := ⟨_, rfl⟩
  have B1 : Below w.heap.size w w1 := by rw [hw1]; exact allocB w _
  have SN := fun W => start_no c z W h
  have MN := fun W => mayC_calls c W h
  obtain ⟨ac, kp, rd, lk⟩ := c
  unfold Cp.cells at hw1 SN MN ⊢
  dsimp only at hw1 SN MN ⊢
  have ob1 : w1.heap[w.heap.size]? = some (.cells #[.int .i64 ac, .int .i64 kp, .int .i64 rd, .int .i64 lk] 31 (0, 0)) := by rw [hw1]; exact heap_alloc_new w _
  have x0 := cell_of_row w1 _ 0 _ 31 (0, 0) ob1
  have x1 := cell_of_row w1 _ 1 _ 31 (0, 0) ob1
  have x2 := cell_of_row w1 _ 2 _ 31 (0, 0) ob1
  have x3 := cell_of_row w1 _ 3 _ 31 (0, 0) ob1
  have CEL : ∀ V, Below w1.heap.size w1 V → V.cell? ⟨w.heap.size, 0, none⟩ = some (.int .i64 ac) ∧ V.cell? ⟨w.heap.size, 1, none⟩ = some (.int .i64 kp) ∧ V.cell? ⟨w.heap.size, 2, none⟩ = some (.int .i64 rd) ∧ V.cell? ⟨w.heap.size, 3, none⟩ = some (.int .i64 lk) := fun V B => ⟨below_cell B x0, below_cell B x1, below_cell B x2, below_cell B x3⟩
  replace CEL := Aside0.mk CEL
  replace B1 := Aside0.mk B1
  replace SN := Aside0.mk SN
  replace MN := Aside0.mk MN
  clear ob1 h x0 x1 x2 x3
  unfold Scp.val at SN ⊢
  go_enter Tryz.func4, Tryz.ntmps4
  go_upto_region 1 with (fail)
  rw [← hw1]
  clear hw1
  go_wp2_with (go_at_call 11; refine (begun_calls w1).mono ?_; rintro e w2 ⟨rfl, B2⟩; obtain ⟨x0, x1, x2, x3⟩ := CEL.out w2 B2; have SNw := SN.out w2)
  go_wp2_with (first | (go_at_call 17; refine SNw.mono ?_; rintro e w3 ⟨rfl, B3⟩; clear x0 x1 x2 x3; obtain ⟨x0, x1, x2, x3⟩ := CEL.out w3 (below_then B2 B2.size B3); have MNw := MN.out w3) | (go_at_call 18; refine MNw.mono ?_; rintro e w4 ⟨rfl, B4⟩))
  go_ret
  exact ⟨rfl, below_then (below_then (below_then B1.out B1.out.size B2) (below_then B1.out B1.out.size B2).size B3) (below_then (below_then B1.out B1.out.size B2) (below_then B1.out B1.out.size B2).size B3).size B4⟩
set_option maxHeartbeats 32000000 in
set_option maxRecDepth 100000 in
theorem SsiSerial_go (c : Cp) (z : Scp) (w : World) (hz : z.OK w) (hn : z.xs.length ≤ 1048576) (h : mayC c = true) : Calls Tryz.prog 4 #[.agg c.cells, z.val] w fun e w' => e = .returned (.bool true) ∧ Below w.heap.size w w' := by
  obtain ⟨w1, hw1⟩ : ∃ w1, w1 = w.alloc (.cells c.cells 31) := ⟨_, rfl⟩
  have B1 : Below w.heap.size w w1 := by rw [hw1]; exact allocB w _
  have SY := fun W (B : Below w.heap.size w W) => start_calls (UpFrom W.heap.size) c z W (top_up W) ⟨Kd.C_below hz.reads B, hz.ops, hz.len⟩ h
  obtain ⟨A, cz, xs⟩ := z
  obtain ⟨hC, hops, hlen⟩ := hz
  have FI := atS_WI (xs := xs) h xs.length (by dsimp only at hn; omega)
  have FB := atS_Bd (c := c) (xs := xs) xs.length
  have FG := atS_bad (xs := xs) h xs.length (by dsimp only at hn; omega)
  unfold Scp.val at SY ⊢
  dsimp only at hC hops hn SY ⊢
  have cc : c.cells = #[.int .i64 c.active, .int .i64 c.kept, .int .i64 c.reads, .int .i64 c.locks] := rfl
  rw [cc] at hw1 SY ⊢
  have ob1 : w1.heap[w.heap.size]? = some (.cells #[.int .i64 c.active, .int .i64 c.kept, .int .i64 c.reads, .int .i64 c.locks] 31 (0, 0)) := by rw [hw1]; exact heap_alloc_new w _
  have x0 := cell_of_row w1 _ 0 _ 31 (0, 0) ob1
  have x1 := cell_of_row w1 _ 1 _ 31 (0, 0) ob1
  have x2 := cell_of_row w1 _ 2 _ 31 (0, 0) ob1
  have x3 := cell_of_row w1 _ 3 _ 31 (0, 0) ob1
  have CEL : ∀ V, Below w1.heap.size w1 V → V.cell? ⟨w.heap.size, 0, none⟩ = some (.int .i64 c.active) ∧ V.cell? ⟨w.heap.size, 1, none⟩ = some (.int .i64 c.kept) ∧ V.cell? ⟨w.heap.size, 2, none⟩ = some (.int .i64 c.reads) ∧ V.cell? ⟨w.heap.size, 3, none⟩ = some (.int .i64 c.locks) := fun V B => ⟨below_cell B x0, below_cell B x1, below_cell B x2, below_cell B x3⟩
  replace CEL := Aside0.mk CEL
  replace B1 := Aside0.mk B1
  replace SY := Aside0.mk SY
  replace FI := Aside0.mk FI
  replace FB := Aside0.mk FB
  replace FG := Aside0.mk FG
  replace hC := Aside0.mk hC
  replace hops := Aside0.mk hops
  replace cc := Aside0.mk cc
  clear ob1 hlen x0 x1 x2 x3
  go_enter Tryz.func4, Tryz.ntmps4
  go_upto_region 1 with (fail)
  rw [← hw1]
  clear hw1
  go_wp2_with (go_at_call 11; refine (begun_calls w1).mono ?_; rintro e w2 ⟨rfl, B2⟩; obtain ⟨x0, x1, x2, x3⟩ := CEL.out w2 B2)
  have B12 := below_then B1.out B1.out.size B2
  have SYw := SY.out w2 B12
  go_wp2_with (go_at_call 17; refine SYw.mono ?_; rintro e w3 ⟨q, p, rv, rfl, H3, B3⟩; clear x0 x1 x2 x3)
  have L0 : Lw w3 w2.heap.size q p (UpFrom w2.heap.size) rv (atS c xs 0) w3 := ⟨F0, _, _, _, H3, Fr.refl _ _, fun k c e s h _ => h⟩
  have AH : ∀ {W V}, Lw w3 w2.heap.size q p (UpFrom w2.heap.size) rv W V → Below w.heap.size w V := fun hL => by
    have b := hL.ahead B3.size (fun k hk => hk)
    have b2 := below_then B12 B12.size B3
    exact ⟨b.os.trans b2.os, b.tape.trans b2.tape, b.output.trans b2.output, by have := b.size; have := b2.size; omega, fun k hk => (b.block k (by have := B12.size; omega)).trans (b2.block k hk)⟩
  replace AH := Aside0.mk @AH
  clear H3 SYw B2
  replace B3 := Aside0.mk B3
  replace B12 := Aside0.mk B12
  go_wp2_with fail
  go_loopw [24] (fun iv wr => ∃ k : Nat, k ≤ xs.length ∧ iv = .int .i64 k ∧ Lw w3 w2.heap.size q p (UpFrom w2.heap.size) rv (atS c xs k) wr) (fun iv _ => xs.length - (intOf iv).toNat)
  case atStart => exact ⟨0, Nat.zero_le _, rfl, L0⟩
  case round =>
    clear L0
    obtain ⟨k, hk, rfl, hL⟩ := hrel
    by_cases hkl : k < xs.length
    · have C := Kd.C_below hC.out (AH.out hL)
      obtain ⟨ad, rfl, q0, q1, q2, q3, q4, q5⟩ := opn_at C k hkl
      have hox := hops.out _ (List.getElem_mem hkl)
      obtain ⟨W4, hW4⟩ : ∃ W4, W4 = wr.alloc (boxOn xs[k]) := ⟨_, rfl⟩
      have B4 : Below wr.heap.size wr W4 := by rw [hW4]; exact allocB wr _
      have ob4 : W4.heap[wr.heap.size]? = some (boxOn xs[k]) := by rw [hW4]; exact heap_alloc_new wr _
      have ST4 := (hL.below B4).next h hn (List.getElem?_eq_getElem hkl) hox
      unfold boxOn at hW4
      generalize xs[k] = o at q0 q1 q2 q3 q4 q5 ST4 hW4 ob4
      obtain ⟨r0, r1, r2, r3, r4, r5⟩ := opn_cells ob4
      replace hox := Aside0.mk hox
      clear ob4 B4 hL C
      go_upto_region 9 with (fail)
      rw [← hW4]
      clear hW4 q0 q1 q2 q3 q4 q5
      go_wp2_with (go_at_call 19; refine ST4.mono ?_; rintro e w5 ⟨rfl, hL5⟩)
      exact ⟨⟨k + 1, hkl, by push_cast; rfl, hL5⟩, by simp [intOf]; omega⟩
    · obtain rfl : k = xs.length := by omega
      obtain ⟨G, wi⟩ := FI.out
      have q4 := hL.bad_at
      rw [FG.out] at q4
      obtain ⟨Al, cl, q3⟩ := hL.list_at
      have DEPS := fun n => (hL.below (drewB2 wr n)).deps wi.si FB.out hn hn
      have ORD := fun b v V (hv : RowD V b v (depsW (atS c xs xs.length).vers (atS c xs xs.length).list)) => ordered_s wi.mi wi.si FB.out hn hn hv
      have BW := Aside0.mk (AH.out hL)
      replace ORD := Aside0.mk ORD
      clear hL wi
      go_wp2_with fail
      go_region_held3 (fun V => V.cell? ⟨q, 4, none⟩ = some (.bool false) ∧ V.cell? ⟨q, 3, none⟩ = some (.slice Al (atS c xs xs.length).list.length cl)) (first | exact K5 | exact K4 | exact ⟨q4, q3⟩)
        (first | (go_at_call 21; refine (DEPS _).mono ?_; rintro e w4 ⟨v, rfl, hv, B4⟩; have K4 : w4.cell? ⟨q, 4, none⟩ = some (.bool false) ∧ w4.cell? ⟨q, 3, none⟩ = some (.slice Al (atS c xs xs.length).list.length cl) := ⟨below_cell B4 (below_cell (drewB2 wr _) q4), below_cell B4 (below_cell (drewB2 wr _) q3)⟩; have ORDw := ORD.out _ v w4 hv) | (go_at_call 20; refine ORDw.mono ?_; rintro e w5 ⟨rfl, B5⟩; have K5 : w5.cell? ⟨q, 4, none⟩ = some (.bool false) ∧ w5.cell? ⟨q, 3, none⟩ = some (.slice Al (atS c xs xs.length).list.length cl) := ⟨below_cell B5 K4.1, below_cell B5 K4.2⟩))
      clear K4 K5 q3 q4 DEPS ORDw hv
      have FN := Aside0.mk (below_then (below_then (below_then BW.out BW.out.size (drewB2 wr 1)) (below_then BW.out BW.out.size (drewB2 wr 1)).size B4) (below_then (below_then BW.out BW.out.size (drewB2 wr 1)) (below_then BW.out BW.out.size (drewB2 wr 1)).size B4).size B5)
      clear B4 B5
      go_wp2
      go_ret
      exact ⟨rfl, FN.out⟩
theorem SsiSerial_calls (c : Cp) (z : Scp) (w : World) (hz : z.OK w) (hn : z.xs.length ≤ 1048576) : Calls Tryz.prog 4 #[.agg c.cells, z.val] w fun e w' => e = .returned (.bool true) ∧ Below w.heap.size w w' := by
  cases h : mayC c with
  | false => exact SsiSerial_no c z w h
  | true => exact SsiSerial_go c z w hz hn h
end Go.Proofs.YthaoedfalkebbaaGreat
namespace Go.Proofs.YthaoedfalkebbaaGreat
open Go.ChangeShapes Go.WideShapes Go.ChangeAt Go.RowKit Go.Lib Go.Proofs.YthaoedfalkebbaaGreatW.PrintWords Go.Proofs.YthaoedfalkebbaaGreatW.PrintLast Go.Proofs.YthaoedfalkebbaaGreatW.PrintMore
set_option linter.unusedVariables false
set_option linter.unusedSimpArgs false
set_option linter.unusedSectionVars false
theorem bulk_count {H : Type} : ∀ (l : List (DataW H)), l.length ≤ Rows.uptoBulkAll l
  | [] => Nat.zero_le _
  | d :: l => by
    have h := bulk_count l
    have h1 : 1 ≤ Rows.uptoBulk d := by
      cases d with
      | lit l => cases l <;> simp [Rows.uptoBulk]
      | nil => simp [Rows.uptoBulk]
      | ptr d => simp [Rows.uptoBulk]
      | slice elems spare => simp [Rows.uptoBulk]
      | agg parts => simp [Rows.uptoBulk]
      | iface t d => simp [Rows.uptoBulk]
      | map entries => simp [Rows.uptoBulk]
      | held h => simp [Rows.uptoBulk]
    simp only [Rows.uptoBulkAll, List.length_cons]
    omega
section
variable {H : Type} {enc : TypeId × Value → H} {w : World} {base : Nat} {spare : Nat → Bool} {held : Bool}
theorem bulk_scp (z : Scp) {d : DataW H} {p : List MemPlace} (h : DataW.Trod enc Tryz.prog w base spare held 24 z.val d p) (hd : Rows.uptoBulk d ≤ 1048576) : z.xs.length ≤ 1048576 := by
  obtain ⟨fuel, hf⟩ := h
  have hf : DataW.trod enc Tryz.prog w base spare held fuel 24 [.slice z.A z.xs.length z.c] = some (d, p) := hf
  rcases Go.Deep.open_slice Tryz.underlying24 hf with ⟨e, _⟩ | ⟨a, len', cap, m, n, D, Pl, e, _, _, _, _, hy, _⟩
  · injection e with e _
    injection e with _ e _
    omega
  · injection e with e _
    injection e with _ e _
    injection hy with hy _
    subst hy
    have := bulk_count ((List.range len').map D)
    simp only [List.length_map, List.length_range] at this
    simp only [Rows.uptoBulk] at hd
    omega
end
end Go.Proofs.YthaoedfalkebbaaGreat
