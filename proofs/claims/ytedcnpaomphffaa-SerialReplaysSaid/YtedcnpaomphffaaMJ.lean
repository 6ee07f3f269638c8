import Derived.Test.YtedcnpaomphffaaMI
namespace Go.Proofs.Ytedcnpaomphffaa
open Go.RowKit Go.Maps Go.Sort Go.Lib Go.Shelf Go.Proofs.YtedcnpaomphffaaW.PrintWords Go.Proofs.YtedcnpaomphffaaW.PrintLast Go.Proofs.YtedcnpaomphffaaW.PrintMore
set_option linter.unusedVariables false
set_option linter.unusedSimpArgs false
set_option linter.unusedSectionVars false
/-! ### the web: plain; what stands when it is made -/
def upI (l : List Nat) : List Int := l.map (fun p : Nat => (p : Int))
theorem upI_len (l : List Nat) : (upI l).length = l.length := by simp [upI]
theorem upI_at (l : List Nat) (i : Nat) (hi : i < (upI l).length) : (upI l)[i] = ((l[i]'(by rw [upI_len] at hi; exact hi) : Nat) : Int) := by simp [upI]
theorem mem_upI {l : List Nat} {x : Int} : x ∈ upI l ↔ ∃ p ∈ l, (p : Int) = x := by simp [upI]
theorem upI_rise {l : List Nat} (h : l.Pairwise (· < ·)) : (upI l).Pairwise (· < ·) := by
  unfold upI
  rw [List.pairwise_map]
  exact h.imp fun {a b} hab => by omega
theorem adj_sorted (g : List Dp) (names : List Int) (i : Nat) : (adj g names i).Pairwise (· < ·) := List.pairwise_lt_range.sublist List.filter_sublist
/-- the web's row of a place, sorted, each once -/
theorem adj_row {g : List Dp} {names : List Int} (hn : names.Nodup) (hg : ∀ d ∈ g, d.f ∈ names ∧ d.t ∈ names) {i : Nat} (hi : i < names.length) {l : List Int} (h : ∀ x, x ∈ l ↔ ∃ d ∈ g, d.f = nm names i ∧ plc names d.t = x) : rise l = upI (adj g names i) := by
  refine (rise_eq (upI_rise (adj_sorted g names i)) fun x => ?_).symm
  rw [mem_upI, h]
  constructor
  · rintro ⟨p, hp, rfl⟩
    obtain ⟨h1, h2⟩ := mem_adj.1 hp
    obtain ⟨d, hd, e1, e2⟩ := leadsB_iff.1 h2
    refine ⟨d, hd, e1, ?_⟩
    rw [e2, nm_eq h1, (plc_mem (List.getElem_mem h1)).1, hn.idxOf_getElem p h1]
  · rintro ⟨d, hd, e1, rfl⟩
    obtain ⟨p, hp, e2, e3⟩ := plc_at (hg d hd).2
    refine ⟨p, mem_adj.2 ⟨hp, leadsB_iff.2 ⟨d, hd, e1, by rw [nm_eq hp, e3]⟩⟩, e2.symm⟩
theorem count_below {names : List Int} (h : names.Pairwise (· < ·)) {p : Nat} (hp : p < names.length) : names.countP (· < names[p]) = p := by
  have key : ∀ (l : List Int), l.Pairwise (· < ·) → ∀ p (hp : p < l.length), l.countP (fun x => decide (x < l[p])) = p := by
    intro l
    induction l with
    | nil => intro _ p hp; simp at hp
    | cons x l ih =>
      intro h p hp
      rw [List.pairwise_cons] at h
      cases p with
      | zero =>
        rw [List.countP_eq_zero]
        intro y hy
        rcases List.mem_cons.1 hy with rfl | hy
        · simp
        · have := h.1 y hy
          simp
          omega
      | succ p =>
        have hp' : p < l.length := by simpa using hp
        rw [List.countP_cons]
        simp only [List.getElem_cons_succ]
        rw [ih h.2 p hp', if_pos]
        simpa using h.1 _ (List.getElem_mem hp')
  exact key names h p hp
theorem bs_calls (gt ct : Nat) (names : List Int) (w : World) (hs : names.Pairwise (· < ·)) (hl : names.length ≤ 65536) (h : dI.C w (some ⟨gt, 0, none⟩) names.length names) (p : Nat) (hp : p < names.length) :
    Calls Try.prog 45 #[.slice (some ⟨gt, 0, none⟩) names.length ct, .int .i64 names[p]] w fun e w' => e = .returned (.tuple #[.int .i64 (p : Int), .bool true]) ∧ ∃ q, w' = w.drewN q := by
  have hcon := Any.slices_BinarySearch_int Try.bsI gt 0 names.length ct names names[p] w (Nat.le_refl _) (by omega) (fun j hj => by
    obtain ⟨ad, e, hc⟩ := CI_at h j hj
    injection e with e
    subst e
    rw [Nat.zero_add]
    rw [List.getD_eq_getElem?_getD, List.getElem?_eq_getElem hj]
    rw [add_plain] at hc
    exact hc) (by rw [List.take_length]; exact hs.imp fun {a b} hab => by omega)
  rw [List.take_length, count_below hs hp] at hcon
  have e1 : names.contains names[p] = true := by simp
  rw [e1] at hcon
  exact hcon
/-- how many lead to a place, of the first i -/
def cntT (g : List Dp) (names : List Int) (i : Nat) (b : Int) : Int := (((names.take i).filter (fun a => leadsB g a b)).length : Int)
theorem cntT_zero (g : List Dp) (names : List Int) (b : Int) : cntT g names 0 b = 0 := by simp [cntT]
theorem cntT_all (g : List Dp) (names : List Int) (b : Int) : cntT g names names.length b = cnt g names [] b := by
  unfold cntT cnt lefts
  rw [List.take_length]
  simp
theorem cntT_succ {g : List Dp} {names : List Int} {i : Nat} (hi : i < names.length) (b : Int) : cntT g names (i + 1) b = if leadsB g (nm names i) b = true then cntT g names i b + 1 else cntT g names i b := by
  unfold cntT
  rw [List.take_succ_eq_append_getElem hi, List.filter_append, List.length_append, nm_eq hi]
  by_cases h : leadsB g names[i] b = true
  · rw [if_pos h]
    simp [List.filter_cons, h]
  · rw [if_neg h]
    simp [List.filter_cons, h]
theorem cntT_bound (g : List Dp) (names : List Int) (i : Nat) (b : Int) : 0 ≤ cntT g names i b ∧ cntT g names i b ≤ (names.length : Int) := by
  unfold cntT
  have h1 := List.length_filter_le (fun a => leadsB g a b) (names.take i)
  have h2 : (names.take i).length ≤ names.length := by rw [List.length_take]; omega
  omega
/-- within the row of the place i, after e of it -/
def CsI (g : List Dp) (names : List Int) (i e : Nat) (cs : List Int) : Prop := cs.length = names.length ∧ ∀ j (hj : j < cs.length), cs[j] = if j ∈ (adj g names i).take e then cntT g names i (nm names j) + 1 else cntT g names i (nm names j)
theorem CsI.start {g : List Dp} {names : List Int} {i : Nat} {cs : List Int} (hl : cs.length = names.length) (h : ∀ j (hj : j < cs.length), cs[j] = cntT g names i (nm names j)) : CsI g names i 0 cs := ⟨hl, fun j hj => by simpa using h j hj⟩
theorem CsI.next {g : List Dp} {names : List Int} {i e : Nat} {cs : List Int} (h : CsI g names i e cs) {j : Nat} (hj : (adj g names i)[e]? = some j) (hjl : j < cs.length) : CsI g names i (e + 1) (cs.set j (cs[j] + 1)) := by
  obtain ⟨he, ej⟩ := List.getElem?_eq_some_iff.1 hj
  have htk : (adj g names i).take (e + 1) = (adj g names i).take e ++ [j] := by rw [List.take_succ_eq_append_getElem he, ej]
  have hjn : j ∉ (adj g names i).take e := fun hm => by
    obtain ⟨q, hq, e2⟩ := List.mem_take_iff_getElem.1 hm
    have := (List.getElem_inj (adj_nodup g names i)).1 (e2.trans ej.symm)
    omega
  refine ⟨by rw [List.length_set]; exact h.1, fun m hm => ?_⟩
  rw [List.length_set] at hm
  by_cases e2 : j = m
  · subst e2
    rw [List.getElem_set_self, htk, if_pos (by simp), h.2 j hjl, if_neg hjn]
  · rw [List.getElem_set_ne e2, h.2 m hm, htk]
    have : (m ∈ (adj g names i).take e ++ [j]) ↔ m ∈ (adj g names i).take e := by
      rw [List.mem_append, List.mem_singleton]
      exact ⟨fun x => x.resolve_right (fun y => e2 y.symm), .inl⟩
    simp only [this]
theorem CsI.done {g : List Dp} {names : List Int} {i : Nat} {cs : List Int} (hi : i < names.length) (h : CsI g names i (adj g names i).length cs) : ∀ j (hj : j < cs.length), cs[j] = cntT g names (i + 1) (nm names j) := fun j hj => by
  rw [h.2 j hj, List.take_length, cntT_succ hi]
  by_cases hm : j ∈ adj g names i
  · rw [if_pos hm, if_pos (mem_adj.1 hm).2]
  · rw [if_neg hm, if_neg (fun hl => hm (mem_adj.2 ⟨by rw [← h.1]; exact hj, hl⟩))]
/-- a web that is made -/
structure WbC (W : World) (pw bn bi : Nat) (At : Option Addr) (ct : Nat) (g : List Dp) (names : List Int) (ss : List Sv) (cs : List Int) : Prop where
  c0 : W.cell? ⟨pw, 0, none⟩ = some (.slice At names.length ct)
  c1 : W.cell? ⟨pw, 1, none⟩ = some (.slice (some ⟨bn, 0, none⟩) names.length names.length)
  c2 : W.cell? ⟨pw, 2, none⟩ = some (.slice (some ⟨bi, 0, none⟩) names.length names.length)
  txn : dI.C W At names.length names
  sl : ss.length = names.length
  next : ∀ i (hi : i < ss.length), W.cell? ⟨bn, i, none⟩ = some (mvS ss[i])
  rows : ∀ i (hi : i < ss.length), ∃ A c, mvS ss[i] = .slice A (adj g names i).length c ∧ dI.C W A (upI (adj g names i)).length (upI (adj g names i))
  into : dI.C W (some ⟨bi, 0, none⟩) names.length cs
  cl : cs.length = names.length
  cs : ∀ j (hj : j < cs.length), cs[j] = cnt g names [] (nm names j)
theorem WbC.below {W W' : World} {pw bn bi : Nat} {At : Option Addr} {ct : Nat} {g : List Dp} {names : List Int} {ss : List Sv} {cs : List Int} (h : WbC W pw bn bi At ct g names ss cs) (B : Below W.heap.size W W') : WbC W' pw bn bi At ct g names ss cs where
  c0 := (B.cell (World.block_lt_of_cell? _ _ h.c0)).trans h.c0
  c1 := (B.cell (World.block_lt_of_cell? _ _ h.c1)).trans h.c1
  c2 := (B.cell (World.block_lt_of_cell? _ _ h.c2)).trans h.c2
  txn := Kd.C_below h.txn B
  sl := h.sl
  next := fun i hi => (B.cell (World.block_lt_of_cell? _ _ (h.next i hi))).trans (h.next i hi)
  rows := fun i hi => by
    obtain ⟨A, c, e, hc⟩ := h.rows i hi
    exact ⟨A, c, e, Kd.C_below hc B⟩
  into := Kd.C_below h.into B
  cl := h.cl
  cs := h.cs
theorem Wk.made {w wr : World} {base pw bn bi : Nat} {vt : Value} {names : List Int} {ss : List Sv} {R : Nat → List Int} {cs : List Int} {g : List Dp} (h : Wk w wr base pw bn bi vt names ss R cs) (hR : ∀ i, i < names.length → R i = upI (adj g names i)) (hc : ∀ j (hj : j < cs.length), cs[j] = cntT g names names.length (nm names j)) (hl : names.length ≤ 65536) :
    ∃ At ct, vt = .slice At names.length ct ∧ WbC wr pw bn bi At ct g names ss cs := by
  obtain ⟨At, ct, rfl, _, hC⟩ := Kd.R_reads h.txn
  refine ⟨At, ct, rfl, h.cells.1, h.cells.2.1, h.cells.2.2, hC, h.sl, fun i hi => (h.nextAt i hi).1, fun i hi => ?_, ?_, h.cl, fun j hj => by rw [hc j hj, cntT_all]⟩
  · have hr := h.rows i hi
    rw [hR i (by rw [← h.sl]; exact hi)] at hr
    obtain ⟨A, c, e, _, hC⟩ := Kd.R_reads hr
    exact ⟨A, c, by rw [e, upI_len], hC⟩
  · have := C_of_lo (enc := encI) (k := 1) (hn := fun _ => rfl) (h1 := encI_one) (A := some ⟨bi, 0, none⟩) (c := names.length) (xs := cs) (by rw [h.cl]; exact h.into) (by rw [h.cl]; omega)
    rw [h.cl] at this
    exact this
/-- where the web's blocks lie -/
structure WbF (b : Nat) (At : Option Addr) (pw bn bi : Nat) (ss : List Sv) : Prop where
  p : b ≤ pw
  n : b ≤ bn
  i : b ≤ bi
  t : ∀ a, At = some a → b ≤ a.block
  r : ∀ i (hi : i < ss.length), ∀ k, (mvS ss[i]).ownBlock = some k → b ≤ k
theorem WbF.lower {b b' : Nat} {At : Option Addr} {pw bn bi : Nat} {ss : List Sv} (h : WbF b At pw bn bi ss) (hb : b' ≤ b) : WbF b' At pw bn bi ss :=
  ⟨Nat.le_trans hb h.p, Nat.le_trans hb h.n, Nat.le_trans hb h.i, fun a e => Nat.le_trans hb (h.t a e), fun i hi k e => Nat.le_trans hb (h.r i hi k e)⟩
theorem Wk.fresh {w wr : World} {base pw bn bi : Nat} {At : Option Addr} {n ct : Nat} {names : List Int} {ss : List Sv} {R : Nat → List Int} {cs : List Int} (h : Wk w wr base pw bn bi (.slice At n ct) names ss R cs) : WbF w.heap.size At pw bn bi ss where
  p := h.o1
  n := h.o3
  i := h.o5
  t := fun a e => by
    subst e
    exact (flat_typed h.txn a.block rfl).1
  r := fun i hi k hk => by
    have := (h.typed hi hk).1
    have := h.o1
    have := h.o2
    omega
/-- what leaves the blocks from b on as they were leaves a web that lies there -/
theorem WbC.agree {W W' : World} {b pw bn bi : Nat} {At : Option Addr} {ct : Nat} {g : List Dp} {names : List Int} {ss : List Sv} {cs : List Int} (h : WbC W pw bn bi At ct g names ss cs) (F : WbF b At pw bn bi ss) (K : ∀ k, b ≤ k → k < W.heap.size → W'.heap[k]? = W.heap[k]?) : WbC W' pw bn bi At ct g names ss cs := by
  have cell : ∀ {p : Addr} {v : Value}, b ≤ p.block → W.cell? p = some v → W'.cell? p = some v := fun hp hc => (World.cell?_of_block (K _ hp (World.block_lt_of_cell? _ _ hc))).trans hc
  have mv : ∀ {A : Option Addr} {n : Nat} {xs : List Int}, (∀ a, A = some a → b ≤ a.block) → dI.C W A n xs → dI.C W' A n xs := fun ha hC => by
    obtain ⟨h1, h2, h3⟩ := hC
    refine ⟨h1, h2, fun hp => ?_⟩
    obtain ⟨ad, rfl, hc⟩ := h3 hp
    refine ⟨ad, rfl, fun j p hj => ?_⟩
    obtain ⟨cs, a, b', c⟩ := hc j p hj
    exact ⟨cs, a, b', fun i u hu => cell (by rw [show (ad.add (j * dI.sz + i)).block = ad.block by unfold Addr.add; split <;> rfl]; exact ha ad rfl) (c i u hu)⟩
  exact {
    c0 := cell F.p h.c0
    c1 := cell F.p h.c1
    c2 := cell F.p h.c2
    txn := mv F.t h.txn
    sl := h.sl
    next := fun i hi => cell F.n (h.next i hi)
    rows := fun i hi => by
      obtain ⟨A, c, e, hC⟩ := h.rows i hi
      exact ⟨A, c, e, mv (fun a ea => F.r i hi a.block (by rw [e, ea]; rfl)) hC⟩
    into := mv (fun a ea => by injection ea with ea; rw [← ea]; exact F.i) h.into
    cl := h.cl
    cs := h.cs }
end Go.Proofs.Ytedcnpaomphffaa
namespace Go.Proofs.Ytedcnpaomphffaa
open Go.RowKit Go.Maps Go.Sort Go.Lib Go.Shelf Go.Proofs.YtedcnpaomphffaaW.PrintWords Go.Proofs.YtedcnpaomphffaaW.PrintLast Go.Proofs.YtedcnpaomphffaaW.PrintMore
set_option linter.unusedVariables false
set_option linter.unusedSimpArgs false
set_option linter.unusedSectionVars false
/-! ### web -/
def W1J (w1 : World) (base r b pw bn bi : Nat) (vt : Value) (names : List Int) (L : List (Dp × Int)) (wr : World) : Prop :=
  ∃ (vis rem : List (Dp × Int)) (ss : List Sv) (R : Nat → List Int), (vis ++ rem).Perm L ∧ RngD wr b r L.length L rem ∧ Wk w1 wr base pw bn bi vt names ss R (List.replicate names.length 0) ∧
    (∀ i, i < names.length → ∀ x, x ∈ R i ↔ ∃ e ∈ vis, e.1.f = nm names i ∧ plc names e.1.t = x) ∧ ∀ i, i < names.length → (R i).length ≤ vis.length
def W2J (w1 : World) (base pw bn bi : Nat) (vt : Value) (g : List Dp) (names : List Int) (R0 : Nat → List Int) (v : Value) (wr : World) : Prop :=
  ∃ (i : Nat) (ss : List Sv) (R : Nat → List Int) (cs : List Int), v = .int .i64 (i : Int) ∧ i ≤ names.length ∧ Wk w1 wr base pw bn bi vt names ss R cs ∧ (∀ t, t < names.length → R t = if t < i then upI (adj g names t) else R0 t) ∧ ∀ j (hj : j < cs.length), cs[j] = cntT g names i (nm names j)
def W3J (w1 : World) (base pw bn bi : Nat) (vt : Value) (g : List Dp) (names : List Int) (ss : List Sv) (R : Nat → List Int) (i : Nat) (v : Value) (wr : World) : Prop :=
  ∃ (e : Nat) (cs : List Int), v = .int .i64 (e : Int) ∧ e ≤ (adj g names i).length ∧ Wk w1 wr base pw bn bi vt names ss R cs ∧ CsI g names i e cs
theorem madeI (n : Nat) (hn : n ≤ 65536) (W : World) : (Instr.makeSlice 22 (.int .i64 (n : Int)) (.int .i64 (n : Int))).run Try.prog W = .ok (.slice (some ⟨W.heap.size, 0, none⟩) n n) (W.alloc (.cells (madeCells #[.int .i64 0] n) 3)) := by
  obtain ⟨i0, hi, hzz⟩ := Option.map_eq_some_iff.1 info3
  simp only [Prod.mk.injEq] at hzz
  obtain ⟨hz0, hz1, hz2⟩ := hzz
  have := run_makeSlice (P := Try.prog) (w := W) 22 3 i0 (.int .i64 0) Try.underlying22 hi hz0 .i64 .i64 n n (by omega) (Int.le_refl _) (by rw [hz1]; simp; omega) (by rw [hz2]; omega) (by omega)
  rw [hz1] at this
  simp only [Int.toNat_natCast, Nat.mul_one] at this
  exact this
theorem madeS (n : Nat) (hn : n ≤ 65536) (W : World) : (Instr.makeSlice 55 (.int .i64 (n : Int)) (.int .i64 (n : Int))).run Try.prog W = .ok (.slice (some ⟨W.heap.size, 0, none⟩) n n) (W.alloc (.cells (madeCells #[.slice none 0 0] n) 22)) := by
  obtain ⟨i0, hi, hzz⟩ := Option.map_eq_some_iff.1 info22
  simp only [Prod.mk.injEq] at hzz
  obtain ⟨hz0, hz1, hz2⟩ := hzz
  have := run_makeSlice (P := Try.prog) (w := W) 55 22 i0 (.slice none 0 0) Try.underlying55 hi hz0 .i64 .i64 n n (by omega) (Int.le_refl _) (by rw [hz1]; simp; omega) (by rw [hz2]; omega) (by omega)
  rw [hz1] at this
  simp only [Int.toNat_natCast, Nat.mul_one] at this
  exact this
theorem madeCells_one (z : Value) (n : Nat) : madeCells #[z] n = (List.replicate n z).toArray := by
  apply Array.ext'
  rw [toList_madeCells_one]
theorem madeRow (n : Nat) (hn : n ≤ 65536) (W : World) (base : Nat) (hb : base ≤ W.heap.size) : RowI (W.alloc (.cells (madeCells #[.int .i64 0] n) 3)) base (.slice (some ⟨W.heap.size, 0, none⟩) n n) (List.replicate n 0) := by
  obtain ⟨w', h1, h2, _⟩ := run_mkI n (by omega) W
  rw [madeI n hn W] at h1
  injection h1 with _ h1
  subst h1
  exact Lo.lower h2 hb
/-- a web that has just been made -/
theorem Wk.start {w W : World} {pw bn bi base : Nat} {vt : Value} {names : List Int} (B : Below w.heap.size w W) (hp : W.heap[pw]? = some (.cells #[vt, .slice (some ⟨bn, 0, none⟩) names.length names.length, .slice (some ⟨bi, 0, none⟩) names.length names.length] 57 (0, 0)))
    (ht : dI.R 3 W w.heap.size (fun k => k < base ∧ k ≠ bi ∧ k ≠ bn) vt names) (hn : W.heap[bn]? = some (.cells (madeCells #[.slice none 0 0] names.length) 22 (0, 0))) (hi : RowI W w.heap.size (.slice (some ⟨bi, 0, none⟩) names.length names.length) (List.replicate names.length 0))
    (o1 : w.heap.size ≤ pw) (o2 : pw < base) (o3 : w.heap.size ≤ bn) (o4 : bn < base) (o5 : w.heap.size ≤ bi) (o6 : bi < base) (n1 : pw ≠ bn) (n2 : pw ≠ bi) (n3 : bn ≠ bi) (o7 : base ≤ W.heap.size) :
    Wk w W base pw bn bi vt names (List.replicate names.length none) (fun _ => []) (List.replicate names.length 0) where
  below := B
  cpw := hp
  txn := ht
  next := by rw [hn, madeCells_one]; simp [mvS]
  sl := by simp
  into := hi
  cl := by simp
  rows := fun i h => by simp only [List.getElem_replicate]; exact Kd.R_nil _ _ _ _ _
  apart := fun i j h1 h2 _ k hk => by simp only [List.getElem_replicate] at hk; cases hk
  o1 := o1
  o2 := o2
  o3 := o3
  o4 := o4
  o5 := o5
  o6 := o6
  n1 := n1
  n2 := n2
  n3 := n3
  o7 := o7
theorem W1J.next {w1 w3 : World} {base r b pw bn bi : Nat} {vt : Value} {names : List Int} {L vis rem : List (Dp × Int)} {ss : List Sv} {R : Nat → List Int} {d : Dp} {v : Int} {p : Nat} (hn : names.Nodup) (hp : p < names.length) (hpe : names[p] = d.f) (hperm : (vis ++ rem).Perm L) (hap : rem.Pairwise (fun p p' => p.1 ≠ p'.1)) (hm : (d, v) ∈ rem)
    (hr : RngD w3 b r L.length L (rem.filter (fun p => p.1 ≠ d))) (W : Wk w1 w3 base pw bn bi vt names ss (fun t => if t = p then R p ++ [plc names d.t] else R t) (List.replicate names.length 0))
    (h1 : ∀ i, i < names.length → ∀ x, x ∈ R i ↔ ∃ e ∈ vis, e.1.f = nm names i ∧ plc names e.1.t = x) (h2 : ∀ i, i < names.length → (R i).length ≤ vis.length) : W1J w1 base r b pw bn bi vt names L w3 := by
  refine ⟨vis ++ [(d, v)], _, ss, _, perm_next hap hperm hm, hr, W, fun i hi x => ?_, fun i hi => ?_⟩
  · have ex : (∃ e ∈ vis ++ [(d, v)], e.1.f = nm names i ∧ plc names e.1.t = x) ↔ (∃ e ∈ vis, e.1.f = nm names i ∧ plc names e.1.t = x) ∨ (d.f = nm names i ∧ plc names d.t = x) := by
      constructor
      · rintro ⟨e, he, h⟩
        rcases List.mem_append.1 he with he | he
        · exact .inl ⟨e, he, h⟩
        · rw [List.mem_singleton.1 he] at h; exact .inr h
      · rintro (⟨e, he, h⟩ | h)
        · exact ⟨e, List.mem_append_left _ he, h⟩
        · exact ⟨(d, v), by simp, h⟩
    rw [ex]
    by_cases e : i = p
    · subst e
      simp only [if_true]
      rw [List.mem_append, List.mem_singleton, h1 i hi]
      have : d.f = nm names i := by rw [nm_eq hi, hpe]
      constructor
      · rintro (h | rfl)
        · exact .inl h
        · exact .inr ⟨this, rfl⟩
      · rintro (h | ⟨_, h⟩)
        · exact .inl h
        · exact .inr h.symm
    · simp only [if_neg e]
      rw [h1 i hi]
      constructor
      · exact .inl
      · rintro (h | ⟨h, _⟩)
        · exact h
        · exfalso
          rw [nm_eq hi, ← hpe] at h
          exact e ((List.getElem_inj hn).1 h.symm)
  · rw [List.length_append, List.length_singleton]
    by_cases e : i = p
    · subst e
      simp only [if_true, List.length_append, List.length_singleton]
      have := h2 i hi
      omega
    · simp only [if_neg e]
      have := h2 i hi
      omega
def WebPost (w : World) (h : Hs) (e : Ending) (w' : World) : Prop := ∃ pw bn bi At ct ss cs, e = .returned (.pointer (some ⟨pw, 0, none⟩)) ∧ WbC w' pw bn bi At ct (graphP h) (rise h.C) ss cs ∧ WbF w.heap.size At pw bn bi ss ∧ Below w.heap.size w w'
end Go.Proofs.Ytedcnpaomphffaa
namespace Go.Proofs.Ytedcnpaomphffaa
open Go.RowKit Go.Maps Go.Sort Go.Lib Go.Shelf Go.Proofs.YtedcnpaomphffaaW.PrintWords Go.Proofs.YtedcnpaomphffaaW.PrintLast Go.Proofs.YtedcnpaomphffaaW.PrintMore
set_option linter.unusedVariables false
set_option linter.unusedSimpArgs false
set_option linter.unusedSectionVars false
/-! ### web: the walk -/
theorem Wk.start2 {w W4 : World} {pw : Nat} {At : Option Addr} {ct : Nat} {names : List Int} (hB : Below w.heap.size w W4) (hpl : w.heap.size ≤ pw) (hnl : names.length ≤ 4096) (s4 : W4.heap.size = pw + 1) (o4 : W4.heap[pw]? = some (.cells #[.slice At names.length ct, .slice none 0 0, .slice none 0 0] 57 (0, 0)))
    (ht : dI.R 3 W4 w.heap.size (fun k => k < pw) (.slice At names.length ct) names) (X Y : Obj) (bn bi : Nat) (hd : (bn = pw + 1 ∧ bi = pw + 1 + 1 ∧ X = .cells (madeCells #[.slice none 0 0] names.length) 22 ∧ Y = .cells (madeCells #[.int .i64 0] names.length) 3) ∨ (bn = pw + 1 + 1 ∧ bi = pw + 1 ∧ X = .cells (madeCells #[.int .i64 0] names.length) 3 ∧ Y = .cells (madeCells #[.slice none 0 0] names.length) 22)) :
    Wk w ((((W4.setCell ⟨pw, 1, none⟩ (.slice (some ⟨bn, 0, none⟩) names.length names.length)).setCell ⟨pw, 2, none⟩ (.slice (some ⟨bi, 0, none⟩) names.length names.length)).alloc X).alloc Y).drew (pw + 1 + 1 + 1) pw bn bi (.slice At names.length ct) names (List.replicate names.length none) (fun _ => []) (List.replicate names.length 0) := by
  obtain ⟨W5, hW5⟩ : ∃ W5, W5 = (W4.setCell ⟨pw, 1, none⟩ (.slice (some ⟨bn, 0, none⟩) names.length names.length)).setCell ⟨pw, 2, none⟩ (.slice (some ⟨bi, 0, none⟩) names.length names.length) := ⟨_, rfl⟩
  have g5 : W4.grownBy W5 (some pw) := by rw [hW5]; exact trans_grown (grown_set _ _ _ _) (grown_set _ _ _ _)
  have s5 : W5.heap.size = pw + 1 := by rw [hW5]; simp [World.setCell, s4]
  have o5 : W5.heap[pw]? = some (.cells #[.slice At names.length ct, .slice (some ⟨bn, 0, none⟩) names.length names.length, .slice (some ⟨bi, 0, none⟩) names.length names.length] 57 (0, 0)) := by rw [hW5]; exact blk_set (blk_set o4 1 _) 2 _
  rw [← hW5]
  have t5 : dI.R 3 W5 w.heap.size (fun k => k < pw) (.slice At names.length ct) names := Kd.R_grown ht g5 (fun k hk e => by injection e with e; omega)
  have B5 : Below w.heap.size w W5 := hB.grown g5 hB.size (fun k e => by injection e with e; omega)
  obtain ⟨W6, hW6⟩ : ∃ W6, W6 = W5.alloc X := ⟨_, rfl⟩
  have g6 : W5.grownBy W6 none := by rw [hW6]; exact World.grownBy_alloc _ _ _
  have s6 : W6.heap.size = pw + 1 + 1 := by rw [hW6]; simp [s5]
  have x6 : W6.heap[pw + 1]? = some X := by rw [hW6, ← s5]; exact World.alloc_heap_new _ _
  obtain ⟨W7, hW7⟩ : ∃ W7, W7 = W6.alloc Y := ⟨_, rfl⟩
  have g7 : W6.grownBy W7.drew none := by rw [hW7]; exact trans_grown (World.grownBy_alloc _ _ _) (drewG _)
  have s7 : W7.heap.size = pw + 1 + 1 + 1 := by rw [hW7]; simp [s6]
  have y7 : W7.drew.heap[pw + 1 + 1]? = some Y := by rw [hW7, ← s6]; exact World.alloc_heap_new _ _
  have x7 : W7.drew.heap[pw + 1]? = some X := (g7.block _ (by omega) (by simp)).trans x6
  rw [← hW6, ← hW7]
  have g57 := trans_grown g6 g7
  have hs7 : W7.drew.heap.size = pw + 1 + 1 + 1 := s7
  have o7 := (g57.block pw (by omega) (by simp)).trans o5
  have t7 := Kd.R_mono (ok' := fun k => k < pw + 1 + 1 + 1 ∧ k ≠ bi ∧ k ≠ bn) (Kd.R_grown t5 g57 (by simp)) (fun k hk => by rcases hd with ⟨rfl, rfl, _⟩ | ⟨rfl, rfl, _⟩ <;> omega)
  have B7 : Below w.heap.size w W7.drew := B5.grown g57 B5.size (by simp)
  rcases hd with ⟨rfl, rfl, rfl, rfl⟩ | ⟨rfl, rfl, rfl, rfl⟩
  · refine Wk.start B7 o7 t7 x7 ?_ hpl (by omega) (by omega) (by omega) (by omega) (by omega) (by omega) (by omega) (by omega) (by omega)
    have := madeRow names.length (by omega) W6 w.heap.size (by omega)
    rw [s6, ← hW7] at this
    exact this.grown (drewG _) (by simp)
  · refine Wk.start B7 o7 t7 y7 ?_ hpl (by omega) (by omega) (by omega) (by omega) (by omega) (by omega) (by omega) (by omega) (by omega)
    have := madeRow names.length (by omega) W5 w.heap.size (by omega)
    rw [s5, ← hW6] at this
    exact this.grown g7 (by simp)
set_option maxHeartbeats 16000000 in
set_option maxRecDepth 100000 in
theorem web_calls (z : HV) (w : World) (hz : z.OK w) (hok : OkH z.h) {base0 hb b2 b3 : Nat} {L2 : List (ByteArray × Sv)} {L3 : List (Pl × Int)} (H : Hist w base0 hb z.h b2 b3 L2 L3) :
    Calls Try.prog 24 #[.pointer (some ⟨hb, 0, none⟩), mkH z] w (WebPost w z.h) := by
  obtain ⟨w1, hw1, B1, hz1, b0, b1⟩ := hv_box z w hz
  obtain ⟨bx, hbx⟩ : ∃ bx, bx = w.heap.size := ⟨_, rfl⟩
  have DP := fun W (B : Below w1.heap.size w1 W) => deps_calls z W (hz1.below B) hok (H.below (below_then B1 B1.size B))
  obtain ⟨A1, c1, A2, c2, h⟩ := z
  have hC1 := hz1.c
  dsimp only [mkH] at *
  have hrn := rise_nodup_len hok.nd
  have hnl : (rise h.C).length ≤ 4096 := by rw [hrn]; exact hok.lc
  have hnn := rise_nodup h.C
  have hns := (rise_spec h.C).1
  have hgm : ∀ d ∈ graphP h, d.f ∈ rise h.C ∧ d.t ∈ rise h.C := fun d hd => by
    have := deps_ends hok (mem_graph.1 hd)
    exact ⟨((rise_spec h.C).2 _).2 this.1, ((rise_spec h.C).2 _).2 this.2.1⟩
  have hgd : ∀ d, d ∈ depsL h ↔ d ∈ graphP h := fun d => mem_graph.symm
  have VA := Values_calls A1 h.C.length c1 w1
  have SV : ∀ W Bm, W.cell? ⟨Bm, 0, none⟩ = some (.slice A1 h.C.length c1) → Below w1.heap.size w1 W → Calls Try.prog 43 #[.func (.func 60) #[] #[.pointer (some ⟨Bm, 0, none⟩)]] W fun e w' => ∃ v, e = .returned v ∧ dI.R 3 w' W.heap.size (fun _ => True) v (rise h.C) ∧ Below W.heap.size W w' := fun W Bm hc B => SortedV_calls hc (Kd.C_below hC1 B) (by have := hok.lc; omega) hok.nd
  have hPost : ∀ e W, (∃ pw bn bi At ct ss cs, e = Ending.returned (.pointer (some ⟨pw, 0, none⟩)) ∧ WbC W pw bn bi At ct (graphP h) (rise h.C) ss cs ∧ WbF w1.heap.size At pw bn bi ss ∧ Below w1.heap.size w1 W) → WebPost w h e W := by
    rintro e W ⟨pw, bn, bi, At, ct, ss, cs, e1, h1, h2, h3⟩
    exact ⟨pw, bn, bi, At, ct, ss, cs, e1, h1, h2.lower B1.size, below_then B1 B1.size h3⟩
  generalize graphP h = g at *
  generalize rise h.C = names at *
  clear hz hz1 hC1 H hok
  replace DP := Aside0.mk DP
  replace SV := Aside0.mk SV
  replace hrn := Aside0.mk hrn
  replace hnn := Aside0.mk hnn
  replace hns := Aside0.mk hns
  replace hgm := Aside0.mk hgm
  replace hgd := Aside0.mk hgd
  replace hPost := Aside0.mk hPost
  go_enter Try.func24, Try.ntmps24
  go_upto_region 1 with (fail)
  rw [← hw1, ← hbx]
  rw [← hbx] at b0 b1
  clear hw1
  replace hbx := Aside0.mk hbx
  go_wp2_with fail
  refine VA.mono ?_
  rintro e w2 ⟨rfl, hw2⟩
  have g2 : w1.grownBy w2 none := by rw [hw2]; exact World.grownBy_alloc _ _ _
  have hc2 : w2.cell? ⟨w1.heap.size, 0, none⟩ = some (.slice A1 h.C.length c1) := by rw [hw2]; exact cell_of_row _ _ 0 _ 22 (0, 0) (heap_alloc_new w1 _)
  have B2 : Below w1.heap.size w1 w2 := (Below.refl _ w1).grown g2 (Nat.le_refl _) (by simp)
  have SV2 := SV.out w2 _ hc2 B2
  clear VA hw2 g2 hc2 SV
  go_wp2_with fail
  refine SV2.mono ?_
  rintro e w3 ⟨vt, rfl, ht, B3⟩
  have B3' := below_then B2 B2.size B3
  obtain ⟨At, ct, rfl, _, hCt⟩ := Kd.R_reads ht
  -- the box
  obtain ⟨W4, hW4⟩ : ∃ W4, W4 = w3.alloc (.cells #[.slice At names.length ct, .slice none 0 0, .slice none 0 0] 57) := ⟨_, rfl⟩
  obtain ⟨pw, hpw⟩ : ∃ pw, pw = w3.heap.size := ⟨_, rfl⟩
  have g4 : w3.grownBy W4 none := by rw [hW4]; exact World.grownBy_alloc _ _ _
  have s4 : W4.heap.size = pw + 1 := by rw [hW4, hpw]; simp
  have o4 : W4.heap[pw]? = some (.cells #[.slice At names.length ct, .slice none 0 0, .slice none 0 0] 57 (0, 0)) := by rw [hW4, hpw]; exact heap_alloc_new w3 _
  have ht4 : dI.R 3 W4 w1.heap.size (fun k => k < pw) (.slice At names.length ct) names := by
    have h5 := Kd.R_grown (Kd.R_mono (ok' := fun k => k < pw) (Kd.R_bound ht) (fun k hk => by have := hk.2.2.1; omega)) g4 (by simp)
    exact Kd.R_lower h5 B2.size
  have hB4 : Below w1.heap.size w1 W4 := B3'.grown g4 B3'.size (by simp)
  have hmk1 := madeS names.length (by omega)
  have hmk2 := madeI names.length (by omega)
  have q0 := cell_of_row W4 pw 0 _ 57 (0, 0) o4
  have q1 := cell_of_row W4 pw 1 _ 57 (0, 0) o4
  have q2 := cell_of_row W4 pw 2 _ 57 (0, 0) o4
  have f0 : W4.frozen? ⟨pw, 0, none⟩ = false := blk_frozen o4 _
  have f1 : W4.frozen? ⟨pw, 1, none⟩ = false := blk_frozen o4 _
  have f2 : W4.frozen? ⟨pw, 2, none⟩ = false := blk_frozen o4 _
  have hpl : w1.heap.size ≤ pw := by rw [hpw]; exact B3'.size
  clear ht B3 B3' g4 SV2 B2
  replace hpw := Aside0.mk hpw
  replace ht4 := Aside0.mk ht4
  replace o4 := Aside0.mk o4
  go_upto_region 2 with (fail)
  rw [← hW4, ← hpw.out]
  clear hW4
  go_upto_region 3 with (fail)
  go_cut [] (fun wx => ∃ bn bi base : Nat, Wk w1 wx base pw bn bi (.slice At names.length ct) names (List.replicate names.length none) (fun _ => []) (List.replicate names.length 0))
  case first =>
    have F := fun X Y bn bi hd => Wk.start2 hB4 hpl hnl s4 o4.out ht4.out X Y bn bi hd
    replace F := Aside0.mk F
    have up : ∀ (W : World) o, W.cell? ⟨pw, 0, none⟩ = some (.slice At names.length ct) → (W.alloc o).cell? ⟨pw, 0, none⟩ = some (.slice At names.length ct) := fun W o h => (World.grownBy_alloc W o none).cell h (by simp)
    have qS : ∀ u, (W4.setCell ⟨pw, 1, none⟩ u).cell? ⟨pw, 0, none⟩ = some (.slice At names.length ct) := fun u => cell_of_row _ pw 0 _ 57 (0, 0) (blk_set o4.out 1 u)
    have qSS : ∀ u u', ((W4.setCell ⟨pw, 1, none⟩ u).setCell ⟨pw, 2, none⟩ u').cell? ⟨pw, 0, none⟩ = some (.slice At names.length ct) := fun u u' => cell_of_row _ pw 0 _ 57 (0, 0) (blk_set (blk_set o4.out 1 u) 2 u')
    go_region_held3 (fun V => V.cell? ⟨pw, 0, none⟩ = some (.slice At names.length ct)) (first | exact q0 | exact up _ _ q0 | exact up _ _ (up _ _ q0) | exact up _ _ (qS _) | exact up _ _ (up _ _ (qS _)) | exact qS _ | exact up _ _ (up _ _ (qSS _ _)) | exact up _ _ (qSS _ _)) (fail)
    all_goals
      go_wp2
      go_meet
      exact ⟨_, _, _, F.out _ _ _ _ (by first | exact .inl ⟨rfl, rfl, rfl, rfl⟩ | exact .inr ⟨rfl, rfl, rfl, rfl⟩)⟩
  case rest =>
    obtain ⟨bn, bi, base, K⟩ := hcut
    have hBK := K.below
    have d0 := (hBK.cell (World.block_lt_of_cell? _ _ b0)).trans b0
    have d1 := (hBK.cell (World.block_lt_of_cell? _ _ b1)).trans b1
    have D := DP.out wc hBK
    clear q0 q1 q2 f0 f1 f2 hmk1 hmk2 s4 o4 ht4 hB4 hCt hpl hpw DP
    replace K := Aside0.mk K
    go_wp2_with fail
    refine D.mono ?_
    rintro e w5 ⟨b, L, rfl, hT, hm, hL, hlo, B5⟩
    have K5 := K.out.kept (grown_of_below B5 none)
    obtain ⟨wR, hrng, hR0, gR, sR⟩ := Tab.range (t := 61) keyD Try.underlying61 hT
    obtain ⟨r, hr⟩ : ∃ r, r = w5.heap.size := ⟨_, rfl⟩
    have hbr : base ≤ r := by rw [hr]; exact K5.o7
    have hbb : base ≤ b := Nat.le_trans K.out.o7 hlo
    have J0 : W1J w1 base r b pw bn bi (.slice At names.length ct) names L wR := by
      rw [hr]
      exact ⟨[], L, _, _, List.Perm.refl _, hR0, K5.kept gR, fun i hi x => by simp, fun i hi => by simp⟩
    rw [← hr] at hrng
    have hkeys : ∀ d v, (d, v) ∈ L → d ∈ g := fun d v hv => (hgd.out d).1 ((hm d).1 ⟨v, hv⟩)
    have hall : ∀ d, d ∈ g → ∃ v, (d, v) ∈ L := fun d hd => (hm d).2 ((hgd.out d).2 hd)
    clear D d0 d1 hBK K K5 hT hm hR0 gR sR B5 hlo
    replace hr := Aside0.mk hr
    replace J0 := Aside0.mk J0
    replace hkeys := Aside0.mk hkeys
    replace hall := Aside0.mk hall
    go_wp2_with fail
    go_loopw [] (fun wr => W1J w1 base r b pw bn bi (.slice At names.length ct) names L wr) (fun wr => wr.rangeLeft b r)
    case atStart => exact J0.out
    case round =>
      clear J0 hrng
      obtain ⟨vis, rem, ss, R, hp, hrg, K, hR, hRl⟩ := hrel
      rcases hrg.next keyD valI 0 with ⟨hnil, hrun1⟩ | ⟨d, dv0, w3, hmem, hokD, hrun1, hr3, hlt3, hg3, hs3, hent⟩
      · subst hnil
        rw [List.append_nil] at hp
        have hR0 : ∀ i, i < names.length → rise (R i) = upI (adj g names i) := fun i hi => adj_row hnn.out hgm.out hi (fun x => by
          rw [hR i hi]
          constructor
          · rintro ⟨e, he, h1, h2⟩
            exact ⟨e.1, hkeys.out e.1 e.2 (hp.mem_iff.1 he), h1, h2⟩
          · rintro ⟨d, hd, h1, h2⟩
            obtain ⟨v, hv⟩ := hall.out d hd
            exact ⟨(d, v), hp.mem_iff.2 hv, h1, h2⟩)
        have hRl2 : ∀ i, i < names.length → (R i).length ≤ 65536 := fun i hi => by
          have := hRl i hi
          have := hp.length_eq
          omega
        obtain ⟨vt, hvt⟩ : ∃ vt, vt = Value.slice At names.length ct := ⟨_, rfl⟩
        rw [← hvt] at K
        have J2 : W2J w1 base pw bn bi vt g names R (.int .i64 0) wr := ⟨0, ss, R, _, rfl, Nat.zero_le _, K, fun t _ => by simp, fun j hj => by rw [cntT_zero]; simp⟩
        obtain ⟨c0, c1, c2⟩ := K.cells
        clear K hrg hp hR hRl hkeys hall hgd
        replace J2 := Aside0.mk J2
        replace hR0 := Aside0.mk hR0
        replace hRl2 := Aside0.mk hRl2
        replace hvt := Aside0.mk hvt
        go_wp2_with fail
        go_loopw [88] (fun v wr => W2J w1 base pw bn bi vt g names R v wr) (fun v _ => names.length - (intOf v).toNat)
        case atStart => exact J2.out
        case round =>
          clear J2 c0 c1 c2 hrun1
          obtain ⟨i, ss, R', cs, rfl, hi, K, hR', hcs⟩ := hrel
          obtain ⟨c0, c1, c2⟩ := K.cells
          by_cases hlt : i < names.length
          · have hil : i < ss.length := by rw [K.sl]; exact hlt
            obtain ⟨hat, hatf⟩ := K.nextAt i hil
            have hRi : R' i = R i := by rw [hR' i hlt, if_neg (Nat.lt_irrefl _)]
            have hrow := K.rows i hil
            rw [hRi] at hrow
            have S := sortI_calls wr base (fun _ => True) (mvS ss[i]) (R i) hrow (by have := hRl2.out i hlt; omega)
            have STEP : ∀ w6, dI.R 3 w6 base (fun _ => True) (mvS ss[i]) ((R i).mergeSort fun x y => decide (x ≤ y)) → wr.grownBy w6 (mvS ss[i]).ownBlock → w6.cell? ⟨pw, 1, none⟩ = some (.slice (some ⟨bn, 0, none⟩) names.length names.length) ∧ w6.frozen? ⟨bn, i, none⟩ = false ∧ w6.cell? ⟨bn, i, none⟩ = some (mvS ss[i]) ∧
                ∀ n, Calls Try.prog 46 #[mvS ss[i]] (w6.drewN n) fun e w8 => ∃ A c ss', e = .returned (.slice A (adj g names i).length c) ∧ w8.cell? ⟨pw, 1, none⟩ = some (.slice (some ⟨bn, 0, none⟩) names.length names.length) ∧ w8.cell? ⟨bn, i, none⟩ = some (mvS ss[i]) ∧ w8.frozen? ⟨bn, i, none⟩ = false ∧
                  (∃ h : i < ss'.length, mvS ss'[i] = .slice A (adj g names i).length c) ∧ Wk w1 (w8.setCell ⟨bn, i, none⟩ (.slice A (adj g names i).length c)) base pw bn bi vt names ss' (fun t => if t = i then upI (adj g names i) else R' t) cs := by
              intro w6 h6 g6
              have K6 := K.turn hil g6 h6
              refine ⟨K6.cells.2.1, (K6.nextAt i hil).2, (K6.nextAt i hil).1, fun n => ?_⟩
              have K7 := K6.kept (drewNG w6 n)
              have h7 := K7.rows i hil
              simp only [if_true] at h7
              refine (compactI_calls (w6.drewN n) base _ _ _ h7 (by rw [List.length_mergeSort]; have := hRl2.out i hlt; omega)).mono ?_
              rintro e w8 ⟨v', rfl, h8, g8, ho8⟩
              rw [List.length_mergeSort] at h8
              have er : compactUpTo ((R i).mergeSort fun x y => decide (x ≤ y)).toArray (R i).length = upI (adj g names i) := hR0.out i hlt
              rw [er] at h8
              obtain ⟨s', rfl, _, _⟩ := row_sv h8
              have PUT := Wk.put K7 hil g8 h8 (.inr (.inl ho8))
              obtain ⟨A, n', c, hmv⟩ := mvS_slice s'
              have hn' : n' = (adj g names i).length := by
                rw [hmv] at h8
                rw [(Kd.R_reads' h8).1, upI_len]
              subst hn'
              have lo : ∀ k, (mvS ss[i]).ownBlock = some k → base ≤ k := fun k hk => (K7.typed hil hk).1
              have o4 := K7.o4
              have o2 := K7.o2
              have hbn9 := (g8.block bn (Array.getElem?_eq_some_iff.1 K7.next).1 (fun e => by have := lo _ e.symm; omega)).trans K7.next
              refine ⟨A, c, ss.set i s', by rw [hmv], g8.cell K7.cells.2.1 (fun e => by have := lo _ e.symm; dsimp only at this; omega), g8.cell (K7.nextAt i hil).1 (fun e => by have := lo _ e.symm; dsimp only at this; omega), blk_frozen hbn9 _, ⟨by rw [List.length_set]; exact hil, by rw [List.getElem_set_self]; exact hmv⟩, ?_⟩
              rw [hmv] at PUT
              exact PUT.congr fun t ht => by
                by_cases e : t = i
                · simp only [if_pos e]
                · simp only [if_neg e]
            have hcsl := K.cl
            have E1 : ∀ t, t < names.length → (fun t => if t = i then upI (adj g names i) else R' t) t = if t < i + 1 then upI (adj g names t) else R t := fun t ht => by
              by_cases e : t = i
              · subst e
                simp only [if_true, if_pos (Nat.lt_succ_self t)]
              · simp only [if_neg e]
                rw [hR' t ht]
                by_cases e2 : t < i
                · rw [if_pos e2, if_pos (by omega)]
                · rw [if_neg e2, if_neg (by omega)]
            have hil' : (i : Int) < (names.length : Int) := by omega
            have hi0 : (0 : Int) ≤ (i : Int) := by omega
            obtain ⟨As, ns, cc, hms⟩ := mvS_slice ss[i]
            have hms' := Aside0.mk hms
            rw [hms] at hat S STEP
            clear K hrow hRi hms
            replace STEP := Aside0.mk STEP
            replace E1 := Aside0.mk E1
            replace hcs := Aside0.mk hcs
            replace hcsl := Aside0.mk hcsl
            replace hR' := Aside0.mk hR'
            go_wp2_with fail
            refine S.mono ?_
            rintro e w6 ⟨rfl, h6, g6⟩
            obtain ⟨p1, pf, p2, CC⟩ := STEP.out w6 h6 g6
            clear S STEP h6 g6 c0 c1 c2 hat hatf
            go_wp2_with fail
            go_region_held3 (fun V => V.cell? ⟨pw, 1, none⟩ = some (.slice (some ⟨bn, 0, none⟩) names.length names.length)) (first | exact p1 | exact p3 | exact K8.cells.2.1)
              ((go_at_call 46; refine (CC _).mono ?_; rintro e w8 ⟨A, c, ss', rfl, p3, p4, p5, p6, K8⟩; replace p6 := Aside0.mk p6))
            obtain ⟨hil2, hm8⟩ := p6.out
            obtain ⟨d0, d1, d2⟩ := K8.cells
            have d3 := (K8.nextAt i hil2).1
            have J3 : W3J w1 base pw bn bi vt g names ss' (fun t => if t = i then upI (adj g names i) else R' t) i (.int .i64 0) (w8.setCell ⟨bn, i, none⟩ (.slice A (adj g names i).length c)) := ⟨0, cs, rfl, Nat.zero_le _, K8, CsI.start hcsl.out hcs.out⟩
            rw [hm8] at d3
            clear CC p6 p1 pf p2 p3 p4 p5 K8
            replace hm8 := Aside0.mk hm8
            replace J3 := Aside0.mk J3
            obtain ⟨W9, hW9⟩ : ∃ W9, W9 = w8.setCell ⟨bn, i, none⟩ (.slice A (adj g names i).length c) := ⟨_, rfl⟩
            rw [← hW9] at d0 d1 d2 d3 J3 ⊢
            clear hW9
            have hal := adj_len g names i
            go_wp2_with fail
            go_loopw [111] (fun v wr => W3J w1 base pw bn bi vt g names ss' (fun t => if t = i then upI (adj g names i) else R' t) i v wr) (fun v _ => (adj g names i).length - (intOf v).toNat)
            case atStart => exact J3.out
            case round =>
              clear J3 d0 d1 d2 d3
              obtain ⟨e, cs3, rfl, he, K3, hcs3⟩ := hrel
              obtain ⟨d0, d1, d2⟩ := K3.cells
              by_cases hle : e < (adj g names i).length
              · have hrow3 := K3.rows i hil2
                simp only [if_true] at hrow3
                rw [hm8.out] at hrow3
                have hule : e < (upI (adj g names i)).length := by rw [upI_len]; exact hle
                obtain ⟨ad, rfl, q0⟩ := row_cell hrow3 e hule
                rw [upI_at] at q0
                have hjn := (mem_adj.1 (List.getElem_mem hle)).1
                have hjl : (adj g names i)[e] < cs3.length := by rw [hcs3.1]; exact hjn
                have NX := hcs3.next (List.getElem?_eq_getElem hle) hjl
                obtain ⟨q1, q2⟩ := K3.intoAt _ hjl
                have bd : 0 ≤ cs3[(adj g names i)[e]] ∧ cs3[(adj g names i)[e]] ≤ 4097 := by
                  have h1 := hcs3.2 _ hjl
                  have h2 := cntT_bound g names i (nm names (adj g names i)[e])
                  rw [h1]
                  split <;> omega
                have N : W3J w1 base pw bn bi vt g names ss' (fun t => if t = i then upI (adj g names i) else R' t) i (.int .i64 ((e : Int) + 1)) (wr.setCell ⟨bi, (adj g names i)[e], none⟩ (.int .i64 (cs3[(adj g names i)[e]] + 1))) := ⟨e + 1, _, by simp, hle, K3.inc hjl _, NX⟩
                obtain ⟨bd1, bd2⟩ := bd
                generalize hx : cs3[(adj g names i)[e]] = x at *
                generalize (adj g names i)[e] = j at *
                have hjn' : (j : Int) < (names.length : Int) := by omega
                clear K3 hcs3 hrow3 NX hx hule
                replace N := Aside0.mk N
                go_wp2
                refine ⟨N.out, ?_⟩
                simp [intOf]
                omega
              · obtain rfl : e = (adj g names i).length := by omega
                have J : W2J w1 base pw bn bi vt g names R (.int .i64 ((i : Int) + 1)) wr := ⟨i + 1, ss', _, cs3, by simp, hlt, K3, E1.out, hcs3.done hlt⟩
                clear K3 hcs3 d0 d1 d2
                replace J := Aside0.mk J
                go_wp2
                refine ⟨J.out, ?_⟩
                simp [intOf]
                omega
          · obtain rfl : i = names.length := by omega
            obtain ⟨At', ct', e0, KC⟩ := K.made (g := g) (fun t ht => by rw [hR' t ht, if_pos ht]) hcs (by omega)
            have KF := Wk.fresh (At := At') (n := names.length) (ct := ct') (by rw [← e0]; exact K)
            have PO := hPost.out _ wr ⟨pw, bn, bi, At', ct', ss, cs, rfl, KC, KF, K.below⟩
            clear K KC KF hR' hcs hR0 hRl2 hPost hvt e0
            replace PO := Aside0.mk PO
            go_wp2
            go_ret
            exact PO.out
      · have hd := hkeys.out d dv0 (hp.mem_iff.1 (List.mem_append_right _ hmem))
        obtain ⟨hdf, hdt⟩ := hgm.out d hd
        obtain ⟨p, hp1, ep, np⟩ := plc_at hdf
        obtain ⟨q, hq1, eq, nq⟩ := plc_at hdt
        have K3 := K.turned hbr (Rng.walk hrg) hg3
        obtain ⟨W3, hW3⟩ : ∃ W3, W3 = w3.alloc (.cells #[.int .i64 d.f, .int .i64 d.t, .int .i64 d.k] 64) := ⟨_, rfl⟩
        have g3 : w3.grownBy W3 none := by rw [hW3]; exact World.grownBy_alloc _ _ _
        have K4 := K3.kept g3
        have ob : W3.heap[w3.heap.size]? = some (.cells #[.int .i64 d.f, .int .i64 d.t, .int .i64 d.k] 64 (0, 0)) := by rw [hW3]; exact heap_alloc_new w3 _
        obtain ⟨bt, hbt⟩ : ∃ bt, bt = w3.heap.size := ⟨_, rfl⟩
        rw [← hbt] at ob
        have t0 := cell_of_row W3 bt 0 _ 64 (0, 0) ob
        have t1 := cell_of_row W3 bt 1 _ 64 (0, 0) ob
        obtain ⟨A', c', eA, _, hgt⟩ := (Lo.ofR K4.txn).slice
        obtain ⟨gt, rfl, _⟩ := hgt (by omega)
        injection eA with eA _ eC
        subst eA eC
        have BS : ∀ W, W3.grownBy W none → ∀ i (hi : i < names.length), Calls Try.prog 45 #[.slice (some ⟨gt, 0, none⟩) names.length ct, .int .i64 names[i]] W fun e w' => e = .returned (.tuple #[.int .i64 (i : Int), .bool true]) ∧ ∃ q, w' = W.drewN q := fun W B i hi => bs_calls gt ct names W hns.out (by omega) (Kd.R_reads' (K4.kept B).txn).2.2 i hi
        have BS1 := fun n => BS (W3.drewN n) (drewNG W3 n) p hp1
        have BS2 := fun W (B : W3.grownBy W none) n => BS (W.drewN n) (trans_grown B (drewNG W n)) q hq1
        rw [np] at BS1
        rw [nq] at BS2
        obtain ⟨c0, c1, c2⟩ := K4.cells
        have hpl : p < ss.length := by rw [K.sl]; exact hp1
        have hRp : (R p).length ≤ 65536 := by
          have := hRl p hp1
          have := hp.length_eq
          rw [List.length_append] at this
          omega
        have hrunA : ∀ W, W3.grownBy W none → ∃ (A : Option Addr) (n c : Nat) (A' : Option Addr) (n' c' : Nat) (w9 : World), W.cell? ⟨pw, 1, none⟩ = some (.slice (some ⟨bn, 0, none⟩) names.length names.length) ∧ W.cell? ⟨bn, p, none⟩ = some (.slice A n c) ∧
            (W.alloc (.cells #[.int .i64 (q : Int)] 3)).cell? ⟨pw, 1, none⟩ = some (.slice (some ⟨bn, 0, none⟩) names.length names.length) ∧ (W.alloc (.cells #[.int .i64 (q : Int)] 3)).cell? ⟨bn, p, none⟩ = some (.slice A n c) ∧
            (Builtin.append_ #[22, 22] 22 #[.slice A n c, .slice (some ⟨W.heap.size, 0, none⟩) 1 1]).run Try.prog (W.alloc (.cells #[.int .i64 (q : Int)] 3)).drew = .ok (.slice A' n' c') w9 ∧
            w9.cell? ⟨pw, 1, none⟩ = some (.slice (some ⟨bn, 0, none⟩) names.length names.length) ∧ w9.cell? ⟨bn, p, none⟩ = some (.slice A n c) ∧ w9.frozen? ⟨bn, p, none⟩ = false ∧
            W1J w1 base r b pw bn bi (.slice (some ⟨gt, 0, none⟩) names.length ct) names L (w9.setCell ⟨bn, p, none⟩ (.slice A' n' c')) ∧ (w9.setCell ⟨bn, p, none⟩ (.slice A' n' c')).rangeLeft b r < wr.rangeLeft b r := by
          intro W B
          have K7 := (K4.kept B).kept (drewG W)
          have rowp := K7.rows p hpl
          obtain ⟨v', w9, hrun, hr9, hg9, hown9⟩ := row_app rowp (q : Int) hRp K7.o7
          obtain ⟨s', rfl, _, _⟩ := row_sv hr9
          have hat := K7.nextAt p hpl
          have PUT := Wk.put K7 hpl hg9 hr9 (.inr hown9)
          obtain ⟨A, n, c, hmv⟩ := mvS_slice ss[p]
          obtain ⟨A', n', c', hmv'⟩ := mvS_slice s'
          have lo : ∀ k, (mvS ss[p]).ownBlock = some k → base ≤ k := fun k hk => (K7.typed hpl hk).1
          have o4 := K7.o4
          have o2 := K7.o2
          have hr4 := hr3.kept (trans_grown (trans_grown g3 B) (drewG W)) (by simp) (by simp)
          have hr5 := hr4.1.kept hg9 (fun e => by
            obtain ⟨_, _, cells, hc⟩ := K7.typed hpl e.symm
            obtain ⟨es, cl, hmap⟩ := hr4.1.tab.isMap
            rw [hc] at hmap
            cases hmap) (fun e => by
            obtain ⟨_, _, cells, hc⟩ := K7.typed hpl e.symm
            obtain ⟨o, ho, hno⟩ := Rng.walk hr4.1
            rw [hc] at ho
            injection ho with ho
            exact hno _ _ _ ho.symm)
          have hr6 := hr5.1.kept (grown_set w9 bn p (.slice A' n' c')) (fun e => by injection e with e; omega) (fun e => by injection e with e; omega)
          have nb : ∀ cells e, w9.heap[bn]? = some (.cells cells e (0, 0)) → w9.frozen? ⟨bn, p, none⟩ = false := fun _ _ h => blk_frozen h _
          have hbn9 := (hg9.block bn (Array.getElem?_eq_some_iff.1 K7.next).1 (fun e => by have := lo _ e.symm; omega)).trans K7.next
          have z1 : W.cell? ⟨pw, 1, none⟩ = some (.slice (some ⟨bn, 0, none⟩) names.length names.length) := K7.cells.2.1
          have z2 : W.cell? ⟨bn, p, none⟩ = some (mvS ss[p]) := hat.1
          have y1 := (World.grownBy_alloc W (.cells #[.int .i64 (q : Int)] 3) none).cell z1 (by simp)
          have y2 := (World.grownBy_alloc W (.cells #[.int .i64 (q : Int)] 3) none).cell z2 (by simp)
          have x1 := hg9.cell K7.cells.2.1 (fun e => by have := lo _ e.symm; dsimp only at this; omega)
          have x2 := hg9.cell hat.1 (fun e => by have := lo _ e.symm; dsimp only at this; omega)
          rw [hmv] at z2 y2 x2 hrun
          rw [hmv'] at hrun PUT
          refine ⟨A, n, c, A', n', c', w9, z1, z2, y1, y2, hrun, x1, x2, nb _ _ hbn9, ?_, ?_⟩
          · rw [← eq] at PUT
            exact W1J.next hnn.out hp1 np hp hrg.apart hmem hr6.1 PUT hR hRl
          · rw [hr6.2, hr5.2, hr4.2]
            exact hlt3
        unfold mkN at hrun1 hent
        clear K K3 K4 hR hRl hp hrg hr3 hmem hg3 hs3 BS g3 hlt3 ob np nq hd hdf hdt hkeys hRp hgt
        replace ep := Aside0.mk ep
        replace eq := Aside0.mk eq
        replace hrunA := Aside0.mk hrunA
        go_upto_region 6 with (fail)
        rw [← hW3, ← hbt]
        clear hW3 hrun1 hent
        replace hbt := Aside0.mk hbt
        go_region_held3 (fun V => V.cell? ⟨pw, 0, none⟩ = some (.slice (some ⟨gt, 0, none⟩) names.length ct) ∧ V.cell? ⟨bt, 0, none⟩ = some (.int .i64 d.f)) (first | exact ⟨c0, t0⟩ | exact ⟨K9 _ _ c0, K9 _ _ t0⟩)
          ((go_at_call 45; refine (BS1 _).mono ?_; rintro e w6 ⟨rfl, hw6⟩; replace hw6 := Aside0.mk hw6; have K9 : ∀ a v, W3.cell? a = some v → w6.cell? a = some v := fun a v hv => by obtain ⟨q6, e6⟩ := hw6.out; rw [e6]; exact hv))
        have G6 : W3.grownBy w6 none := by obtain ⟨q6, e6⟩ := hw6.out; rw [e6]; exact trans_grown (drewNG W3 1) (drewNG _ _)
        have c0' := K9 _ _ c0
        have t1' := K9 _ _ t1
        have BS3 := BS2 w6 G6
        clear BS1 BS2 c0 t0 t1 hw6 c1 c2
        go_wp2_with fail
        go_region_held3 (fun V => V.cell? ⟨pw, 0, none⟩ = some (.slice (some ⟨gt, 0, none⟩) names.length ct) ∧ V.cell? ⟨bt, 1, none⟩ = some (.int .i64 d.t)) (first | exact ⟨c0', t1'⟩ | exact ⟨K8 _ _ c0', K8 _ _ t1'⟩)
          ((go_at_call 45; refine (BS3 _).mono ?_; rintro e w7 ⟨rfl, hw7⟩; replace hw7 := Aside0.mk hw7; have K8 : ∀ a v, w6.cell? a = some v → w7.cell? a = some v := fun a v hv => by obtain ⟨q7, e7⟩ := hw7.out; rw [e7]; exact hv))
        have G7 : W3.grownBy w7 none := by obtain ⟨q7, e7⟩ := hw7.out; rw [e7]; exact trans_grown G6 (trans_grown (drewNG w6 1) (drewNG _ _))
        obtain ⟨A, n, c, A', n', c', w9, e1, e2, a1, a2, hrun, x1, x2, hfz, J9, M9⟩ := hrunA.out w7 G7
        have hp1' : (p : Int) < (names.length : Int) := by omega
        have hp0' : (0 : Int) ≤ (p : Int) := by omega
        clear BS3 c0' t1' hw7 G6 G7 hrunA K9 K8
        replace J9 := Aside0.mk J9
        replace M9 := Aside0.mk M9
        go_wp2_with fail
        refine start_ (n := 17) (S := fun w' => w'.cell? ⟨pw, 1, none⟩ = some (.slice (some ⟨bn, 0, none⟩) names.length names.length) ∧ w'.cell? ⟨bn, p, none⟩ = some (.slice A n c)) (ds := [16]) #[false, false, false, false, false, false, false, false, false, false, false, false, false, false, false, false, false] (by kernel_rfl) rfl rfl ⟨e1, e2⟩ (fun hHeld => ?_)
        refine pure_ (i := 0) (N := some 67) (v := ?_) (a' := ?_) #[true, false, false, false, false, false, false, false, false, false, false, false, false, false, false, false, false] rfl rfl (by kernel_rfl) (fun _ _ _ h => h) (Or.inl ⟨by rfl, ?_⟩) ?_ ?_
        rotate_left
        · intro w'
          go_simp
          with_reducible rfl
        rotate_left
        · simp only [Act.put, List.setIfInBounds_toArray, List.set_cons_zero, List.set_cons_succ, i64_w, i32_w]
          rfl
        refine pure_ (i := 1) (N := some 68) (v := ?_) (a' := ?_) #[true, true, false, false, false, false, false, false, false, false, false, false, false, false, false, false, false] rfl rfl (by kernel_rfl) (fun _ _ _ h => h) (Or.inl ⟨by rfl, ?_⟩) ?_ ?_
        rotate_left
        · intro w'
          go_simp
          with_reducible rfl
        rotate_left
        · simp only [Act.put, List.setIfInBounds_toArray, List.set_cons_zero, List.set_cons_succ, i64_w, i32_w]
          rfl
        refine pure_ (i := 2) (N := some 69) (v := ?_) (a' := ?_) #[true, true, true, false, false, false, false, false, false, false, false, false, false, false, false, false, false] rfl rfl (by kernel_rfl) (fun _ _ _ h => h) (Or.inl ⟨by rfl, ?_⟩) ?_ ?_
        rotate_left
        · intro w'
          go_simp
          with_reducible rfl
        rotate_left
        · simp only [Act.put, List.setIfInBounds_toArray, List.set_cons_zero, List.set_cons_succ, i64_w, i32_w]
          rfl
        refine pure_ (i := 4) (N := some 71) (v := ?_) (a' := ?_) #[true, true, true, false, true, false, false, false, false, false, false, false, false, false, false, false, false] rfl rfl (by kernel_rfl) (fun _ _ _ h => h) (Or.inl ⟨by rfl, ?_⟩) ?_ ?_
        rotate_left
        · intro w'
          go_simp
          with_reducible rfl
        rotate_left
        · simp only [Act.put, List.setIfInBounds_toArray, List.set_cons_zero, List.set_cons_succ, i64_w, i32_w]
          rfl
        refine pure_ (i := 5) (N := some 72) (v := ?_) (a' := ?_) #[true, true, true, false, true, true, false, false, false, false, false, false, false, false, false, false, false] rfl rfl (by kernel_rfl) (fun _ _ _ h => h) (Or.inl ⟨by rfl, ?_⟩) ?_ ?_
        rotate_left
        · intro w'
          go_simp
          with_reducible rfl
        rotate_left
        · simp only [Act.put, List.setIfInBounds_toArray, List.set_cons_zero, List.set_cons_succ, i64_w, i32_w]
          rfl
        refine pure_ (i := 6) (N := some 73) (v := ?_) (a' := ?_) #[true, true, true, false, true, true, true, false, false, false, false, false, false, false, false, false, false] rfl rfl (by kernel_rfl) (fun _ _ _ h => h) (Or.inl ⟨by rfl, ?_⟩) ?_ ?_
        rotate_left
        · intro w'
          go_simp
          with_reducible rfl
        rotate_left
        · simp only [Act.put, List.setIfInBounds_toArray, List.set_cons_zero, List.set_cons_succ, i64_w, i32_w]
          rfl
        refine pure_ (i := 7) (N := some 74) (v := ?_) (a' := ?_) #[true, true, true, false, true, true, true, true, false, false, false, false, false, false, false, false, false] rfl rfl (by kernel_rfl) (fun _ _ _ h => h) (Or.inl ⟨by rfl, ?_⟩) ?_ ?_
        rotate_left
        · intro w'
          go_simp
          with_reducible rfl
        rotate_left
        · simp only [Act.put, List.setIfInBounds_toArray, List.set_cons_zero, List.set_cons_succ, i64_w, i32_w]
          rfl
        refine pure_ (i := 9) (N := some 76) (v := ?_) (a' := ?_) #[true, true, true, false, true, true, true, true, false, true, false, false, false, false, false, false, false] rfl rfl (by kernel_rfl) (fun _ _ _ h => h) (Or.inl ⟨by rfl, ?_⟩) ?_ ?_
        rotate_left
        · intro w'
          go_simp
          with_reducible rfl
        rotate_left
        · simp only [Act.put, List.setIfInBounds_toArray, List.set_cons_zero, List.set_cons_succ, i64_w, i32_w]
          rfl
        refine pure_ (i := 12) (N := some 79) (v := ?_) (a' := ?_) #[true, true, true, false, true, true, true, true, false, true, false, false, true, false, false, false, false] rfl rfl (by kernel_rfl) (fun _ _ _ h => h) (Or.inl ⟨by rfl, ?_⟩) ?_ ?_
        rotate_left
        · intro w'
          go_simp
          with_reducible rfl
        rotate_left
        · simp only [Act.put, List.setIfInBounds_toArray, List.set_cons_zero, List.set_cons_succ, i64_w, i32_w]
          rfl
        refine take_ (i := 3) (N := some 70) (v := ?_) (a' := ?_) #[true, true, true, true, true, true, true, true, false, true, false, false, true, false, false, false, false] rfl rfl (by kernel_rfl) (fun _ _ _ h => h) (Or.inl ⟨by rfl, ?_⟩) hHeld ?_ ?_
        rotate_left
        · rintro w' ⟨s0, s1⟩
          go_simp
          with_reducible rfl
        rotate_left
        · simp only [Act.put, List.setIfInBounds_toArray, List.set_cons_zero, List.set_cons_succ, i64_w, i32_w]
          rfl
        refine take_ (i := 8) (N := some 75) (v := ?_) (a' := ?_) #[true, true, true, true, true, true, true, true, true, true, false, false, true, false, false, false, false] rfl rfl (by kernel_rfl) (fun _ _ _ h => h) (Or.inl ⟨by rfl, ?_⟩) hHeld ?_ ?_
        rotate_left
        · rintro w' ⟨s0, s1⟩
          go_simp
          with_reducible rfl
        rotate_left
        · simp only [Act.put, List.setIfInBounds_toArray, List.set_cons_zero, List.set_cons_succ, i64_w, i32_w]
          rfl
        refine pure_ (i := 10) (N := some 77) (v := ?_) (a' := ?_) #[true, true, true, true, true, true, true, true, true, true, true, false, true, false, false, false, false] rfl rfl (by kernel_rfl) (fun _ _ _ h => h) (Or.inl ⟨by rfl, ?_⟩) ?_ ?_
        rotate_left
        · intro w'
          go_simp
          with_reducible rfl
        rotate_left
        · simp only [Act.put, List.setIfInBounds_toArray, List.set_cons_zero, List.set_cons_succ, i64_w, i32_w]
          rfl
        refine take_ (i := 11) (N := some 78) (v := ?_) (a' := ?_) #[true, true, true, true, true, true, true, true, true, true, true, true, true, false, false, false, false] rfl rfl (by kernel_rfl) (fun _ _ _ h => h) (Or.inl ⟨by rfl, ?_⟩) hHeld ?_ ?_
        rotate_left
        · rintro w' ⟨s0, s1⟩
          go_simp
          with_reducible rfl
        rotate_left
        · simp only [Act.put, List.setIfInBounds_toArray, List.set_cons_zero, List.set_cons_succ, i64_w, i32_w]
          rfl
        refine one_ (i := 13) (N := some 80) #[true, true, true, true, true, true, true, true, true, true, true, true, true, true, false, false, false] rfl rfl (by kernel_rfl) (by decide) (fun K hK => ?_)
        refine value_ (w1 := ?_) (v := ?_) (by rfl) rfl ?_ ?_
        rotate_left 2
        · go_simp
          constructor
          · rfl
          · rfl
        refine hK.out _ _ ⟨a1, a2⟩ (fun hHeld => ?_)
        clear hK K
        refine norm_ (a' := ?_) ?_ ?_
        rotate_left
        · show Act.put _ (some 80) _ = _
          simp only [Act.put, List.setIfInBounds_toArray, List.set_cons_zero, List.set_cons_succ, i64_w, i32_w]
          rfl
        refine one_ (i := 14) (N := some 81) #[true, true, true, true, true, true, true, true, true, true, true, true, true, true, true, false, false] rfl rfl (by kernel_rfl) (by decide) (fun K hK => ?_)
        refine app_step (by rfl) (by rfl) (by rfl) (by rfl) hrun ?_
        refine hK.out _ _ ⟨x1, x2⟩ (fun hHeld => ?_)
        clear hK K
        refine norm_ (a' := ?_) ?_ ?_
        rotate_left
        · show Act.put _ (some 81) _ = _
          simp only [Act.put, List.setIfInBounds_toArray, List.set_cons_zero, List.set_cons_succ, i64_w, i32_w]
          rfl
        refine pure_ (i := 15) (N := some 82) (v := ?_) (a' := ?_) #[true, true, true, true, true, true, true, true, true, true, true, true, true, true, true, true, false] rfl rfl (by kernel_rfl) (fun _ _ _ h => h) (Or.inl ⟨by rfl, ?_⟩) ?_ ?_
        rotate_left
        · intro w'
          go_simp
          with_reducible rfl
        rotate_left
        · simp only [Act.put, List.setIfInBounds_toArray, List.set_cons_zero, List.set_cons_succ, i64_w, i32_w]
          rfl
        refine last_ (i := 16) (N := none) #[true, true, true, true, true, true, true, true, true, true, true, true, true, true, true, true, true] rfl rfl (by kernel_rfl) (by decide) (fun K hK => ?_)
        refine skip_ (w1 := ?_) (by rfl) rfl ?_ ?_
        rotate_left
        · go_simp
          rfl
        refine hK.out _ _ ?_
        clear hK K
        refine done_ (by kernel_rfl) ?_

        go_wp2
        exact ⟨J9.out, M9.out⟩
end Go.Proofs.Ytedcnpaomphffaa
