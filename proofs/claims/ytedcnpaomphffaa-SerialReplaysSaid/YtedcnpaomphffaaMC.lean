import Derived.Test.YtedcnpaomphffaaMB
namespace Go.Proofs.Ytedcnpaomphffaa
open Go.RowKit Go.Maps Go.Sort Go.Lib Go.Proofs.YtedcnpaomphffaaW.PrintWords Go.Proofs.YtedcnpaomphffaaW.PrintLast Go.Proofs.YtedcnpaomphffaaW.PrintMore
set_option linter.unusedVariables false
set_option linter.unusedSimpArgs false
set_option linter.unusedSectionVars false
/-! ### less, put -/
abbrev RowI (w : World) (base : Nat) (v : Value) (xs : List Int) : Prop := Lo encI 1 3 w base v xs
abbrev RowD (w : World) (base : Nat) (v : Value) (xs : List Dp) : Prop := Lo encD 3 64 w base v xs
theorem info3 : (Try.prog.info? 3).map (fun i => (i.zero, i.size, i.bytes)) = some (some (.int .i64 0), 1, 8) := by kernel_rfl
theorem info37 : (Try.prog.info? 64).map (fun i => (i.zero, i.size, i.bytes)) = some (some (.agg #[.int .i64 0, .int .i64 0, .int .i64 0]), 3, 24) := by kernel_rfl
theorem RowI.at {w : World} {base g n c : Nat} {xs : List Int} (h : RowI w base (.slice (some ⟨g, 0, none⟩) n c) xs) (j : Nat) (x : Int) (hj : xs[j]? = some x) : w.cell? ⟨g, j, none⟩ = some (.int .i64 x) := by
  have H := h.cell (fun _ => rfl) rfl j x hj 0 _ rfl
  simpa using H
theorem RowD.at {w : World} {base g n c : Nat} {xs : List Dp} (h : RowD w base (.slice (some ⟨g, 0, none⟩) n c) xs) (j : Nat) (x : Dp) (hj : xs[j]? = some x) :
    w.cell? ⟨g, j * 3, none⟩ = some (.int .i64 x.f) ∧ w.cell? ⟨g, j * 3 + 1, none⟩ = some (.int .i64 x.t) ∧ w.cell? ⟨g, j * 3 + 2, none⟩ = some (.int .i64 x.k) := by
  have H := h.cell (fun _ => rfl) rfl j x hj
  exact ⟨by simpa using H 0 _ rfl, H 1 _ rfl, H 2 _ rfl⟩
theorem Lo.below {α : Type} {enc : α → List Value} {k e base : Nat} {w w' : World} {v : Value} {xs : List α} (h : Lo enc k e w base v xs) (B : Below w.heap.size w w') : Lo enc k e w' base v xs := h.grown (grown_of_below B none) (by simp)
theorem Lo.own {α : Type} {enc : α → List Value} {k e base : Nat} {w : World} {v : Value} {xs : List α} (h : Lo enc k e w base v xs) : ∀ b, v.ownBlock = some b → base ≤ b := fun b hb => (h.typed b hb).1
def boxD (d : Dp) : Obj := .cells #[.int .i64 d.f, .int .i64 d.t, .int .i64 d.k] 64 (0, 0)
theorem dp_cells {W : World} {b : Nat} {d : Dp} (h : W.heap[b]? = some (boxD d)) :
    W.cell? ⟨b, 0, none⟩ = some (.int .i64 d.f) ∧ W.cell? ⟨b, 1, none⟩ = some (.int .i64 d.t) ∧ W.cell? ⟨b, 2, none⟩ = some (.int .i64 d.k) :=
  ⟨cell_of_row W b 0 _ 64 (0, 0) h, cell_of_row W b 1 _ 64 (0, 0) h, cell_of_row W b 2 _ 64 (0, 0) h⟩
set_option maxHeartbeats 2000000 in
set_option maxRecDepth 100000 in
theorem less_calls (a b : Dp) (w : World) : Calls Try.prog 74 #[mkD a, mkD b] w fun e w' => e = .returned (.bool (lessD a b)) ∧ Below w.heap.size w w' := by
  obtain ⟨w1, hw1⟩ : ∃ w1, w1 = w.alloc (.cells #[.int .i64 a.f, .int .i64 a.t, .int .i64 a.k] 64) := ⟨_, rfl⟩
  have B1 : Below w.heap.size w w1 := by rw [hw1]; exact (Below.refl _ w).alloc (Nat.le_refl _) _
  have o1 : w1.heap[w.heap.size]? = some (boxD a) := by rw [hw1]; exact heap_alloc_new w _
  obtain ⟨w2, hw2⟩ : ∃ w2, w2 = w1.alloc (.cells #[.int .i64 b.f, .int .i64 b.t, .int .i64 b.k] 64) := ⟨_, rfl⟩
  have B2 : Below w1.heap.size w1 w2 := by rw [hw2]; exact (Below.refl _ w1).alloc (Nat.le_refl _) _
  have o2 : w2.heap[w1.heap.size]? = some (boxD b) := by rw [hw2]; exact heap_alloc_new w1 _
  have hs : w1.heap.size = w.heap.size + 1 := by rw [hw1]; simp
  obtain ⟨a0, a1, a2⟩ := dp_cells (blk_below o1 B2)
  obtain ⟨b0, b1, b2⟩ := dp_cells o2
  have BB := below_then B1 B1.size B2
  have hw12 : (w.alloc (.cells #[.int .i64 a.f, .int .i64 a.t, .int .i64 a.k] 64)).alloc (.cells #[.int .i64 b.f, .int .i64 b.t, .int .i64 b.k] 64) = w2 := by rw [hw2, hw1]
  rw [hs] at b0 b1 b2
  clear hw2 hw1 o1 o2 B1 B2 hs
  unfold lessD
  by_cases h1 : a.f = b.f
  · have n1 : (a.f != b.f) = false := by simpa using h1
    rw [if_pos h1]
    replace h1 := Aside0.mk h1
    by_cases h2 : a.t = b.t
    · have n2 : (a.t != b.t) = false := by simpa using h2
      rw [if_pos h2]
      replace h2 := Aside0.mk h2
      go_enter Try.func74, Try.ntmps74
      go_upto_region 1 with (fail)
      clear hw12
      go_wp2
      all_goals
        go_ret
        refine ⟨?_, BB⟩
        clear BB a0 a1 a2 b0 b1 b2
        simp_all
    · have n2 : (a.t != b.t) = true := by simpa using h2
      rw [if_neg h2]
      replace h2 := Aside0.mk h2
      go_enter Try.func74, Try.ntmps74
      go_upto_region 1 with (fail)
      clear hw12
      go_wp2
      all_goals
        go_ret
        refine ⟨?_, BB⟩
        clear BB a0 a1 a2 b0 b1 b2
        simp_all
  · have n1 : (a.f != b.f) = true := by simpa using h1
    rw [if_neg h1]
    replace h1 := Aside0.mk h1
    go_enter Try.func74, Try.ntmps74
    go_upto_region 1 with (fail)
    clear hw12
    go_wp2
    all_goals
      go_ret
      refine ⟨?_, BB⟩
      clear BB a0 a1 a2 b0 b1 b2
      simp_all
theorem eqDp (x y : Dp) (w : World) : (binOp .eql 64 (mkD x) (mkD y)).run Try.prog w = .ok (.bool (decide (x = y))) w := by
  have u3 := Try.underlying3
  have a3 := Try.isAgg3
  have z3 := Try.sizeOf3
  have hS : Try.prog.underlying 64 = some (.struct (Try.prog.fieldsOf 64)) := by kernel_rfl
  have hp : Try.prog.stoodInHeld 64 = false := by kernel_rfl
  rw [run_eql_struct, show (10000 : Nat) = 9999 + 1 from rfl, run_equalIn_agg w 9999 64 _ _ hS hp]
  simp only [Program.fieldsOf, Try.underlying64]
  go_simp
  obtain ⟨a, b, c⟩ := x
  obtain ⟨d, e, f⟩ := y
  simp only [Dp.mk.injEq]
  by_cases h1 : a = d <;> by_cases h2 : b = e <;> by_cases h3 : c = f <;> simp [h1, h2, h3]
theorem insertD {xs : List Dp} (h : xs.Pairwise (fun x y => cmpDp x y < 0)) (d : Dp) (i : Nat) (hi : i ≤ xs.length) (h1 : ∀ j (hj : j < xs.length), j < i → lessD xs[j] d = true) (h2 : ∀ hj : i < xs.length, lessD xs[i] d = false ∧ xs[i] ≠ d) : (xs.take i ++ [d] ++ xs.drop i).Pairwise (fun x y => cmpDp x y < 0) := by
  have tr : ∀ {a b c : Dp}, cmpDp a b < 0 → cmpDp b c < 0 → cmpDp a c < 0 := fun {a b c} h1 h2 => by
    obtain ⟨k1, k2⟩ := ord_Dp.trans a b c (by omega) (by omega)
    by_cases e : cmpDp a c = 0
    · have := (k2 e).1; omega
    · omega
  have hd : ∀ y ∈ xs.drop i, cmpDp d y < 0 := by
    intro y hy
    obtain ⟨j, hj, rfl⟩ := List.mem_iff_getElem.1 hy
    rw [List.length_drop] at hj
    rw [List.getElem_drop]
    obtain ⟨h3, h4⟩ := h2 (by omega)
    rw [lessD_cmp, decide_eq_false_iff_not] at h3
    have h5 : cmpDp d xs[i] < 0 := by
      have := ord_Dp.anti xs[i] d
      have := ord_Dp.anti d xs[i]
      by_cases e : cmpDp xs[i] d = 0
      · exact absurd (cmpDp_eq e) h4
      · omega
    rcases Nat.eq_zero_or_pos j with h0 | h0
    · subst h0; exact h5
    · exact tr h5 (List.pairwise_iff_getElem.1 h i (i + j) (by omega) (by omega) (by omega))
  have ht : ∀ y ∈ xs.take i, cmpDp y d < 0 := by
    intro y hy
    obtain ⟨j, hj, rfl⟩ := List.mem_iff_getElem.1 hy
    rw [List.length_take] at hj
    rw [List.getElem_take]
    have := h1 j (by omega) (by omega)
    rw [lessD_cmp, decide_eq_true_iff] at this
    exact this
  have h3 : (xs.take i ++ xs.drop i).Pairwise (fun x y => cmpDp x y < 0) := by rw [List.take_append_drop]; exact h
  rw [List.pairwise_append] at h3
  rw [List.append_assoc, List.pairwise_append]
  refine ⟨h3.1, ?_, ?_⟩
  · rw [List.singleton_append, List.pairwise_cons]
    exact ⟨hd, h3.2.1⟩
  · intro y hy z hz
    rw [List.singleton_append] at hz
    rcases List.mem_cons.1 hz with rfl | hz
    · exact ht y hy
    · exact h3.2.2 y hy z hz
theorem insertD_mem (xs : List Dp) (d : Dp) (i : Nat) : ∀ z, z ∈ xs.take i ++ [d] ++ xs.drop i ↔ z ∈ xs ∨ z = d := by
  intro z
  have e : z ∈ xs ↔ z ∈ xs.take i ∨ z ∈ xs.drop i := by rw [← List.mem_append, List.take_append_drop]
  rw [e]
  simp only [List.mem_append, List.mem_singleton]
  constructor
  · rintro ((h | h) | h)
    · exact .inl (.inl h)
    · exact .inr h
    · exact .inl (.inr h)
  · rintro ((h | h) | h)
    · exact .inl (.inl h)
    · exact .inr h
    · exact .inl (.inr h)
end Go.Proofs.Ytedcnpaomphffaa
namespace Go.Proofs.Ytedcnpaomphffaa
open Go.RowKit Go.Maps Go.Sort Go.Lib Go.Proofs.YtedcnpaomphffaaW.PrintWords Go.Proofs.YtedcnpaomphffaaW.PrintLast Go.Proofs.YtedcnpaomphffaaW.PrintMore
set_option linter.unusedVariables false
set_option linter.unusedSimpArgs false
set_option linter.unusedSectionVars false
/-! ### put -/
theorem appsD {W : World} {base : Nat} {v : Value} {xs ys : List Dp} (h : RowD W base v xs) (A : Option Addr) (c : Nat) (hs : Src encD 3 W A ys) (hl : xs.length + ys.length ≤ 1000000) (hb : base ≤ W.heap.size) :
    ∃ v' w', (Builtin.append_ #[35, 35] 35 #[v, .slice A ys.length c]).run Try.prog W = .ok v' w' ∧ RowD w' base v' (xs ++ ys) ∧ W.grownBy w' v.ownBlock :=
  Lo.appS h (fun _ => rfl) encD_one 35 35 _ 24 Try.underlying35 info37 rfl (by decide) (by decide) A c hs (by omega) hb
theorem appD1 {W : World} {base : Nat} {v : Value} {xs : List Dp} (h : RowD W base v xs) (x : Dp) (hl : xs.length ≤ 1000000) (hb : base ≤ W.heap.size) :
    ∃ v' w', (Builtin.append_ #[35, 35] 35 #[v, .slice (some ⟨W.heap.size, 0, none⟩) 1 1]).run Try.prog (W.alloc (.cells #[.int .i64 x.f, .int .i64 x.t, .int .i64 x.k] 64)) = .ok v' w' ∧ RowD w' base v' (xs ++ [x]) ∧ W.grownBy w' v.ownBlock :=
  Lo.append h (fun _ => rfl) encD_one 35 35 _ 24 Try.underlying35 info37 rfl (by decide) (by decide) x (by omega) hb
def PuJ (w : World) (xs : List Dp) (d : Dp) (v : Value) (wr : World) : Prop := ∃ k : Nat, v = .int .i64 (k : Int) ∧ k ≤ xs.length ∧ (∀ j (hj : j < xs.length), j < k → lessD xs[j] d = true) ∧ Below w.heap.size w wr
def PuC (w : World) (xs : List Dp) (d : Dp) (v : Value) (wr : World) : Prop := ∃ k : Nat, v = .int .i64 (k : Int) ∧ k ≤ xs.length ∧ (∀ j (hj : j < xs.length), j < k → lessD xs[j] d = true) ∧ (∀ hk : k < xs.length, lessD xs[k] d = false) ∧ Below w.heap.size w wr
def PutD (w : World) (base : Nat) (xs : List Dp) (d : Dp) (e : Ending) (w' : World) : Prop := ∃ v' ys, e = .returned v' ∧ RowD w' base v' ys ∧ ys.Pairwise (fun x y => cmpDp x y < 0) ∧ (∀ z, z ∈ ys ↔ z ∈ xs ∨ (okD d = true ∧ z = d)) ∧ ys.length ≤ xs.length + 1 ∧ Below w.heap.size w w'
set_option maxHeartbeats 8000000 in
set_option maxRecDepth 100000 in
theorem put_calls (base : Nat) (v : Value) (xs : List Dp) (d : Dp) (w : World) (h : RowD w base v xs) (hl : xs.length ≤ 100000) (hb : base ≤ w.heap.size) (hr : xs.Pairwise (fun x y => cmpDp x y < 0)) :
    Calls Try.prog 52 #[v, mkD d] w fun e w' => PutD w base xs d e w' := by
  obtain ⟨w1, hw1⟩ : ∃ w1, w1 = w.alloc (.cells #[.int .i64 d.f, .int .i64 d.t, .int .i64 d.k] 64) := ⟨_, rfl⟩
  have B1 : Below w.heap.size w w1 := by rw [hw1]; exact (Below.refl _ w).alloc (Nat.le_refl _) _
  have ob : w1.heap[w.heap.size]? = some (boxD d) := by rw [hw1]; exact heap_alloc_new w _
  obtain ⟨bx, hbx⟩ : ∃ bx, bx = w.heap.size := ⟨_, rfl⟩
  have h1 := h.below B1
  obtain ⟨A, c, rfl, hlc, hA⟩ := h.slice
  clear h
  go_enter Try.func52, Try.ntmps52
  go_upto_region 1 with (fail)
  rw [← hw1, ← hbx]
  rw [← hbx] at ob
  clear hw1
  replace hbx := Aside0.mk hbx
  have J0 : PuJ w1 xs d (.int .i64 0) w1 := ⟨0, rfl, Nat.zero_le _, fun _ _ h => by omega, Below.refl _ _⟩
  replace hr := Aside0.mk hr
  go_upto_block 0 with (fail)
  go_cut [5] (fun v5 wx => PuC w1 xs d v5 wx)
  case first =>
    go_wp2_with fail
    go_loopw [5] (fun v5 wr => PuJ w1 xs d v5 wr) (fun v5 _ => xs.length - (intOf v5).toNat)
    case atStart => exact J0
    case round =>
      clear J0
      obtain ⟨k, rfl, hk, hpre, B⟩ := hrel
      obtain ⟨d0, d1, d2⟩ := dp_cells (blk_below ob B)
      have hrow := h1.below B
      by_cases hkl : k < xs.length
      · obtain ⟨g, rfl, _⟩ := hA (by omega)
        obtain ⟨y0, y1, y2⟩ := RowD.at hrow k xs[k] (List.getElem?_eq_getElem hkl)
        have LS := fun W => less_calls xs[k] d W
        have dk : decide (k < xs.length) = true := decide_eq_true hkl
        have BD := drewB wr 1
        cases hls : lessD xs[k] d with
        | true =>
          have fin : ∀ W, Below wr.heap.size wr W → PuJ w1 xs d (.int .i64 ((k : Int) + 1)) W := fun W BW => ⟨k + 1, by simp, by omega, fun j hj hjk => by
            rcases Nat.lt_or_ge j k with h3 | h3
            · exact hpre j hj h3
            · obtain rfl : j = k := by omega
              exact hls, below_then B B.size BW⟩
          rw [hls] at LS
          generalize xs[k] = y at y0 y1 y2 LS
          clear hpre hrow h1 hls
          replace fin := Aside0.mk fin
          go_wp2_with fail
          go_region_held3 (fun V => V.cell? ⟨g, k * 3, none⟩ = some (.int .i64 y.f) ∧ V.cell? ⟨g, k * 3 + 1, none⟩ = some (.int .i64 y.t) ∧ V.cell? ⟨g, k * 3 + 2, none⟩ = some (.int .i64 y.k) ∧ V.cell? ⟨bx, 0, none⟩ = some (.int .i64 d.f) ∧ V.cell? ⟨bx, 1, none⟩ = some (.int .i64 d.t) ∧ V.cell? ⟨bx, 2, none⟩ = some (.int .i64 d.k))
            (first | exact ⟨y0, y1, y2, d0, d1, d2⟩ | exact ⟨K9 _ _ y0, K9 _ _ y1, K9 _ _ y2, K9 _ _ d0, K9 _ _ d1, K9 _ _ d2⟩)
            ((go_at_call 74; refine (LS _).mono ?_; rintro e W' ⟨rfl, B'⟩; have K9 : ∀ q v, wr.cell? q = some v → W'.cell? q = some v := fun q v hv => (B'.cell (World.block_lt_of_cell? _ _ hv)).trans hv))
          have F := fin.out W' (below_then BD BD.size B')
          replace F := Aside0.mk F
          go_wp2
          refine ⟨F.out, ?_⟩
          simp [intOf]
          omega
        | false =>
          have fin : ∀ W, Below wr.heap.size wr W → PuC w1 xs d (.int .i64 (k : Int)) W := fun W BW => ⟨k, rfl, hk, hpre, fun _ => hls, below_then B B.size BW⟩
          rw [hls] at LS
          generalize xs[k] = y at y0 y1 y2 LS
          clear hpre hrow h1 hls
          replace fin := Aside0.mk fin
          go_wp2_with fail
          go_region_held3 (fun V => V.cell? ⟨g, k * 3, none⟩ = some (.int .i64 y.f) ∧ V.cell? ⟨g, k * 3 + 1, none⟩ = some (.int .i64 y.t) ∧ V.cell? ⟨g, k * 3 + 2, none⟩ = some (.int .i64 y.k) ∧ V.cell? ⟨bx, 0, none⟩ = some (.int .i64 d.f) ∧ V.cell? ⟨bx, 1, none⟩ = some (.int .i64 d.t) ∧ V.cell? ⟨bx, 2, none⟩ = some (.int .i64 d.k))
            (first | exact ⟨y0, y1, y2, d0, d1, d2⟩ | exact ⟨K9 _ _ y0, K9 _ _ y1, K9 _ _ y2, K9 _ _ d0, K9 _ _ d1, K9 _ _ d2⟩)
            ((go_at_call 74; refine (LS _).mono ?_; rintro e W' ⟨rfl, B'⟩; have K9 : ∀ q v, wr.cell? q = some v → W'.cell? q = some v := fun q v hv => (B'.cell (World.block_lt_of_cell? _ _ hv)).trans hv))
          have F := fin.out W' (below_then BD BD.size B')
          replace F := Aside0.mk F
          go_wp2
          go_meet
          exact F.out
      · have dk : decide (k < xs.length) = false := decide_eq_false hkl
        have F : ∀ n, PuC w1 xs d (.int .i64 (k : Int)) (wr.drewN n) := fun n => ⟨k, rfl, hk, hpre, fun hk => absurd hk hkl, below_then B B.size (drewB wr n)⟩
        clear hpre hrow h1
        replace hkl := Aside0.mk hkl
        replace F := Aside0.mk F
        go_wp2_with fail
        go_quiet (fail)
        go_wp2
        go_meet
        exact F.out _
  case rest =>
    clear J0
    obtain ⟨k, rfl, hk, hpre, hnot, B⟩ := hcut
    obtain ⟨d0, d1, d2⟩ := dp_cells (blk_below ob B)
    have hrow := h1.below B
    have B2 := below_then B1 B1.size B
    have keep : okD d = false ∨ d ∈ xs → ∀ W, Below wc.heap.size wc W → PutD w base xs d (.returned (.slice A xs.length c)) W := by
      intro hno W BW
      refine ⟨_, xs, rfl, hrow.below BW, hr.out, fun z => ⟨.inl, fun hz => ?_⟩, by omega, below_then B2 B2.size BW⟩
      rcases hz with hz | ⟨hz, rfl⟩
      · exact hz
      · rcases hno with hn | hn
        · rw [hz] at hn; cases hn
        · exact hn
    replace keep := Aside0.mk keep
    by_cases f0 : d.f = 0
    · have K := fun n => keep.out (.inl (by unfold okD; rw [f0]; rfl)) (wc.drewN n) (drewB wc n)
      have e0 : (d.f == 0) = true := by simpa using f0
      replace f0 := Aside0.mk f0
      replace K := Aside0.mk K
      clear hpre hnot hrow h1
      go_wp2_with fail
      go_quiet (fail)
      go_wp2
      go_ret
      exact K.out _
    have e0 : (d.f == 0) = false := by simpa using f0
    by_cases t0 : d.t = 0
    · have K := fun n => keep.out (.inl (by unfold okD; rw [t0]; simp)) (wc.drewN n) (drewB wc n)
      have e1 : (d.t == 0) = true := by simpa using t0
      replace f0 := Aside0.mk f0
      replace t0 := Aside0.mk t0
      replace K := Aside0.mk K
      clear hpre hnot hrow h1
      go_wp2_with fail
      go_quiet (fail)
      go_wp2
      go_ret
      exact K.out _
    have e1 : (d.t == 0) = false := by simpa using t0
    by_cases ft : d.f = d.t
    · have K := fun n => keep.out (.inl (by unfold okD; rw [ft]; simp)) (wc.drewN n) (drewB wc n)
      have e2 : (d.f == d.t) = true := by simpa using ft
      replace f0 := Aside0.mk f0
      replace t0 := Aside0.mk t0
      replace ft := Aside0.mk ft
      replace K := Aside0.mk K
      clear hpre hnot hrow h1
      go_wp2_with fail
      go_quiet (fail)
      go_wp2
      go_ret
      exact K.out _
    have e2 : (d.f == d.t) = false := by simpa using ft
    have hok : okD d = true := by unfold okD; rw [e0, e1, e2]; rfl
    replace f0 := Aside0.mk f0
    replace t0 := Aside0.mk t0
    replace ft := Aside0.mk ft
    have rest : ∀ W, Below wc.heap.size wc W → (∀ hj : k < xs.length, xs[k] ≠ d) → ∃ v1 w1 v2 w2 v3 w3, (Builtin.append_ #[35, 35] 35 #[.slice none 0 0, .slice A k c]).run Try.prog W = .ok v1 w1 ∧
        (Builtin.append_ #[35, 35] 35 #[v1, .slice (some ⟨w1.heap.size, 0, none⟩) 1 1]).run Try.prog (w1.alloc (.cells #[.int .i64 d.f, .int .i64 d.t, .int .i64 d.k] 64)) = .ok v2 w2 ∧
        (Builtin.append_ #[35, 35] 35 #[v2, .slice (if c = k then A else A.map (·.add (k * 3))) (xs.length - k) (c - k)]).run Try.prog w2 = .ok v3 w3 ∧ PutD w base xs d (.returned v3) w3 ∧
        w1.cell? ⟨bx, 0, none⟩ = some (.int .i64 d.f) ∧ w1.cell? ⟨bx, 1, none⟩ = some (.int .i64 d.t) ∧ w1.cell? ⟨bx, 2, none⟩ = some (.int .i64 d.k) := by
      intro W BW hne
      have hrW := hrow.below BW
      have BcW := below_then B2 B2.size BW
      have hs1 := Lo.srcTake hrW rfl hk
      have htl : (xs.take k).length = k := by rw [List.length_take]; omega
      have hdl : (xs.drop k).length = xs.length - k := List.length_drop
      obtain ⟨v1, w1, r1, R1, G1⟩ := appsD (Lo.nil W W.heap.size) A c hs1 (by rw [htl]; simp only [List.length_nil]; omega) (Nat.le_refl _)
      rw [htl] at r1
      rw [List.nil_append] at R1
      have D1 : Below W.heap.size W w1 := (Below.refl _ W).grown G1 (Nat.le_refl _) (by simp [Value.ownBlock])
      obtain ⟨v2, w2, r2, R2, G2⟩ := appD1 R1 d (by rw [htl]; omega) D1.size
      have D2 : Below W.heap.size W w2 := D1.grown G2 D1.size R1.own
      have hrow2 := hrW.below D2
      have hs2 := Lo.srcDrop hrow2 rfl hk
      obtain ⟨v3, w3, r3, R3, G3⟩ := appsD R2 _ (c - k) hs2 (by rw [List.length_append, htl, hdl]; simp only [List.length_cons, List.length_nil]; omega) D2.size
      rw [hdl] at r3
      have D3 : Below W.heap.size W w3 := D2.grown G3 D2.size R2.own
      have hlen : (xs.take k ++ [d] ++ xs.drop k).length ≤ xs.length + 1 := by
        rw [List.length_append, List.length_append, List.length_take, List.length_drop, List.length_singleton]
        omega
      refine ⟨v1, w1, v2, w2, v3, w3, r1, r2, r3, ⟨v3, _, rfl, Lo.lower R3 (Nat.le_trans hb BcW.size), insertD hr.out d k hk hpre (fun hj => ⟨hnot hj, hne hj⟩), fun z => ?_, hlen, below_then BcW BcW.size D3⟩, up_below D1 (up_below BW d0), up_below D1 (up_below BW d1), up_below D1 (up_below BW d2)⟩
      rw [insertD_mem]
      simp [hok]
    have cut1 := cutTo (P := Try.prog) 35 64 Try.underlying35 info37 A xs.length c k (by omega)
    have cut2 := cutOff (P := Try.prog) 35 64 Try.underlying35 info37 A xs.length c k (by omega)
    generalize (if c = k then A else A.map (·.add (k * 3))) = A3 at rest cut2
    by_cases hkl : k < xs.length
    · obtain ⟨g, rfl, _⟩ := hA (by omega)
      obtain ⟨y0, y1, y2⟩ := RowD.at hrow k xs[k] (List.getElem?_eq_getElem hkl)
      have dk : decide (k < xs.length) = true := decide_eq_true hkl
      have EQ := fun W => eqDp xs[k] d W
      by_cases he : xs[k] = d
      · have K := fun n => keep.out (.inr (he ▸ List.getElem_mem hkl)) (wc.drewN n) (drewB wc n)
        rw [decide_eq_true he] at EQ
        generalize xs[k] = y at y0 y1 y2 EQ
        clear rest cut1 cut2 hpre hnot hrow h1 he
        replace K := Aside0.mk K
        go_wp2_with fail
        go_region_held3 (fun V => V.cell? ⟨g, k * 3, none⟩ = some (.int .i64 y.f) ∧ V.cell? ⟨g, k * 3 + 1, none⟩ = some (.int .i64 y.t) ∧ V.cell? ⟨g, k * 3 + 2, none⟩ = some (.int .i64 y.k) ∧ V.cell? ⟨bx, 0, none⟩ = some (.int .i64 d.f) ∧ V.cell? ⟨bx, 1, none⟩ = some (.int .i64 d.t) ∧ V.cell? ⟨bx, 2, none⟩ = some (.int .i64 d.k)) (exact ⟨y0, y1, y2, d0, d1, d2⟩) (fail)
        go_wp2
        go_ret
        exact K.out 1
      · obtain ⟨v1, w1', v2, w2, v3, w3, r1, r2, r3, F, z0, z1, z2⟩ := rest (wc.drewN 1) (drewB wc 1) (fun _ => he)
        rw [decide_eq_false he] at EQ
        generalize xs[k] = y at y0 y1 y2 EQ
        clear rest hpre hnot hrow h1 he
        replace F := Aside0.mk F
        go_wp2_with fail
        go_region_held3 (fun V => V.cell? ⟨g, k * 3, none⟩ = some (.int .i64 y.f) ∧ V.cell? ⟨g, k * 3 + 1, none⟩ = some (.int .i64 y.t) ∧ V.cell? ⟨g, k * 3 + 2, none⟩ = some (.int .i64 y.k) ∧ V.cell? ⟨bx, 0, none⟩ = some (.int .i64 d.f) ∧ V.cell? ⟨bx, 1, none⟩ = some (.int .i64 d.t) ∧ V.cell? ⟨bx, 2, none⟩ = some (.int .i64 d.k)) (exact ⟨y0, y1, y2, d0, d1, d2⟩) (fail)
        clear y0 y1 y2 d0 d1 d2
        go_upto_region 8 with (at_builtin; refine app_list rfl rfl rfl rfl r1 ?_)
        clear r1 cut1
        go_upto_region 9 with (at_builtin; refine app_list rfl rfl rfl rfl r2 ?_)
        clear r2
        go_wp2_with (at_builtin; refine app_list rfl rfl rfl rfl r3 ?_)
        go_ret
        exact F.out
    · have dk : decide (k < xs.length) = false := decide_eq_false hkl
      have rest2 := fun n => rest (wc.drewN n) (drewB wc n) (fun hj => absurd hj hkl)
      have hkl' : k = xs.length := by omega
      clear rest hpre hnot hrow h1
      replace rest2 := Aside0.mk rest2
      replace hkl' := Aside0.mk hkl'
      replace hkl := Aside0.mk hkl
      rcases A with _ | ad
      all_goals
        go_wp2_with fail
        go_quiet (fail)
        rename_i nq
        obtain ⟨v1, w1', v2, w2, v3, w3, r1, r2, r3, F, z0, z1, z2⟩ := rest2.out nq
        replace F := Aside0.mk F
        clear d0 d1 d2
        go_upto_region 8 with (at_builtin; refine app_list rfl rfl rfl rfl r1 ?_)
        clear r1 cut1
        go_upto_region 9 with (at_builtin; refine app_list rfl rfl rfl rfl r2 ?_)
        clear r2
        go_wp2_with (at_builtin; refine app_list rfl rfl rfl rfl r3 ?_)
        go_ret
        exact F.out
end Go.Proofs.Ytedcnpaomphffaa
namespace Go.Proofs.Ytedcnpaomphffaa
open Go.RowKit Go.Maps Go.Sort Go.Lib Go.Proofs.YtedcnpaomphffaaW.PrintWords Go.Proofs.YtedcnpaomphffaaW.PrintLast Go.Proofs.YtedcnpaomphffaaW.PrintMore
set_option linter.unusedVariables false
set_option linter.unusedSimpArgs false
set_option linter.unusedSectionVars false
/-! ### the document's Graph -/
def depsT (h : Hs) (j : Nat) : List Dp := ((h.A.take j).flatMap (actD h)).filter okD
theorem mem_depsT {h : Hs} {j : Nat} (hj : j < h.A.length) (z : Dp) : z ∈ depsT h (j + 1) ↔ z ∈ depsT h j ∨ (okD z = true ∧ z ∈ actD h h.A[j]) := by
  unfold depsT
  rw [List.take_succ_eq_append_getElem hj, List.flatMap_append, List.filter_append, List.mem_append]
  simp [List.mem_filter, and_comm]
structure GrR (w : World) (base : Nat) (h : Hs) (j : Nat) (v : Value) (wr : World) : Prop where
  ex : ∃ ys, RowD wr base v ys ∧ ys.Pairwise (fun x y => cmpDp x y < 0) ∧ (∀ z, z ∈ ys ↔ z ∈ depsT h j) ∧ ys.length ≤ 2 * j
def GrJ (w : World) (base : Nat) (h : Hs) (v3 v4 : Value) (wr : World) : Prop := ∃ j : Nat, v4 = .int .i64 (j : Int) ∧ j ≤ h.A.length ∧ (∃ ys, RowD wr base v3 ys ∧ ys.Pairwise (fun x y => cmpDp x y < 0) ∧ (∀ z, z ∈ ys ↔ z ∈ depsT h j) ∧ ys.length ≤ 2 * j) ∧ Below w.heap.size w wr
set_option maxHeartbeats 8000000 in
set_option maxRecDepth 100000 in
theorem RGraph_calls (z : HV) (w : World) (hz : z.OK w) (hA : z.h.A.length ≤ 4096) :
    Calls Try.prog 30 #[mkH z] w fun e w' => ∃ v, e = .returned v ∧ RowD w' w.heap.size v (graphP z.h) ∧ Below w.heap.size w w' := by
  obtain ⟨A1, c1, A2, c2, h⟩ := z
  obtain ⟨w1, hw1, B1, hz1, b0, b1⟩ := hv_box _ w hz
  obtain ⟨bx, hbx⟩ : ∃ bx, bx = w.heap.size := ⟨_, rfl⟩
  have hl := hz.la
  have NX := fun W (B : Below w1.heap.size w1 W) it v => next_calls _ it v W (hz1.below B)
  have za : ∀ W, Below w1.heap.size w1 W → dA.C W A2 h.A.length h.A := fun W B => (hz1.below B).a
  dsimp only [mkH] at hw1 b0 b1 hl NX hA ⊢
  clear hz hz1
  have hs1 : w.heap.size ≤ w1.heap.size := B1.size
  have J0 : GrJ w1 w.heap.size h (.slice none 0 0) (.int .i64 0) w1 := ⟨0, rfl, Nat.zero_le _, ⟨[], Lo.nil _ _, List.Pairwise.nil, fun z => by simp [depsT], Nat.le_refl _⟩, Below.refl _ _⟩
  go_enter Try.func30, Try.ntmps30
  go_upto_region 1 with (fail)
  rw [← hw1, ← hbx]
  rw [← hbx] at b0 b1
  clear hw1
  replace hbx := Aside0.mk hbx
  go_wp2_with fail
  go_loopw [3, 4] (fun v3 v4 wr => GrJ w1 w.heap.size h v3 v4 wr) (fun _ v4 _ => h.A.length - (intOf v4).toNat)
  case atStart => exact J0
  case round =>
    clear J0
    obtain ⟨j, rfl, hj, ⟨ys, hys, hst, hme, hyl⟩, B⟩ := hrel
    have d0 := up_below B b0
    have d1 := up_below B b1
    by_cases hlt : j < h.A.length
    · obtain ⟨ad, rfl, q0, q1, q2, q3⟩ := CA_at (za wr B) j hlt
      have hmt := mem_depsT hlt
      generalize h.A[j] = a at q0 q1 q2 q3 hmt
      obtain ⟨W2, hW2⟩ : ∃ W2, W2 = wr.alloc (.cells #[.int .i64 a.t, .bool a.wr, .string a.item, .int .i64 a.v] 40) := ⟨_, rfl⟩
      have B2 : Below wr.heap.size wr W2 := by rw [hW2]; exact (Below.refl _ wr).alloc (Nat.le_refl _) _
      have ob : W2.heap[wr.heap.size]? = some (boxA a) := by rw [hW2]; exact heap_alloc_new wr _
      obtain ⟨bn, hbn⟩ : ∃ b, b = wr.heap.size := ⟨_, rfl⟩
      have BW := below_then B B.size B2
      go_upto_region 6 with (fail)
      rw [← hW2, ← hbn]
      rw [← hbn] at ob
      clear hW2 q0 q1 q2 q3
      replace hbn := Aside0.mk hbn
      have e0 := up_below B2 d0
      have e1 := up_below B2 d1
      obtain ⟨r0, r1, r2, r3⟩ := ac_cells ob
      have hys2 := hys.below B2
      have hsz2 : w.heap.size ≤ W2.heap.size := Nat.le_trans hs1 BW.size
      have PU := fun W (BW' : Below W2.heap.size W2 W) d => put_calls w.heap.size u3 ys d W (hys2.below BW') (by omega) (Nat.le_trans hsz2 BW'.size) hst
      have fin : ∀ v zs W, Below W2.heap.size W2 W → RowD W w.heap.size v zs → zs.Pairwise (fun x y => cmpDp x y < 0) → (∀ z, z ∈ zs ↔ z ∈ ys ∨ (okD z = true ∧ z ∈ actD h a)) → zs.length ≤ ys.length + 2 → GrJ w1 w.heap.size h v (.int .i64 ((j : Int) + 1)) W := by
        intro v zs W BW' h1 h2 h3 h4
        refine ⟨j + 1, by simp, by omega, ⟨zs, h1, h2, fun z => ?_, by omega⟩, below_then BW BW.size BW'⟩
        rw [h3, hmt, hme]
      have BD := drewB W2 1
      clear hys hmt hme d0 d1
      cases k1 : a.wr with
      | true =>
        rw [k1] at r1
        have ha : actD h a = [⟨a.t, nxt h a.item a.t, 2⟩] := by unfold actD; rw [if_pos k1]
        rw [ha] at fin
        have NX2 := fun n => NX (W2.drewN n) (below_then BW BW.size (drewB W2 n)) a.item a.t
        generalize nxt h a.item a.t = nx at NX2 fin
        replace fin := Aside0.mk fin
        replace ha := Aside0.mk ha
        replace k1 := Aside0.mk k1
        clear hys2 hst NX
        go_wp2_with fail
        go_region_held3 (fun V => V.cell? ⟨bx, 0, none⟩ = some (.slice A1 h.C.length c1) ∧ V.cell? ⟨bx, 1, none⟩ = some (.slice (some ad) h.A.length c2) ∧ V.cell? ⟨bn, 0, none⟩ = some (.int .i64 a.t) ∧ V.cell? ⟨bn, 2, none⟩ = some (.string a.item))
          (first | exact ⟨e0, e1, r0, r2⟩ | exact ⟨K9 _ _ e0, K9 _ _ e1, K9 _ _ r0, K9 _ _ r2⟩ | exact ⟨K8 _ _ e0, K8 _ _ e1, K8 _ _ r0, K8 _ _ r2⟩)
          (first
            | (go_at_call 52; have B9 := below_then (drewB W2 _) (drewB W2 _).size B'; refine (PU _ B9 ⟨a.t, nx, 2⟩).mono ?_; rintro e W' ⟨v', zs, rfl, z1, z2, z3, z4, B''⟩; have K8 : ∀ q v, W2.cell? q = some v → W'.cell? q = some v := fun q v hv => ((below_then B9 B9.size B'').cell (World.block_lt_of_cell? _ _ hv)).trans hv)
            | (go_at_call 53; refine (NX2 _).mono ?_; rintro e W3 ⟨rfl, B'⟩; have K9 : ∀ q v, W2.cell? q = some v → W3.cell? q = some v := fun q v hv => (B'.cell (World.block_lt_of_cell? _ _ hv)).trans hv))
        have BB := below_then (below_then BD BD.size B') (below_then BD BD.size B').size B''
        have F := fin.out v' zs W' BB z1 z2 (fun z => by rw [z3]; simp only [List.mem_singleton]; constructor <;> rintro (h | ⟨h, rfl⟩) <;> first | exact .inl h | exact .inr ⟨h, rfl⟩) (by omega)
        clear z1 z2 z3 z4
        replace F := Aside0.mk F
        go_wp2
        refine ⟨F.out, ?_⟩
        simp [intOf]
        omega
      | false =>
        rw [k1] at r1
        by_cases hv : a.v = a.t
        · have ha : actD h a = [] := by unfold actD; rw [if_neg (by rw [k1]; decide), if_pos hv]
          have F := fin u3 ys W2 (Below.refl _ _) hys2 hst (fun z => by rw [ha]; simp) (by omega)
          have hv' : (a.v == a.t) = true := by simpa using hv
          replace F := Aside0.mk F
          replace ha := Aside0.mk ha
          replace k1 := Aside0.mk k1
          replace hv := Aside0.mk hv
          clear hys2 hst NX PU fin
          go_wp2
          refine ⟨F.out, ?_⟩
          simp [intOf]
          omega
        · have ha : actD h a = [⟨a.v, a.t, 1⟩, ⟨a.t, nxt h a.item a.v, 3⟩] := by unfold actD; rw [if_neg (by rw [k1]; decide), if_neg hv]
          rw [ha] at fin
          have hv' : (a.v == a.t) = false := by simpa using hv
          have NX2 := fun W (B' : Below W2.heap.size W2 W) n => NX (W.drewN n) (below_then BW BW.size (below_then B' B'.size (drewB W n))) a.item a.v
          generalize nxt h a.item a.v = nx at NX2 fin
          have PU1 := PU W2 (Below.refl _ _) ⟨a.v, a.t, 1⟩
          replace fin := Aside0.mk fin
          replace ha := Aside0.mk ha
          replace k1 := Aside0.mk k1
          replace hv := Aside0.mk hv
          clear hys2 hst NX PU
          go_wp2_with fail
          refine PU1.mono ?_
          rintro e W3 ⟨v3, zs, rfl, z1, z2, z3, z4, B3⟩
          have f0 := up_below B3 e0
          have f1 := up_below B3 e1
          obtain ⟨s0, s1, s2, s3⟩ := ac_cells (blk_below ob B3)
          have NX3 := NX2 W3 B3
          have hsz3 : w.heap.size ≤ W3.heap.size := Nat.le_trans hsz2 B3.size
          have PU2 := fun W (BW' : Below W3.heap.size W3 W) d => put_calls w.heap.size v3 zs d W (z1.below BW') (by omega) (Nat.le_trans hsz3 BW'.size) z2
          have BD3 := drewB W3 1
          clear PU1 NX2 z1 z2 e0 e1 r0 r1 r2 r3
          replace z3 := Aside0.mk z3
          go_wp2_with fail
          go_region_held3 (fun V => V.cell? ⟨bx, 0, none⟩ = some (.slice A1 h.C.length c1) ∧ V.cell? ⟨bx, 1, none⟩ = some (.slice (some ad) h.A.length c2) ∧ V.cell? ⟨bn, 0, none⟩ = some (.int .i64 a.t) ∧ V.cell? ⟨bn, 2, none⟩ = some (.string a.item) ∧ V.cell? ⟨bn, 3, none⟩ = some (.int .i64 a.v))
            (first | exact ⟨f0, f1, s0, s2, s3⟩ | exact ⟨K9 _ _ f0, K9 _ _ f1, K9 _ _ s0, K9 _ _ s2, K9 _ _ s3⟩ | exact ⟨K8 _ _ f0, K8 _ _ f1, K8 _ _ s0, K8 _ _ s2, K8 _ _ s3⟩)
            (first
              | (go_at_call 52; have B9 := below_then (drewB W3 _) (drewB W3 _).size B'; refine (PU2 _ B9 ⟨a.t, nx, 3⟩).mono ?_; rintro e W' ⟨v', zs', rfl, y1, y2, y3, y4, B''⟩; have K8 : ∀ q v, W3.cell? q = some v → W'.cell? q = some v := fun q v hv => ((below_then B9 B9.size B'').cell (World.block_lt_of_cell? _ _ hv)).trans hv)
              | (go_at_call 53; refine (NX3 _).mono ?_; rintro e W4 ⟨rfl, B'⟩; have K9 : ∀ q v, W3.cell? q = some v → W4.cell? q = some v := fun q v hv => (B'.cell (World.block_lt_of_cell? _ _ hv)).trans hv))
          have BB := below_then B3 B3.size (below_then (below_then BD3 BD3.size B') (below_then BD3 BD3.size B').size B'')
          have F := fin.out v' zs' W' BB y1 y2 (fun z => by
            rw [y3, z3.out]
            simp only [List.mem_cons, List.not_mem_nil, or_false]
            constructor
            · rintro ((h | ⟨h, rfl⟩) | ⟨h, rfl⟩)
              · exact .inl h
              · exact .inr ⟨h, .inl rfl⟩
              · exact .inr ⟨h, .inr rfl⟩
            · rintro (h | ⟨h, rfl | rfl⟩)
              · exact .inl (.inl h)
              · exact .inl (.inr ⟨h, rfl⟩)
              · exact .inr ⟨h, rfl⟩) (by omega)
          clear y1 y2 y3 y4
          replace F := Aside0.mk F
          go_wp2
          refine ⟨F.out, ?_⟩
          simp [intOf]
          omega
    · have hje : j = h.A.length := by omega
      have hge : ¬ (j : Int) < (h.A.length : Int) := by omega
      have e : graphP h = ys := (riseD_eq hst (fun z => by rw [hme, hje]; unfold depsT depsL; rw [List.take_length])).symm
      replace hje := Aside0.mk hje
      replace e := Aside0.mk e
      replace hme := Aside0.mk hme
      obtain ⟨Ay, cy, rfl, _, _⟩ := hys.slice
      replace hys := Aside0.mk hys
      clear za NX
      go_wp2
      go_ret
      exact ⟨_, rfl, by rw [e.out]; exact hys.out, below_then B1 B1.size B⟩
end Go.Proofs.Ytedcnpaomphffaa
namespace Go.Proofs.Ytedcnpaomphffaa
open Go.RowKit Go.Maps Go.Sort Go.Lib Go.Proofs.YtedcnpaomphffaaW.PrintWords Go.Proofs.YtedcnpaomphffaaW.PrintLast Go.Proofs.YtedcnpaomphffaaW.PrintMore
set_option linter.unusedVariables false
set_option linter.unusedSimpArgs false
set_option linter.unusedSectionVars false
/-! ### free, leads -/
def FrJ (w : World) (g : List Dp) (done : List Int) (n : Int) (v : Value) (wr : World) : Prop := ∃ j : Nat, v = .int .i64 (j : Int) ∧ j ≤ g.length ∧ freeB (g.take j) done n = true ∧ wr = w
theorem freeB_snoc (g : List Dp) (d : Dp) (done : List Int) (n : Int) : freeB (g ++ [d]) done n = (freeB g done n && (!(d.t == n) || decide (d.f ∈ done))) := by unfold freeB; simp [List.all_append]
theorem freeB_bad {g : List Dp} {done : List Int} {n : Int} {j : Nat} (hj : j < g.length) (h : (!(g[j].t == n) || decide (g[j].f ∈ done)) = false) : freeB g done n = false := by
  unfold freeB
  rw [List.all_eq_false]
  exact ⟨g[j], List.getElem_mem hj, by rw [h]; decide⟩
def LeJ (w : World) (g : List Dp) (a b : Int) (v : Value) (wr : World) : Prop := ∃ j : Nat, v = .int .i64 (j : Int) ∧ j ≤ g.length ∧ leadsB (g.take j) a b = false ∧ wr = w
theorem leadsB_snoc (g : List Dp) (d : Dp) (a b : Int) : leadsB (g ++ [d]) a b = (leadsB g a b || (d.f == a && d.t == b)) := by unfold leadsB; simp [List.any_append]
theorem leadsB_hit {g : List Dp} {a b : Int} {j : Nat} (hj : j < g.length) (h : (g[j].f == a && g[j].t == b) = true) : leadsB g a b = true := by
  unfold leadsB
  rw [List.any_eq_true]
  exact ⟨g[j], List.getElem_mem hj, h⟩
end Go.Proofs.Ytedcnpaomphffaa
namespace Go.Proofs.Ytedcnpaomphffaa
open Go.RowKit Go.Maps Go.Sort Go.Lib Go.Proofs.YtedcnpaomphffaaW.PrintWords Go.Proofs.YtedcnpaomphffaaW.PrintLast Go.Proofs.YtedcnpaomphffaaW.PrintMore
set_option linter.unusedVariables false
set_option linter.unusedSimpArgs false
set_option linter.unusedSectionVars false
/-! ### Sorted -/
theorem appsI {W : World} {base : Nat} {v : Value} {xs ys : List Int} (h : RowI W base v xs) (A : Option Addr) (c : Nat) (hs : Src encI 1 W A ys) (hl : xs.length + ys.length ≤ 1000000) (hb : base ≤ W.heap.size) :
    ∃ v' w', (Builtin.append_ #[22, 22] 22 #[v, .slice A ys.length c]).run Try.prog W = .ok v' w' ∧ RowI w' base v' (xs ++ ys) ∧ W.grownBy w' v.ownBlock :=
  Lo.appS h (fun _ => rfl) encI_one 22 22 _ 8 Try.underlying22 info3 rfl (by decide) (by decide) A c hs (by omega) hb
theorem appI1 {W : World} {base : Nat} {v : Value} {xs : List Int} (h : RowI W base v xs) (x : Int) (hl : xs.length ≤ 1000000) (hb : base ≤ W.heap.size) :
    ∃ v' w', (Builtin.append_ #[22, 22] 22 #[v, .slice (some ⟨W.heap.size, 0, none⟩) 1 1]).run Try.prog (W.alloc (.cells #[.int .i64 x] 3)) = .ok v' w' ∧ RowI w' base v' (xs ++ [x]) ∧ W.grownBy w' v.ownBlock :=
  Lo.append h (fun _ => rfl) encI_one 22 22 _ 8 Try.underlying22 info3 rfl (by decide) (by decide) x (by omega) hb
def SoJ (w : World) (xs : List Int) (v3 v4 : Value) (wr : World) : Prop := ∃ (j : Nat) (ys : List Int), v4 = .int .i64 (j : Int) ∧ j ≤ xs.length ∧ RowI wr w.heap.size v3 ys ∧ ys.Pairwise (· < ·) ∧ (∀ z, z ∈ ys ↔ z ∈ xs.take j) ∧ ys.length ≤ j ∧ Below w.heap.size w wr
def SoK (w : World) (ys : List Int) (x : Int) (v5 : Value) (wr : World) : Prop := ∃ k : Nat, v5 = .int .i64 (k : Int) ∧ k ≤ ys.length ∧ (∀ j (hj : j < ys.length), j < k → ys[j] < x) ∧ Below w.heap.size w wr
end Go.Proofs.Ytedcnpaomphffaa
namespace Go.Proofs.Ytedcnpaomphffaa
open Go.RowKit Go.Maps Go.Sort Go.Lib Go.Proofs.YtedcnpaomphffaaW.PrintWords Go.Proofs.YtedcnpaomphffaaW.PrintLast Go.Proofs.YtedcnpaomphffaaW.PrintMore
set_option linter.unusedVariables false
set_option linter.unusedSimpArgs false
set_option linter.unusedSectionVars false
/-! ### Pivots -/
def inB (g : List Dp) (n : Int) : Bool := g.any (fun d => d.k == 3 && d.t == n)
def outB (g : List Dp) (n : Int) : Bool := g.any (fun d => d.k == 3 && d.f == n)
def pivP (g : List Dp) (names : List Int) : List Int := names.filter (fun n => inB g n && outB g n)
theorem inB_snoc (g : List Dp) (d : Dp) (n : Int) : inB (g ++ [d]) n = (inB g n || (d.k == 3 && d.t == n)) := by unfold inB; simp [List.any_append]
theorem outB_snoc (g : List Dp) (d : Dp) (n : Int) : outB (g ++ [d]) n = (outB g n || (d.k == 3 && d.f == n)) := by unfold outB; simp [List.any_append]
def PvJ (w : World) (base : Nat) (g : List Dp) (names : List Int) (v5 v6 : Value) (wr : World) : Prop := ∃ i : Nat, v6 = .int .i64 (i : Int) ∧ i ≤ names.length ∧ RowI wr base v5 (pivP g (names.take i)) ∧ Below w.heap.size w wr
def PvK (w : World) (g : List Dp) (n : Int) (v7 v8 v9 : Value) (wr : World) : Prop := ∃ k : Nat, v9 = .int .i64 (k : Int) ∧ k ≤ g.length ∧ v7 = .bool (inB (g.take k) n) ∧ v8 = .bool (outB (g.take k) n) ∧ Below w.heap.size w wr
end Go.Proofs.Ytedcnpaomphffaa
