import Derived.Test.YtedcnpaomphffaaGreatMQ
namespace Go.Proofs.YtedcnpaomphffaaGreat
open Go.RowKit Go.Maps Go.Sort Go.Lib Go.Shelf Go.Proofs.YtedcnpaomphffaaGreatW.PrintWords Go.Proofs.YtedcnpaomphffaaGreatW.PrintLast Go.Proofs.YtedcnpaomphffaaGreatW.PrintMore
set_option linter.unusedVariables false
set_option linter.unusedSimpArgs false
set_option linter.unusedSectionVars false
/-! ### SerialOrders -/
theorem FoundR_at {w : World} {base : Nat} {v : Value} {L : List (List Int)} (h : FoundR w base v L) {i : Nat} {xs : List Int} (hi : L[i]? = some xs) :
    ∃ g c, v = .slice (some ⟨g, 0, none⟩) L.length c ∧ ∃ A d, w.cell? ⟨g, i, none⟩ = some (.slice A xs.length d) ∧ dI.C w A xs.length xs := by
  obtain ⟨sv, h1, h2, h3⟩ := h
  obtain ⟨hi1, rfl⟩ := List.getElem?_eq_some_iff.1 hi
  have hi2 : i < sv.length := by omega
  obtain ⟨A, c, rfl, _, hA⟩ := h1.slice
  obtain ⟨g, rfl, _⟩ := hA (by omega)
  refine ⟨g, c, by rw [h2], ?_⟩
  have hr := h3 i hi2 hi1
  have hl := RowI_len hr
  have hc := h1.cell (fun _ => rfl) rfl i sv[i] (List.getElem?_eq_getElem hi2) 0 _ rfl
  rw [Nat.mul_one, Nat.add_zero] at hc
  obtain ⟨A, d, e, hC⟩ := RowI_AC hr hl
  rw [e] at hc
  exact ⟨A, d, hc, hC⟩
theorem OrdPost.get {w : World} {o : Option (List Int)} {e : Ending} {w' : World} (h : OrdPost w o e w') : ∃ v, e = .returned (.tuple #[v, .bool o.isSome]) ∧ RowI w' w.heap.size v (o.getD []) ∧ Below w.heap.size w w' := by
  rcases h with ⟨v, L, rfl, h1, h2, h3⟩ | ⟨rfl, h1, h2⟩
  · exact ⟨v, h1, h2, h3⟩
  · exact ⟨_, h1, Lo.nil _ _, h2⟩
/-- the first orders -/
noncomputable def wantL (h : Hs) (m : Nat) : List (List Int) := (allH h).take m
theorem wantL_of {h : Hs} (ok : OkH h) (m : Nat) : ordsP (graphP h) (rise h.C) h.C.length m = wantL h m := by
  unfold ordsP wantL allH allO
  rw [if_pos ok, rise_nodup_len ok.nd]
  split
  · rfl
  · simp
theorem ordO_of {h : Hs} (ok : OkH h) : greedy (graphP h) (rise h.C) h.C.length [] = ordO h := by
  unfold ordO
  rw [if_pos ok, rise_nodup_len ok.nd]
theorem wantL_at {h : Hs} {m k : Nat} {L : List Int} (hL : (allH h)[k]? = some L) (hk : k < m) : (wantL h m)[k]? = some L := by
  unfold wantL
  rw [List.getElem?_take, if_pos hk, hL]
theorem wantL_len {h : Hs} {m : Nat} : (wantL h m).length = min m (allH h).length := by
  unfold wantL
  rw [List.length_take]
/-- between two rounds: how many; n lies in q -/
def SoI (q m : Nat) (w11 : World) (k : Nat) (W : World) : Prop := (W.cell? ⟨q, 0, none⟩ = some (.int .i64 (k : Int)) ∧ W.frozen? ⟨q, 0, none⟩ = false) ∧ k < m ∧ Below w11.heap.size w11 W
theorem SoI.step {q m b : Nat} {w11 : World} {k : Nat} {A B : World} (hb : w11.heap.size ≤ b) (h : SoI q m w11 k A) (t : Turns b A B ∨ Below b A B) (hq : q < b) : SoI q m w11 k B := by
  obtain ⟨⟨h1, h2⟩, h3, h4⟩ := h
  rcases t with t | t
  · exact ⟨⟨cells_turns t h1, frozen_turns t h1 h2⟩, h3, h4.trans (below_turns hb t)⟩
  · exact ⟨⟨(t.cell hq).trans h1, (t.frozen hq).trans h2⟩, h3, h4.trans (t.mono hb)⟩
theorem Keeps3.set {n0 : Nat} {v : Value} (W : World) {q : Nat} (u : Value) (hq : q < n0) : Keeps3 n0 v W (W.setCell ⟨q, 0, none⟩ u) :=
  ⟨by simp, fun b hb _ c e s hc => (Below.heap_setCell _ _ _ b (fun e2 => by simp only at e2; omega)).trans hc⟩
/-- a range over a function that a break may leave: one way on behind it -/
theorem range_brk3 {P : Program} {n : Nat} {g : Operand} {ps : Array Tmp} {assign body : Code} {Q : Exit → Act → World → Prop} {a : Act} {w : World} {gf : Nat} {lb : Array Value}
    {R : Nat → Nat → Value → World → Prop} {S : Nat → Prop} {Good : World → Prop} (hg : a.eval g = .func (.func gf) #[] lb) (eg : ∀ args w, (callFunc gf args).run P w = .ok (.enter gf args) w) (hps : ps.size = 1)
    (hit : Iter3 (n - 1) P gf lb R S Good) (hR : ∀ n0 k x A B, R n0 k x A → Turns w.heap.size A B → R n0 k x B) (h1 : 1 ≤ n)
    (I : Nat → World → Prop) (id : Nat) (J : World → Prop) (hI : ∀ k A B, I k A → (Turns w.heap.size A B ∨ Below w.heap.size A B) → I k B) (hJ : ∀ A B, J A → Turns w.heap.size A B → J B) (hSJ : ∀ k A, S k → I k A → J A) (hgood : ∀ k A, I k A → Good A) (h0 : I 0 w) (a₁ : Value → Act)
    (hassign : ∀ (l : Nat) (x : Value) (W : World) (K : Act → World → Prop), K (a₁ x) W →
      assign.wpIn (Wd.inRound l) (n - 1 - 1) P (Exit.then K (fun _ _ _ => False)) { tmps := (ps.zip (#[x])).foldl (fun t (p, v) => t.setIfInBounds p v) a.tmps, defers := [] } W)
    (hbody : ∀ (l : Nat) (k n0 : Nat) (x : Value) (W : World), w.heap.size ≤ n0 → I k W → R n0 k x W → body.wpIn (Wd.inRound l) (n - 1 - 1) P (LeftAt3 n0 x (I (k + 1)) (fun c A => c = .exit id ∧ J A) W) (a₁ x) W)
    (hx : ∀ a' W, Q .normal a' W → (Code.exit id).wpIn Wd n P Q a' W)
    (hend : ∀ (D : Nat) (W : World), w.heap.size ≤ D → J W → W.heap[D]? = some (.deferred (some [])) → Q .normal { a with defers := { target := .collected D, args := #[] } :: a.defers } W) :
    (Code.rangeFunc g ps assign body).wpIn Wd n P Q a w := by
  refine range_law3 hg eg hps hit hR h1 I (fun c A => c = .exit id ∧ J A) hI (fun c A B h t => ⟨h.1, hJ _ _ h.2 t⟩) hgood h0 a₁ hassign hbody (fun D k W hD hS hi hd => hend D W hD (hSJ k W hS hi) hd) ?_
  rintro D c W hD ⟨rfl, hj⟩ hK
  exact hx _ _ (hend D W hD hj hK)
attribute [local go_sem] Oper.semAt_some
theorem so_end (D4 D5 b : Nat) (tmps : Array Value) (w W : World) (hB : Below w.heap.size w W) (c : W.cell? ⟨b, 0, none⟩ = some (.bool false)) (k4 : W.heap[D4]? = some (.deferred (some []))) (k5 : W.heap[D5]? = some (.deferred (some []))) (hne : D4 ≠ D5) (h4 : w.heap.size ≤ D4) (h5 : w.heap.size ≤ D5) (hb : w.heap.size ≤ b) (ht : tmps[4]? = some (.pointer (some ⟨b, 0, none⟩))) :
    bodyPostM Fence.wide 9 Tryz.prog Tryz.f4 (TruePost w) Exit.ret { tmps := tmps, defers := [{ target := .collected D5, args := #[] }, { target := .collected D4, args := #[] }] } (W.setCell ⟨b, 0, none⟩ (.bool true)) := by
  have c1 : (W.setCell ⟨b, 0, none⟩ (.bool true)).cell? ⟨b, 0, none⟩ = some (.bool true) := World.cell?_setCell_same' _ _ _ (by rw [c]; rfl)
  have q4 := (KeepsOthers.setCell W ⟨b, 0, none⟩ (.bool true)).same _ _ k4 rfl
  have q5 := (KeepsOthers.setCell W ⟨b, 0, none⟩ (.bool true)).same _ _ k5 rfl
  replace hB := hB.setCell (p := ⟨b, 0, none⟩) hb (.bool true)
  generalize W.setCell ⟨b, 0, none⟩ (.bool true) = V at *
  have t5 : Turns w.heap.size V (V.putObj D5 (.deferred none)) := ⟨_, _, _, h5, q5, rfl, rfl⟩
  have r4 : (V.putObj D5 (.deferred none)).heap[D4]? = some (.deferred (some [])) := (World.putObj_heap_other (by omega)).trans q4
  have t4 : Turns w.heap.size (V.putObj D5 (.deferred none)) ((V.putObj D5 (.deferred none)).putObj D4 (.deferred none)) := ⟨_, _, _, h4, r4, rfl, rfl⟩
  have c2 := cells_turns t4 (cells_turns t5 c1)
  refine ⟨by simp, .inl ⟨_, _, rfl, run_takeDeferred q5, ?_⟩⟩
  refine ⟨by simp, .inl ⟨_, _, rfl, run_takeDeferred r4, ?_⟩⟩
  refine ⟨.bool true, ?_, rfl, (hB.trans (below_turns (Nat.le_refl _) t5)).trans (below_turns (Nat.le_refl _) t4)⟩
  simp [results, Tryz.f4, go_sem, c2, ht]
theorem one_end {b : Nat} {tmps : Array Value} {w W : World} (hB : Below w.heap.size w W) (c : W.cell? ⟨b, 0, none⟩ = some (.bool false)) (hb : w.heap.size ≤ b) (ht : tmps[4]? = some (.pointer (some ⟨b, 0, none⟩))) :
    bodyPostM Fence.wide 9 Tryz.prog Tryz.f4 (TruePost w) Exit.ret { tmps := tmps, defers := [] } (W.setCell ⟨b, 0, none⟩ (.bool true)) := by
  have c1 : (W.setCell ⟨b, 0, none⟩ (.bool true)).cell? ⟨b, 0, none⟩ = some (.bool true) := World.cell?_setCell_same' _ _ _ (by rw [c]; rfl)
  refine ⟨.bool true, ?_, rfl, hB.setCell (p := ⟨b, 0, none⟩) hb (.bool true)⟩
  simp [results, Tryz.f4, go_sem, c1, ht]
set_option maxHeartbeats 8000000 in
set_option maxRecDepth 100000 in
theorem Orders4_calls (z : HV) (most : Int) (w : World) (hz : z.OK w) (hm0 : 0 ≤ most) (hm1 : most < 256) : Calls Tryz.prog 4 #[mkH z, .int .u8 most] w (TruePost w) := by
  obtain ⟨w1, hw1, B1, hz1, b0, b1⟩ := hv_box z w hz
  obtain ⟨bx, hbx⟩ : ∃ bx, bx = w.heap.size := ⟨_, rfl⟩
  obtain ⟨w4, hw4⟩ : ∃ w4, w4 = (w1.alloc (.cells #[.int .u8 most] 5)).alloc (.cells #[.bool false] 4) := ⟨_, rfl⟩
  have B4 : Below w1.heap.size w1 w4 := by rw [hw4]; exact ((Below.refl _ w1).alloc (Nat.le_refl _) _).alloc (by simp) _
  have hz4 := hz1.below B4
  have RG := right_calls z w4 hz4
  have LV := fun W (B : Below w4.heap.size w4 W) => live_calls W
  have OR := fun W (B : Below w4.heap.size w4 W) => Order_calls z W (hz4.below B)
  have RO := fun W (B : Below w4.heap.size w4 W) (ok : OkH z.h) => ROrder_calls z W (hz4.below B) ok.la ok.nd ok.lc ok.pos
  have RS := fun W (B : Below w4.heap.size w4 W) (ok : OkH z.h) => ROrders_calls z (most.toNat + 1) (by omega) W (hz4.below B) ok
  have OS := fun W (B : Below w4.heap.size w4 W) => Orders_calls z W (hz4.below B)
  have b04 := (B4.cell (World.block_lt_of_cell? _ _ b0)).trans b0
  have b14 := (B4.cell (World.block_lt_of_cell? _ _ b1)).trans b1
  have s1 : w1.heap.size = bx + 1 := by rw [hw1, hbx]; simp
  have r2 : w4.cell? ⟨bx + 1, 0, none⟩ = some (.int .u8 most) := by rw [hw4, ← s1]; simp [go_sem]
  have r3 : w4.cell? ⟨bx + 2, 0, none⟩ = some (.bool false) := by rw [hw4, show bx + 2 = w1.heap.size + 1 by omega]; simp [go_sem]
  have u3 : w4.frozen? ⟨bx + 2, 0, none⟩ = false := by rw [hw4, show bx + 2 = w1.heap.size + 1 by omega]; simp [go_sem]
  have q1 : w1.heap.size ≤ w4.heap.size := B4.size
  have BW : ∀ W, Below w1.heap.size w4 W → Below w.heap.size w W := fun W B => B1.trans ((B4.trans B).mono B1.size)
  have r4l := World.block_lt_of_cell? _ _ r3
  simp only at r4l
  obtain ⟨A1, c1, A2, c2, h⟩ := z
  dsimp only [mkH] at *
  have HELD : ∀ W, Below w4.heap.size w4 W → (W.cell? ⟨bx, 0, none⟩ = some (.slice A1 h.C.length c1) ∧ W.cell? ⟨bx, 1, none⟩ = some (.slice A2 h.A.length c2)) ∧ W.cell? ⟨bx + 1, 0, none⟩ = some (.int .u8 most) ∧ W.cell? ⟨bx + 2, 0, none⟩ = some (.bool false) ∧ W.frozen? ⟨bx + 2, 0, none⟩ = false := fun W B => by
    rw [hbx] at *
    exact ⟨⟨(B.cell (World.block_lt_of_cell? _ _ b04)).trans b04, (B.cell (World.block_lt_of_cell? _ _ b14)).trans b14⟩, (B.cell (World.block_lt_of_cell? _ _ r2)).trans r2, (B.cell (World.block_lt_of_cell? _ _ r3)).trans r3, (B.frozen (World.block_lt_of_cell? _ _ r3)).trans u3⟩
  clear hz hz1 hz4 b0 b1 B4 B1 r2 r3 u3 b04 b14
  replace LV := Aside0.mk LV
  replace OR := Aside0.mk OR
  replace RO := Aside0.mk RO
  replace RS := Aside0.mk RS
  replace OS := Aside0.mk OS
  replace BW := Aside0.mk BW
  replace HELD := Aside0.mk HELD
  refine (callsIn_wide (n := 9)).1 ?_
  refine callsIn_of_wp_marks Tryz.func4 rfl trivial ?_ rfl
  refine wpIn_wide.2 ?_
  simp only [Tryz.ntmps4, List.size_toArray, List.length_cons, List.length_nil, Nat.reduceAdd, Nat.reduceSub, Array.replicate_succ, Array.replicate_zero, List.push_toArray, List.append_toArray, List.nil_append, List.cons_append]
  go_upto_region 1 with (fail)
  rw [← hw1, ← hw4, ← hbx]
  clear hw1 hw4
  replace hbx := Aside0.mk hbx
  obtain ⟨⟨b04, b14⟩, _⟩ := HELD.out w4 (Below.refl _ _)
  unfold RgPost at RG
  go_wp2_with fail
  refine RG.mono ?_
  rintro e w5 ⟨rfl, B5⟩
  clear RG b04 b14
  have L5 := LV.out w5 B5
  clear LV
  obtain ⟨⟨b05, b15⟩, _⟩ := HELD.out w5 B5
  by_cases hok : OkH h
  · rw [okB_yes hok]
    have e0 := chk_ok hok
    go_wp2_with fail
    refine L5.mono ?_
    rintro e w6 ⟨rfl, B6⟩
    have C6 := below_then B5 B5.size B6
    obtain ⟨⟨b06, b16⟩, _⟩ := HELD.out w6 C6
    have O6 := OR.out w6 C6
    unfold OPost at O6
    rw [e0] at O6
    clear L5 B5 B6 b05 b15 OR
    go_wp2_with fail
    refine O6.mono ?_
    rintro e w7 ⟨v7, rfl, hR7, B7⟩
    have C7 := below_then C6 C6.size B7
    obtain ⟨⟨b07, b17⟩, _⟩ := HELD.out w7 C7
    have hl7 := RowI_len hR7
    obtain ⟨A7, c7, rfl, hI7⟩ := RowI_AC hR7 hl7
    have R7 := (RO.out w7 C7 hok).mono (fun e w' h => h.get)
    rw [ordO_of hok] at R7
    clear O6 b06 b16 RO hR7 B7
    generalize ordO h = o at *
    replace hok := Aside0.mk hok
    go_wp2_with fail
    refine R7.mono ?_
    rintro e w8 ⟨v8, rfl, hR8, B8⟩
    have C8 := below_then C7 C7.size B8
    obtain ⟨⟨b08, b18⟩, _⟩ := HELD.out w8 C8
    obtain ⟨A8, c8, rfl, hI8⟩ := RowI_AC hR8 hl7
    have E8 := EqI_calls A7 A8 c7 c8 (o.getD []) w8 (Kd.C_below hI7 B8) hI8 hl7
    clear R7 b07 b17 hR8 hI7 hI8 B8
    generalize o.getD [] = lo at *
    generalize o.isSome = bo at *
    have nbo : (bo != bo) = false := by simp
    go_wp2_with fail
    refine E8.mono ?_
    rintro e w9 ⟨rfl, B9⟩
    have C9 := below_then C8 C8.size B9
    obtain ⟨⟨b09, b19⟩, b29, b39, b49⟩ := HELD.out w9 C9
    have S9 := RS.out w9 C9 hok.out
    unfold OrdsPost at S9
    rw [wantL_of hok.out] at S9
    have em : ((most.toNat + 1 : Nat) : Int) = most + 1 := by omega
    rw [em] at S9
    clear E8 b08 b18 B9 RS nbo
    have wm : IntKind.i64.wrap most = most := IntWalk.i64_in _ (by omega)
    have wm1 : IntKind.i64.wrap (most + 1) = most + 1 := IntWalk.i64_in _ (by omega)
    go_wp2_with fail
    refine S9.mono ?_
    rintro e w10 ⟨v10, rfl, hF10, B10⟩
    have C10 := below_then C9 C9.size B10
    obtain ⟨Aw, cw, rfl⟩ := hF10.slice
    obtain ⟨v10, hv10⟩ : ∃ v, v = Value.slice Aw (wantL h (most.toNat + 1)).length cw := ⟨_, rfl⟩
    obtain ⟨w10', hw10⟩ : ∃ w10', w10' = w10.alloc (.cells #[.slice Aw (wantL h (most.toNat + 1)).length cw] 46) := ⟨_, rfl⟩
    have B10' : Below w10.heap.size w10 w10' := by rw [hw10]; exact (Below.refl _ w10).alloc (Nat.le_refl _) _
    obtain ⟨qa, hqa⟩ : ∃ qa, qa = w10.heap.size := ⟨_, rfl⟩
    have cqa : w10'.cell? ⟨qa, 0, none⟩ = some (.slice Aw (wantL h (most.toNat + 1)).length cw) := by rw [hw10, hqa]; exact cell_of_row _ _ 0 _ 46 (0, 0) (heap_alloc_new w10 _)
    have C10' := below_then C10 C10.size B10'
    have hF := hF10.below B10'
    obtain ⟨⟨b0a, b1a⟩, _⟩ := HELD.out w10' C10'
    have S10 := OS.out w10' C10'
    unfold OsPost at S10
    clear S9 B10 B10' C9 C8 C7 C6 C10 b09 b19 b29 b39 b49 OS hF10
    clear hv10 v10
    go_upto_region 9 with (fail)
    rw [← hw10, ← hqa]
    clear hw10
    go_wp2_with fail
    refine S10.mono ?_
    rintro e w11 ⟨vo, rfl, OA, B11⟩
    have C11 := below_then C10' C10'.size B11
    have hF11 := hF.below B11
    have cq11 := (B11.cell (World.block_lt_of_cell? _ _ cqa)).trans cqa
    obtain ⟨gf, lb, Good, rfl, eg, IT, HG⟩ := Os_iter OA 8
    clear S10 b0a b1a hF cqa OA
    have lqa := World.block_lt_of_cell? _ _ cq11
    simp only at lqa
    have q11 := C11.size
    clear B11 C10'
    replace hqa := Aside0.mk hqa
    go_wp2
    refine wp_loop_rounds 3 ?_
    rw [rounds_succ]
    go_wp2_with fail
    obtain ⟨qA, hqA⟩ : ∃ q, q = w11.heap.size := ⟨_, rfl⟩
    obtain ⟨vA, hvA⟩ : ∃ v, v = w11.alloc (.cells #[.int .i64 0] 3) := ⟨_, rfl⟩
    have cnA : vA.cell? ⟨qA, 0, none⟩ = some (.int .i64 0) := by rw [hvA, hqA]; exact cell_of_row _ _ 0 _ 3 (0, 0) (heap_alloc_new w11 _)
    have fnA : vA.frozen? ⟨qA, 0, none⟩ = false := by rw [hvA, hqA]; simp [go_sem]
    have BvA : Below w11.heap.size w11 vA := by rw [hvA]; exact (Below.refl _ w11).alloc (Nat.le_refl _) _
    have svA : vA.heap.size = w11.heap.size + 1 := by rw [hvA]; simp
    rw [← hvA, ← hqA]
    clear hvA
    have loA : w11.heap.size ≤ qA := by omega
    have ltA : qA < vA.heap.size := by omega
    have leA : w11.heap.size ≤ vA.heap.size := by omega
    replace hqA := Aside0.mk hqA
    clear svA
    refine (wpIn_wide (n := 9)).1 ?_
    refine range_brk3 (n := 9) rfl eg rfl IT (fun n0 k x A B h t => h.turns t) (by omega) (SoI qA (most.toNat + 1) w11) 2
      (fun A => A.cell? ⟨qA, 0, none⟩ = some (.int .i64 ((wantL h (most.toNat + 1)).length : Int)) ∧ Below w11.heap.size w11 A)
      ?hIA ?hJA ?hSJA (fun k A h => HG A h.2.2) ⟨⟨cnA, fnA⟩, by omega, BvA⟩ ?aA ?assignA ?bodyA ?brkA ?doneA
    case hIA =>
      intro k A B h t
      exact h.step (by omega) t (by omega)
    case hJA =>
      rintro A B ⟨h1, h4⟩ t
      exact ⟨cells_turns t h1, h4.trans (below_turns (by omega) t)⟩
    case hSJA =>
      rintro k A hk ⟨⟨h1, h2⟩, h3, h4⟩
      rw [wantL_len, ← hk, show min (most.toNat + 1) k = k by omega]
      exact ⟨h1, h4⟩
    case brkA =>
      intro a' W h
      refine wpIn_exit ?_
      rw [Exit.inBlock, if_pos rfl]
      exact h
    case assignA =>
      intro lp x W K hK
      gi_wp2
      exact hK
    case bodyA =>
      rintro lp k n0 x W hn0 ⟨⟨p1, p2⟩, hk, BW'⟩ ⟨L, hL, hR⟩
      have hl := RowI_len hR
      obtain ⟨Ax, cx, rfl, hX⟩ := RowI_AC hR hl
      have hwk := wantL_at hL hk
      obtain ⟨g, cg, eg2, Ay, cy, hcy, hY⟩ := FoundR_at (hF11.below BW') hwk
      injection eg2 with eAw _ ecw
      subst eAw ecw
      have EQ := EqI_calls Ax Ay cx cy L W hX hY hl
      have hkl : k < (wantL h (most.toNat + 1)).length := (List.getElem?_eq_some_iff.1 hwk).1
      have hal : k < (allH h).length := (List.getElem?_eq_some_iff.1 hL).1
      have hwl : (k : Int) + 1 = most + 1 → most + 1 = ((wantL h (most.toNat + 1)).length : Int) := fun e => by
        rw [wantL_len, show min (most.toNat + 1) (allH h).length = most.toNat + 1 by omega]
        omega
      have cqW := (BW'.cell (World.block_lt_of_cell? _ _ cq11)).trans cq11
      obtain ⟨_, b2W, _⟩ := HELD.out W (below_then C11 C11.size BW')
      have ige : decide (((wantL h (most.toNat + 1)).length : Int) ≤ (k : Int)) = false := by simp; omega
      have ige2 : ¬ (((wantL h (most.toNat + 1)).length : Int) ≤ (k : Int)) := by omega
      have i0 : (0 : Int) ≤ (k : Int) := by omega
      have i1 : (k : Int) < ((wantL h (most.toNat + 1)).length : Int) := by omega
      have wk1 : IntKind.i64.wrap ((k : Int) + 1) = (k : Int) + 1 := IntWalk.i64_in _ (by omega)
      have N : ∀ W5, Below W.heap.size W W5 → KeepsOthers W (W5.setCell ⟨qA, 0, none⟩ (.int .i64 ((k : Int) + 1))) ∧ ((W5.setCell ⟨qA, 0, none⟩ (.int .i64 ((k : Int) + 1))).cell? ⟨qA, 0, none⟩ = some (.int .i64 ((k : Int) + 1)) ∧ (W5.setCell ⟨qA, 0, none⟩ (.int .i64 ((k : Int) + 1))).frozen? ⟨qA, 0, none⟩ = false) ∧ Below w11.heap.size w11 (W5.setCell ⟨qA, 0, none⟩ (.int .i64 ((k : Int) + 1))) ∧ Keeps3 n0 (.slice Ax L.length cx) W (W5.setCell ⟨qA, 0, none⟩ (.int .i64 ((k : Int) + 1))) := fun W5 B5 => by
        have lq := World.block_lt_of_cell? _ _ p1
        have p15 := (B5.cell lq).trans p1
        have p25 := (B5.frozen lq).trans p2
        refine ⟨(keeps_below B5).trans (.setCell _ _ _), ⟨World.cell?_setCell_same' _ _ _ (by rw [p15]; rfl), by rw [World.frozen?_setCell]; exact p25⟩, (below_then BW' BW'.size B5).setCell (p := ⟨qA, 0, none⟩) (by simp only; omega) _, (Keeps3.below B5).trans (Keeps3.set _ _ (by omega))⟩
      have HW := fun W5 (B5 : Below W.heap.size W W5) => And.intro ((B5.cell (World.block_lt_of_cell? _ _ p1)).trans p1) (And.intro ((B5.frozen (World.block_lt_of_cell? _ _ p1)).trans p2) ((B5.cell (World.block_lt_of_cell? _ _ b2W)).trans b2W))
      clear hX hY hR hL hwk BW'
      generalize wantL h (most.toNat + 1) = wl at *
      generalize allH h = al at *
      replace N := Aside0.mk N
      replace HW := Aside0.mk HW
      gi_wp2_with fail
      refine ⟨trivial, (CallsIn.inRound lp (callsIn_wide.2 EQ)).mono ?_⟩
      rintro e W5 ⟨rfl, B5⟩
      obtain ⟨p15, p25, b25⟩ := HW.out W5 B5
      have N5 := N.out W5 B5
      clear EQ HW N p1 p2 cqW b2W hcy B5
      by_cases hst : (k : Int) + 1 = most + 1
      · rw [hst, hwl hst] at N5
        have hst3 := hwl hst
        rw [hst] at wk1
        replace N5 := Aside0.mk N5
        replace hwl := Aside0.mk hwl
        gi_wp2
        obtain ⟨n1, n2, n3, n4⟩ := N5.out
        exact ⟨n1, rfl, n2.1, n3⟩
      · have hst' : ((k : Int) + 1 == most + 1) = false := by simpa using hst
        replace N5 := Aside0.mk N5
        replace hwl := Aside0.mk hwl
        gi_wp2
        obtain ⟨n1, n2, n3, n4⟩ := N5.out
        exact ⟨n1, ⟨n2, by omega, n3⟩, n4⟩
    case doneA =>
      rintro DA WA hDA ⟨n1A, BWA⟩ hKA
      have cqA := (BWA.cell (World.block_lt_of_cell? _ _ cq11)).trans cq11
      have hFA := hF11.below BWA
      have CA := below_then C11 C11.size BWA
      have HGA : ∀ A, Below WA.heap.size WA A → Good A := fun A B => HG A (below_then BWA BWA.size B)
      have neA : (((wantL h (most.toNat + 1)).length : Int) != ((wantL h (most.toNat + 1)).length : Int)) = false := by simp
      have geA := BWA.size
      have hKAA := Aside0.mk hKA
      clear hKA
      go_wp2
      rw [rounds_succ]
      go_wp2_with fail
      obtain ⟨qB, hqB⟩ : ∃ q, q = WA.heap.size := ⟨_, rfl⟩
      obtain ⟨vB, hvB⟩ : ∃ v, v = WA.alloc (.cells #[.int .i64 0] 3) := ⟨_, rfl⟩
      have cnB : vB.cell? ⟨qB, 0, none⟩ = some (.int .i64 0) := by rw [hvB, hqB]; exact cell_of_row _ _ 0 _ 3 (0, 0) (heap_alloc_new WA _)
      have fnB : vB.frozen? ⟨qB, 0, none⟩ = false := by rw [hvB, hqB]; simp [go_sem]
      have BvB : Below WA.heap.size WA vB := by rw [hvB]; exact (Below.refl _ WA).alloc (Nat.le_refl _) _
      have svB : vB.heap.size = WA.heap.size + 1 := by rw [hvB]; simp
      rw [← hvB, ← hqB]
      clear hvB
      have loB : WA.heap.size ≤ qB := by omega
      have ltB : qB < vB.heap.size := by omega
      have leB : WA.heap.size ≤ vB.heap.size := by omega
      replace hqB := Aside0.mk hqB
      clear svB
      refine (wpIn_wide (n := 9)).1 ?_
      refine range_brk3 (n := 9) rfl eg rfl IT (fun n0 k x A B h t => h.turns t) (by omega) (SoI qB (most.toNat + 1) WA) 2
        (fun A => A.cell? ⟨qB, 0, none⟩ = some (.int .i64 ((wantL h (most.toNat + 1)).length : Int)) ∧ Below WA.heap.size WA A)
        ?hIB ?hJB ?hSJB (fun k A h => HGA A h.2.2) ⟨⟨cnB, fnB⟩, by omega, BvB⟩ ?aB ?assignB ?bodyB ?brkB ?doneB
      case hIB =>
        intro k A B h t
        exact h.step (by omega) t (by omega)
      case hJB =>
        rintro A B ⟨h1, h4⟩ t
        exact ⟨cells_turns t h1, h4.trans (below_turns (by omega) t)⟩
      case hSJB =>
        rintro k A hk ⟨⟨h1, h2⟩, h3, h4⟩
        rw [wantL_len, ← hk, show min (most.toNat + 1) k = k by omega]
        exact ⟨h1, h4⟩
      case brkB =>
        intro a' W h
        refine wpIn_exit ?_
        rw [Exit.inBlock, if_pos rfl]
        exact h
      case assignB =>
        intro lp x W K hK
        gi_wp2
        exact hK
      case bodyB =>
        rintro lp k n0 x W hn0 ⟨⟨p1, p2⟩, hk, BW'⟩ ⟨L, hL, hR⟩
        have hl := RowI_len hR
        obtain ⟨Ax, cx, rfl, hX⟩ := RowI_AC hR hl
        have hwk := wantL_at hL hk
        obtain ⟨g, cg, eg2, Ay, cy, hcy, hY⟩ := FoundR_at (hFA.below BW') hwk
        injection eg2 with eAw _ ecw
        subst eAw ecw
        have EQ := EqI_calls Ax Ay cx cy L W hX hY hl
        have hkl : k < (wantL h (most.toNat + 1)).length := (List.getElem?_eq_some_iff.1 hwk).1
        have hal : k < (allH h).length := (List.getElem?_eq_some_iff.1 hL).1
        have hwl : (k : Int) + 1 = most + 1 → most + 1 = ((wantL h (most.toNat + 1)).length : Int) := fun e => by
          rw [wantL_len, show min (most.toNat + 1) (allH h).length = most.toNat + 1 by omega]
          omega
        have cqW := (BW'.cell (World.block_lt_of_cell? _ _ cqA)).trans cqA
        obtain ⟨_, b2W, _⟩ := HELD.out W (below_then CA CA.size BW')
        have ige : decide (((wantL h (most.toNat + 1)).length : Int) ≤ (k : Int)) = false := by simp; omega
        have ige2 : ¬ (((wantL h (most.toNat + 1)).length : Int) ≤ (k : Int)) := by omega
        have i0 : (0 : Int) ≤ (k : Int) := by omega
        have i1 : (k : Int) < ((wantL h (most.toNat + 1)).length : Int) := by omega
        have wk1 : IntKind.i64.wrap ((k : Int) + 1) = (k : Int) + 1 := IntWalk.i64_in _ (by omega)
        have N : ∀ W5, Below W.heap.size W W5 → KeepsOthers W (W5.setCell ⟨qB, 0, none⟩ (.int .i64 ((k : Int) + 1))) ∧ ((W5.setCell ⟨qB, 0, none⟩ (.int .i64 ((k : Int) + 1))).cell? ⟨qB, 0, none⟩ = some (.int .i64 ((k : Int) + 1)) ∧ (W5.setCell ⟨qB, 0, none⟩ (.int .i64 ((k : Int) + 1))).frozen? ⟨qB, 0, none⟩ = false) ∧ Below WA.heap.size WA (W5.setCell ⟨qB, 0, none⟩ (.int .i64 ((k : Int) + 1))) ∧ Keeps3 n0 (.slice Ax L.length cx) W (W5.setCell ⟨qB, 0, none⟩ (.int .i64 ((k : Int) + 1))) := fun W5 B5 => by
          have lq := World.block_lt_of_cell? _ _ p1
          have p15 := (B5.cell lq).trans p1
          have p25 := (B5.frozen lq).trans p2
          refine ⟨(keeps_below B5).trans (.setCell _ _ _), ⟨World.cell?_setCell_same' _ _ _ (by rw [p15]; rfl), by rw [World.frozen?_setCell]; exact p25⟩, (below_then BW' BW'.size B5).setCell (p := ⟨qB, 0, none⟩) (by simp only; omega) _, (Keeps3.below B5).trans (Keeps3.set _ _ (by omega))⟩
        have HW := fun W5 (B5 : Below W.heap.size W W5) => And.intro ((B5.cell (World.block_lt_of_cell? _ _ p1)).trans p1) (And.intro ((B5.frozen (World.block_lt_of_cell? _ _ p1)).trans p2) ((B5.cell (World.block_lt_of_cell? _ _ b2W)).trans b2W))
        clear hX hY hR hL hwk BW'
        generalize wantL h (most.toNat + 1) = wl at *
        generalize allH h = al at *
        replace N := Aside0.mk N
        replace HW := Aside0.mk HW
        gi_wp2_with fail
        refine ⟨trivial, (CallsIn.inRound lp (callsIn_wide.2 EQ)).mono ?_⟩
        rintro e W5 ⟨rfl, B5⟩
        obtain ⟨p15, p25, b25⟩ := HW.out W5 B5
        have N5 := N.out W5 B5
        clear EQ HW N p1 p2 cqW b2W hcy B5
        by_cases hst : (k : Int) + 1 = most + 1
        · rw [hst, hwl hst] at N5
          have hst3 := hwl hst
          rw [hst] at wk1
          replace N5 := Aside0.mk N5
          replace hwl := Aside0.mk hwl
          gi_wp2
          obtain ⟨n1, n2, n3, n4⟩ := N5.out
          exact ⟨n1, rfl, n2.1, n3⟩
        · have hst' : ((k : Int) + 1 == most + 1) = false := by simpa using hst
          replace N5 := Aside0.mk N5
          replace hwl := Aside0.mk hwl
          gi_wp2
          obtain ⟨n1, n2, n3, n4⟩ := N5.out
          exact ⟨n1, ⟨n2, by omega, n3⟩, n4⟩
      case doneB =>
        rintro DB WB hDB ⟨n1B, BWB⟩ hKB
        have cqB := (BWB.cell (World.block_lt_of_cell? _ _ cqA)).trans cqA
        have hFB := hFA.below BWB
        have CB := below_then CA CA.size BWB
        have HGB : ∀ A, Below WB.heap.size WB A → Good A := fun A B => HGA A (below_then BWB BWB.size B)
        have neB : (((wantL h (most.toNat + 1)).length : Int) != ((wantL h (most.toNat + 1)).length : Int)) = false := by simp
        have geB := BWB.size
        have hKAB := Aside0.mk hKB
        clear hKB
        go_wp2
        rw [rounds_succ]
        obtain ⟨_, _, t3, f3⟩ := HELD.out WB CB
        have dA := (BWB.block DA (Array.getElem?_eq_some_iff.1 hKAA.out).1).trans hKAA.out
        have dB := hKAB.out
        have dne : DA ≠ DB := by
          have := (Array.getElem?_eq_some_iff.1 hKAA.out).1
          omega
        have KE := fun tmps ht => so_end DA DB (bx + 2) tmps w WB (BW.out _ (CB.mono q1)) t3 dA dB dne (by have := hbx.out; omega) (by have := hbx.out; omega) (by have := hbx.out; omega) ht
        clear dA dB
        replace KE := Aside0.mk KE
        go_wp2
        exact KE.out _ rfl
  · rw [okB_no hok]
    replace hok := Aside0.mk hok
    clear OR RO RS OS
    go_wp2_with fail
    refine L5.mono ?_
    rintro e w6 ⟨rfl, B6⟩
    have C6 := below_then B5 B5.size B6
    obtain ⟨_, _, t3, f3⟩ := HELD.out w6 C6
    have KE := fun tmps ht => one_end (b := bx + 2) (tmps := tmps) (BW.out _ (C6.mono q1)) t3 (by have := hbx.out; omega) ht
    clear L5 B5 B6 b05 b15 BW HELD C6
    replace KE := Aside0.mk KE
    go_wp2
    exact KE.out _ rfl
theorem SerialOrders_calls (z : HV) (most : Int) (w : World) (hz : z.OK w) (hm : (Lit.int .u8 most).wf = true) : Calls Tryz.prog 4 #[mkH z, .int .u8 most] w fun e w' => e = .returned (.bool true) ∧ Below w.heap.size w w' := by
  have := bounds_u8 hm
  exact Orders4_calls z most w hz (by omega) (by omega)
end Go.Proofs.YtedcnpaomphffaaGreat
