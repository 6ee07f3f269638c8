import Derived.Test.YtedcnpaomphffaaGreatMP
namespace Go.Proofs.YtedcnpaomphffaaGreat
open Go.RowKit Go.Maps Go.Sort Go.Lib Go.Shelf Go.Proofs.YtedcnpaomphffaaGreatW.PrintWords Go.Proofs.YtedcnpaomphffaaGreatW.PrintLast Go.Proofs.YtedcnpaomphffaaGreatW.PrintMore
set_option linter.unusedVariables false
set_option linter.unusedSimpArgs false
set_option linter.unusedSectionVars false
/-! ### write skew -/
def sx : ByteArray := ⟨#[120]⟩
def sy : ByteArray := ⟨#[121]⟩
def skewA : List Ac := [⟨1, false, sx, 0⟩, ⟨1, false, sy, 0⟩, ⟨2, false, sx, 0⟩, ⟨2, false, sy, 0⟩, ⟨1, true, sx, 0⟩, ⟨2, true, sy, 0⟩]
def skewH : Hs := ⟨[1, 2], skewA⟩
theorem sx_list : sx.toList = [120] := by
  simp [sx, ByteArray.toList, ByteArray.toList.loop, ByteArray.size, ByteArray.get!]
theorem sy_list : sy.toList = [121] := by
  simp [sy, ByteArray.toList, ByteArray.toList.loop, ByteArray.size, ByteArray.get!]
theorem isW_skew (t : Int) (i : ByteArray) : wrs skewA t i = (((1 == t) && ([120] == i.toList)) || ((2 == t) && ([121] == i.toList))) := by
  unfold wrs isW skewA
  simp [sx_list, sy_list]
theorem skew_ok : OkH skewH where
  la := by decide
  lc := by decide
  pos := by decide
  nd := by decide
  inC := by
    intro a ha
    simp only [skewH, skewA, List.mem_cons, List.not_mem_nil, or_false] at ha
    rcases ha with rfl | rfl | rfl | rfl | rfl | rfl <;> decide
  wv := by
    intro a ha hw
    simp only [skewH, skewA, List.mem_cons, List.not_mem_nil, or_false] at ha
    rcases ha with rfl | rfl | rfl | rfl | rfl | rfl <;> rfl
  once := by
    simp [skewH, skewA]
  rd := by
    intro a ha hw
    simp only [skewH, skewA, List.mem_cons, List.not_mem_nil, or_false] at ha
    rcases ha with rfl | rfl | rfl | rfl | rfl | rfl <;> exact .inl rfl
theorem nx1 : nxt skewH sx 0 = 1 := by
  show (([1, 2] : List Int).find? (fun c => wrs skewA c sx)).getD 0 = 1
  simp [isW_skew, sx_list]
theorem nx2 : nxt skewH sy 0 = 2 := by
  show (([1, 2] : List Int).find? (fun c => wrs skewA c sy)).getD 0 = 2
  simp [isW_skew, sy_list]
theorem nx3 : nxt skewH sx 1 = 0 := by
  show (([2] : List Int).find? (fun c => wrs skewA c sx)).getD 0 = 0
  simp [isW_skew, sx_list]
theorem nx4 : nxt skewH sy 2 = 0 := rfl
theorem skew_deps (d : Dp) : d ∈ depsL skewH ↔ d = ⟨1, 2, 3⟩ ∨ d = ⟨2, 1, 3⟩ := by
  have e : depsL skewH = [⟨1, 2, 3⟩, ⟨2, 1, 3⟩] := by
    show (List.flatMap (actD skewH) skewA).filter okD = _
    simp [skewA, actD, nx1, nx2, nx3, nx4, okD]
  rw [e]
  simp
theorem skew_leads (a b : Int) : leadsB (graphP skewH) a b = true ↔ (a = 1 ∧ b = 2) ∨ (a = 2 ∧ b = 1) := by
  rw [leadsB_iff]
  constructor
  · rintro ⟨d, hd, rfl, rfl⟩
    rcases (skew_deps d).1 (mem_graph.1 hd) with rfl | rfl
    · exact .inl ⟨rfl, rfl⟩
    · exact .inr ⟨rfl, rfl⟩
  · rintro (⟨rfl, rfl⟩ | ⟨rfl, rfl⟩)
    · exact ⟨_, mem_graph.2 ((skew_deps ⟨1, 2, 3⟩).2 (.inl rfl)), rfl, rfl⟩
    · exact ⟨_, mem_graph.2 ((skew_deps ⟨2, 1, 3⟩).2 (.inr rfl)), rfl, rfl⟩
theorem skew_no1 (a : Int) (ha : a = 1 ∨ a = 2) : ¬ Walk (graphP skewH) 1 a a := by
  rintro ⟨c, h1, h2⟩
  have h2 : c = a := h2
  subst h2
  rcases (skew_leads c c).1 h1 with ⟨h, h'⟩ | ⟨h, h'⟩ <;> omega
theorem skew_thr1 : IsThr (graphP skewH) 1 2 := by
  refine .inr ⟨1, rfl, ⟨2, (skew_leads 1 2).2 (.inl ⟨rfl, rfl⟩), 1, (skew_leads 2 1).2 (.inr ⟨rfl, rfl⟩), rfl⟩, fun j hj => ?_⟩
  obtain rfl : j = 0 := by omega
  exact skew_no1 1 (.inl rfl)
theorem skew_thr2 : IsThr (graphP skewH) 2 2 := by
  refine .inr ⟨1, rfl, ⟨1, (skew_leads 2 1).2 (.inr ⟨rfl, rfl⟩), 2, (skew_leads 1 2).2 (.inl ⟨rfl, rfl⟩), rfl⟩, fun j hj => ?_⟩
  obtain rfl : j = 0 := by omega
  exact skew_no1 2 (.inr rfl)
theorem skew_round : RoundOf (graphP skewH) [1, 2] [1, 2] := by
  refine ⟨2, 1, .inr ⟨0, by decide, by decide, rfl, by decide, skew_thr1, fun j hj _ b' hb' hp => ?_⟩, .inr ⟨by decide, rfl, by decide, by decide, rfl, fun j a x h1 h2 => ?_⟩⟩
  · match j, hj with
    | 0, _ => exact ⟨by rw [hb'.unique skew_thr1]; exact Int.le_refl _, fun h => absurd h (by omega)⟩
    | 1, _ => exact ⟨by rw [hb'.unique skew_thr2]; exact Int.le_refl _, fun h => absurd h (by omega)⟩
  · match j with
    | 0 =>
      obtain rfl : 1 = a := by simpa using h1
      obtain rfl : 2 = x := by simpa using h2
      refine ⟨1, by decide, rfl, (skew_leads 1 2).2 (.inl ⟨rfl, rfl⟩), ⟨⟨1, (skew_leads 2 1).2 (.inr ⟨rfl, rfl⟩), rfl⟩, fun j hj hw => ?_⟩, fun q hq hq1 => ?_⟩
      · obtain rfl : j = 0 := by omega
        have hw : (2 : Int) = 1 := hw
        omega
      · obtain rfl : q = 0 := by omega
        rintro ⟨h, _⟩
        rcases (skew_leads 1 1).1 h with ⟨h, h'⟩ | ⟨h, h'⟩ <;> omega
    | 1 => simp at h2
    | j + 2 => simp at h2
theorem skew_rise : rise skewH.C = [1, 2] := (rise_eq (by decide) (fun t => Iff.rfl)).symm
theorem three_alloc {w V : World} {o1 o2 o3 : Obj} (h : ((w.alloc o1).alloc o2).alloc o3 = V) : V.heap[w.heap.size]? = some o1 ∧ V.heap[w.heap.size + 1]? = some o2 ∧ V.heap[w.heap.size + 1 + 1]? = some o3 ∧ Below w.heap.size w V := by
  subst h
  have s1 : (w.alloc o1).heap.size = w.heap.size + 1 := by simp
  have s2 : ((w.alloc o1).alloc o2).heap.size = w.heap.size + 1 + 1 := by simp
  have B2 : Below (w.heap.size + 1) (w.alloc o1) ((w.alloc o1).alloc o2) := (Below.refl _ _).alloc (by rw [s1]; exact Nat.le_refl _) _
  have B3 : Below (w.heap.size + 1 + 1) ((w.alloc o1).alloc o2) (((w.alloc o1).alloc o2).alloc o3) := (Below.refl _ _).alloc (by rw [s2]; exact Nat.le_refl _) _
  refine ⟨?_, ?_, ?_, ?_⟩
  · rw [B3.block _ (by omega), B2.block _ (by omega)]
    exact heap_alloc_new w o1
  · rw [B3.block _ (by omega), ← s1]
    exact heap_alloc_new _ o2
  · rw [← s2]
    exact heap_alloc_new _ o3
  · exact (((Below.refl _ w).alloc (Nat.le_refl _) _).alloc (by rw [s1]; omega) _).alloc (by rw [s2]; omega) _
theorem C_lit {α : Type} {enc : α → List Value} {k : Nat} {hn : ∀ x, (enc x).length = k} {h1 : ∀ x, ∀ u ∈ enc x, u.oneCell' = true} {W : World} {g e : Nat} {cs : Array Value} {fr : Nat × Nat} {xs : List α} (h : W.heap[g]? = some (.cells cs e fr)) (hl : xs.length ≤ 9223372036854775807) (hc : cs.toList.length = xs.length * k) (hr : Reps (fun x cs => cs = enc x) k xs cs.toList) : (Kd.flat enc k hn h1).C W (some ⟨g, 0, none⟩) xs.length xs := by
  refine C_of_src ⟨cs.toList, hc, hr, fun _ => ⟨_, rfl, fun j u hu => ?_⟩⟩ hl
  rw [Array.getElem?_toList] at hu
  have := cell_of_row W g j cs e fr h
  have e2 : (⟨g, 0, none⟩ : Addr).add j = ⟨g, j, none⟩ := by
    unfold Addr.add
    split
    · rename_i h0; rw [h0]
    · simp
  rw [e2, this, hu]
def SkPost (w : World) (e : Ending) (w' : World) : Prop := ∃ z : HV, z.h = skewH ∧ e = .returned (mkH z) ∧ z.OK w' ∧ Below w.heap.size w w'
set_option maxHeartbeats 4000000 in
set_option maxRecDepth 100000 in
theorem skew_calls (w : World) : Calls Tryz.prog 31 #[] w (SkPost w) := by
  go_enter Tryz.func31, Tryz.ntmps31
  go_wp2
  generalize hV : (((w.alloc _).alloc _).alloc _ : World) = V
  obtain ⟨h0, h1, h2, B⟩ := three_alloc hV
  have cC : dI.C V (some ⟨w.heap.size + 1, 0, none⟩) 2 [1, 2] := C_lit h1 (by decide) rfl ⟨rfl, fun j p hp => by
    rcases j with _ | _ | j <;> simp at hp <;> subst hp <;> rfl⟩
  have cA : dA.C V (some ⟨w.heap.size + 1 + 1, 0, none⟩) 6 skewA := C_lit h2 (by decide) rfl ⟨rfl, fun j p hp => by
    rcases j with _ | _ | _ | _ | _ | _ | j <;> simp [skewA] at hp <;> subst hp <;> rfl⟩
  refine bodyPost_ret (results_cell_row rfl _ _ w.heap.size 25 _ (0, 0) _ rfl h0 Tryz.underlying25 rfl (by kernel_rfl)) rfl ?_
  refine ⟨⟨some ⟨w.heap.size + 1, 0, none⟩, 2, some ⟨w.heap.size + 1 + 1, 0, none⟩, 6, skewH⟩, rfl, rfl, ⟨cC, cA, by show 2 ≤ 17592186044416; decide, by show 6 ≤ 17592186044416; decide, Nat.le_refl _, Nat.le_refl _, ?_, ?_⟩, B⟩
  · intro x hx
    have hx : x ∈ ([1, 2] : List Int) := hx
    simp only [List.mem_cons, List.not_mem_nil, or_false] at hx
    rcases hx with rfl | rfl <;> rfl
  · intro x hx
    have hx : x ∈ skewA := hx
    simp only [skewA, List.mem_cons, List.not_mem_nil, or_false] at hx
    rcases hx with rfl | rfl | rfl | rfl | rfl | rfl <;> exact ⟨rfl, rfl, by decide⟩
theorem RowI_C {W : World} {b : Nat} {A : Option Addr} {c : Nat} {xs : List Int} (h : RowI W b (.slice A xs.length c) xs) (hl : xs.length ≤ 9223372036854775807) : dI.C W A xs.length xs := C_of_lo (enc := encI) (k := 1) (hn := fun _ => rfl) (h1 := encI_one) h hl
set_option maxHeartbeats 4000000 in
set_option maxRecDepth 100000 in
theorem live_calls (w : World) : Calls Tryz.prog 9 #[] w fun e w' => e = .returned (.bool true) ∧ Below w.heap.size w w' := by
  have SK := skew_calls w
  unfold SkPost at SK
  go_enter Tryz.func9, Tryz.ntmps9
  go_wp2_with fail
  refine SK.mono ?_
  rintro e w1 ⟨z, hz, rfl, zok, B1⟩
  have RO := Round_calls z w1 zok
  clear SK
  unfold RoPost at RO
  go_wp2_with fail
  refine RO.mono ?_
  rintro e w2 ⟨v, L, rfl, hR, B2, _, hround⟩
  rw [hz] at hround ⊢
  have e0 := chk_ok skew_ok
  have hL := hround skew_ok
  rw [skew_rise] at hL
  obtain rfl := hL.unique skew_round
  rw [e0]
  obtain ⟨A, c, rfl, _⟩ := hR.slice
  have hC := RowI_C hR (by decide)
  have B := below_then B1 B1.size B2
  obtain ⟨w3, hw3⟩ : ∃ w3, w3 = w2.alloc (.cells #[.int .i64 1, .int .i64 2] 3) := ⟨_, rfl⟩
  have h3 : w3.heap[w2.heap.size]? = some (.cells #[.int .i64 1, .int .i64 2] 3 (0, 0)) := by rw [hw3]; exact heap_alloc_new _ _
  have B3 : Below w2.heap.size w2 w3 := by rw [hw3]; exact (Below.refl _ w2).alloc (Nat.le_refl _) _
  have cC : dI.C w3 (some ⟨w2.heap.size, 0, none⟩) 2 [1, 2] := C_lit h3 (by decide) rfl ⟨rfl, fun j p hp => by
    rcases j with _ | _ | j <;> simp at hp <;> subst hp <;> rfl⟩
  have EQ := EqI_calls A (some ⟨w2.heap.size, 0, none⟩) c 2 [1, 2] w3 (Kd.C_below hC B3) cC (by decide)
  have BB := fun W (B4 : Below w3.heap.size w3 W) => below_then B B.size (below_then B3 B3.size B4)
  clear RO hround hL hR hC cC B B1 B2 h3 B3
  replace BB := Aside0.mk BB
  go_wp2_with fail
  rw [← hw3]
  clear hw3
  simp only [List.length_cons, List.length_nil, Nat.zero_add, Nat.reduceAdd] at EQ
  refine EQ.mono ?_
  rintro e w4 ⟨rfl, B4⟩
  have K := Aside0.mk (BB.out _ B4)
  clear EQ BB B4
  go_wp2
  go_ret
  exact ⟨rfl, K.out⟩
end Go.Proofs.YtedcnpaomphffaaGreat
namespace Go.Proofs.YtedcnpaomphffaaGreat
open Go.RowKit Go.Maps Go.Sort Go.Lib Go.Shelf Go.Proofs.YtedcnpaomphffaaGreatW.PrintWords Go.Proofs.YtedcnpaomphffaaGreatW.PrintLast Go.Proofs.YtedcnpaomphffaaGreatW.PrintMore
set_option linter.unusedVariables false
set_option linter.unusedSimpArgs false
set_option linter.unusedSectionVars false
/-! ### right -/
open Classical in
noncomputable def okB (h : Hs) : Bool := decide (OkH h)
open Classical in
theorem okB_yes {h : Hs} (k : OkH h) : okB h = true := decide_eq_true k
open Classical in
theorem okB_no {h : Hs} (k : ¬ OkH h) : okB h = false := decide_eq_false k
def RgPost (w : World) (h : Hs) (e : Ending) (w' : World) : Prop := e = .returned (.tuple #[.bool (okB h), .bool true]) ∧ Below w.heap.size w w'
theorem two_set {W : World} {b : Nat} {v1 v2 : Value} (x1 x2 : Value) (h1 : W.cell? ⟨b + 1, 0, none⟩ = some v1) (h2 : W.cell? ⟨b + 2, 0, none⟩ = some v2) :
    ((W.setCell ⟨b + 1, 0, none⟩ x1).setCell ⟨b + 2, 0, none⟩ x2).cell? ⟨b + 1, 0, none⟩ = some x1 ∧ ((W.setCell ⟨b + 1, 0, none⟩ x1).setCell ⟨b + 2, 0, none⟩ x2).cell? ⟨b + 2, 0, none⟩ = some x2 := by
  refine ⟨?_, ?_⟩ <;> simp [go_sem, h1, h2]
theorem two_below {W : World} {b n0 : Nat} (x1 x2 : Value) (hb : n0 ≤ b + 1) : Below n0 W ((W.setCell ⟨b + 1, 0, none⟩ x1).setCell ⟨b + 2, 0, none⟩ x2) :=
  ((Below.refl n0 W).setCell (p := ⟨b + 1, 0, none⟩) (by simp only; omega) x1).setCell (p := ⟨b + 2, 0, none⟩) (by simp only; omega) x2
theorem res8 {V : World} {b : Nat} {x1 x2 : Value} {tmps : Array Value} (t2 : tmps[2]? = some (.pointer (some ⟨b + 1, 0, none⟩))) (t3 : tmps[3]? = some (.pointer (some ⟨b + 2, 0, none⟩)))
    (h1 : V.cell? ⟨b + 1, 0, none⟩ = some x1) (h2 : V.cell? ⟨b + 2, 0, none⟩ = some x2) : (results Tryz.f8 tmps).run Tryz.prog V = .ok (.tuple #[x1, x2]) V := by
  simp [results, Tryz.f8, go_sem, h1, h2, t2, t3]
theorem right_end {h : Hs} {w V : World} {D b : Nat} {x1 x2 : Value} {tmps : Array Value} (t2 : tmps[2]? = some (.pointer (some ⟨b + 1, 0, none⟩))) (t3 : tmps[3]? = some (.pointer (some ⟨b + 2, 0, none⟩)))
    (h1 : V.cell? ⟨b + 1, 0, none⟩ = some x1) (h2 : V.cell? ⟨b + 2, 0, none⟩ = some x2) (q : V.heap[D]? = some (.deferred (some []))) (K : ∀ B, Turns D V B → RgPost w h (.returned (.tuple #[x1, x2])) B) :
    bodyPostM Fence.wide 9 Tryz.prog Tryz.f8 (RgPost w h) Exit.ret { tmps := tmps, defers := [{ target := .collected D, args := #[] }] } V := by
  have t : Turns D V (V.putObj D (.deferred none)) := ⟨_, _, _, Nat.le_refl _, q, rfl, rfl⟩
  refine ⟨by simp, .inl ⟨_, _, rfl, run_takeDeferred q, ?_⟩⟩
  exact ⟨_, res8 t2 t3 (cells_turns t h1) (cells_turns t h2), K _ t⟩
attribute [local go_sem] Oper.semAt_some
set_option maxHeartbeats 8000000 in
set_option maxRecDepth 100000 in
theorem right_calls (z : HV) (w : World) (hz : z.OK w) : Calls Tryz.prog 8 #[mkH z] w (RgPost w z.h) := by
  obtain ⟨w1, hw1, B1, hz1, b0, b1⟩ := hv_box z w hz
  obtain ⟨bx, hbx⟩ : ∃ bx, bx = w.heap.size := ⟨_, rfl⟩
  obtain ⟨w4, hw4⟩ : ∃ w4, w4 = (w1.alloc (.cells #[.bool false] 4)).alloc (.cells #[.bool false] 4) := ⟨_, rfl⟩
  have B4 : Below w1.heap.size w1 w4 := by rw [hw4]; exact ((Below.refl _ w1).alloc (Nat.le_refl _) _).alloc (by simp) _
  have hz4 := hz1.below B4
  have RC := RCheck_calls z w4 hz4
  have CK := fun W (B : Below w4.heap.size w4 W) => Check_calls z W (hz4.below B)
  have GR := fun W (B : Below w4.heap.size w4 W) => Graph_calls z W (hz4.below B)
  have OR := fun W (B : Below w4.heap.size w4 W) => Order_calls z W (hz4.below B)
  have RO := fun W (B : Below w4.heap.size w4 W) => Round_calls z W (hz4.below B)
  have SE := fun W (B : Below w4.heap.size w4 W) => Serial_calls z z.A1 z.c1 z.h.C W (hz4.below B) (hz4.below B).c hz.lc hz.cw
  have PV := fun W (B : Below w4.heap.size w4 W) => Pivots_calls z W (hz4.below B)
  have OS := fun W (B : Below w4.heap.size w4 W) => Orders_calls z W (hz4.below B)
  have b04 := (B4.cell (World.block_lt_of_cell? _ _ b0)).trans b0
  have b14 := (B4.cell (World.block_lt_of_cell? _ _ b1)).trans b1
  have s1 : w1.heap.size = bx + 1 := by rw [hw1, hbx]; simp
  have r2 : w4.cell? ⟨bx + 1, 0, none⟩ = some (.bool false) := by rw [hw4, ← s1]; simp [go_sem]
  have r3 : w4.cell? ⟨bx + 2, 0, none⟩ = some (.bool false) := by rw [hw4, show bx + 2 = w1.heap.size + 1 by omega]; simp [go_sem]
  have u2 : w4.frozen? ⟨bx + 1, 0, none⟩ = false := by rw [hw4, ← s1]; simp [go_sem]
  have u3 : w4.frozen? ⟨bx + 2, 0, none⟩ = false := by rw [hw4, show bx + 2 = w1.heap.size + 1 by omega]; simp [go_sem]
  have q1 : w1.heap.size ≤ w4.heap.size := B4.size
  have BW : ∀ W, Below w1.heap.size w4 W → Below w.heap.size w W := fun W B => B1.trans ((B4.trans B).mono B1.size)
  have r4l := World.block_lt_of_cell? _ _ r3
  simp only at r4l
  obtain ⟨A1, c1, A2, c2, h⟩ := z
  dsimp only [mkH] at *
  clear hz hz1 hz4 b0 b1 B4 B1
  replace CK := Aside0.mk CK
  replace GR := Aside0.mk GR
  replace OR := Aside0.mk OR
  replace RO := Aside0.mk RO
  replace SE := Aside0.mk SE
  replace PV := Aside0.mk PV
  replace OS := Aside0.mk OS
  replace BW := Aside0.mk BW
  refine (callsIn_wide (n := 9)).1 ?_
  refine callsIn_of_wp_marks Tryz.func8 rfl trivial ?_ rfl
  refine wpIn_wide.2 ?_
  simp only [Tryz.ntmps8, List.size_toArray, List.length_cons, List.length_nil, Nat.reduceAdd, Nat.reduceSub, Array.replicate_succ, Array.replicate_zero, List.push_toArray, List.append_toArray, List.nil_append, List.cons_append]
  go_upto_region 1 with (fail)
  rw [← hw1, ← hw4, ← hbx]
  rw [← hbx] at b04 b14
  clear hw1 hw4
  replace hbx := Aside0.mk hbx
  -- what lies still, behind each call
  have HELD : ∀ W, Below w4.heap.size w4 W → (W.cell? ⟨bx, 0, none⟩ = some (.slice A1 h.C.length c1) ∧ W.cell? ⟨bx, 1, none⟩ = some (.slice A2 h.A.length c2)) ∧ (W.cell? ⟨bx + 1, 0, none⟩ = some (.bool false) ∧ W.cell? ⟨bx + 2, 0, none⟩ = some (.bool false)) ∧ W.frozen? ⟨bx + 1, 0, none⟩ = false ∧ W.frozen? ⟨bx + 2, 0, none⟩ = false := fun W B =>
    ⟨⟨(B.cell (World.block_lt_of_cell? _ _ b04)).trans b04, (B.cell (World.block_lt_of_cell? _ _ b14)).trans b14⟩, ⟨(B.cell (World.block_lt_of_cell? _ _ r2)).trans r2, (B.cell (World.block_lt_of_cell? _ _ r3)).trans r3⟩, (B.frozen (World.block_lt_of_cell? _ _ r2)).trans u2, (B.frozen (World.block_lt_of_cell? _ _ r3)).trans u3⟩
  clear r2 r3 u2 u3
  replace HELD := Aside0.mk HELD
  go_wp2_with fail
  refine RC.mono ?_
  rintro e w5 ⟨rfl, B5⟩
  clear RC b04 b14
  obtain ⟨⟨b05, b15⟩, ⟨r25, r35⟩, u25, u35⟩ := HELD.out w5 B5
  by_cases hok : OkH h
  · have e0 := chk_ok hok
    rw [e0]
    have C5 := CK.out w5 B5
    rw [e0] at C5
    clear CK GR OR RO SE PV OS
    replace hok := Aside0.mk hok
    go_wp2_with fail
    refine C5.mono ?_
    rintro e w6 ⟨rfl, B6⟩
    obtain ⟨⟨b06, b16⟩, ⟨r26, r36⟩, u26, u36⟩ := HELD.out w6 (below_then B5 B5.size B6)
    obtain ⟨y1, y2⟩ := two_set (.bool true) (.bool true) r26 r36
    have yb := two_below (W := w6) (b := bx) (n0 := w1.heap.size) (.bool true) (.bool true) (by omega)
    have q5 := B5.size
    have K := Aside0.mk (BW.out _ (((B5.mono q1).trans (B6.mono (by omega))).trans yb))
    have eok := okB_yes hok.out
    replace eok := Aside0.mk eok
    clear C5 B5 B6 yb BW HELD b06 b16 b05 b15 r25 r35 u25 u35
    go_wp2
    refine ⟨_, res8 rfl rfl y1 y2, ?_, K.out⟩
    rw [eok.out]
  · have e0 := chk_no hok
    rw [e0]
    have eok := okB_no hok
    have G5 := GR.out w5 B5
    unfold GrPost at G5
    rw [e0] at G5
    clear GR b05 b15 r25 r35 u25 u35
    replace e0 := Aside0.mk e0
    replace eok := Aside0.mk eok
    replace hok := Aside0.mk hok
    obtain ⟨⟨b05, b15⟩, _⟩ := HELD.out w5 B5
    go_wp2_with fail
    refine G5.mono ?_
    rintro e w6 ⟨v6, rfl, _, B6⟩
    clear G5 b05 b15
    have C6 := below_then B5 B5.size B6
    have O6 := OR.out w6 C6
    unfold OPost at O6
    rw [e0.out] at O6
    obtain ⟨⟨b06, b16⟩, _⟩ := HELD.out w6 C6
    clear OR B5 B6
    go_wp2_with fail
    refine O6.mono ?_
    rintro e w7 ⟨v7, rfl, _, B7⟩
    clear O6 b06 b16
    have C7 := below_then C6 C6.size B7
    have R7 := RO.out w7 C7
    unfold RoPost at R7
    rw [e0.out] at R7
    obtain ⟨⟨b07, b17⟩, _⟩ := HELD.out w7 C7
    clear RO B7 C6
    generalize (ordO h).isSome = bo
    go_wp2_with fail
    refine R7.mono ?_
    rintro e w8 ⟨v8, L8, rfl, _, B8, _⟩
    clear R7 b07 b17
    have C8 := below_then C7 C7.size B8
    have S8 := SE.out w8 C8
    obtain ⟨⟨b08, b18⟩, _⟩ := HELD.out w8 C8
    clear SE B8 C7
    go_wp2_with fail
    refine S8.mono ?_
    rintro e w9 ⟨s9, k9, rfl, B9, H9⟩
    obtain rfl : k9 = 110 := by
      rcases H9 with H9 | H9 | H9
      · exact H9.2.2
      · exact absurd H9.1 hok.out
      · exact absurd H9.1 hok.out
    clear S8 b08 b18 H9
    have C9 := below_then C8 C8.size B9
    have P9 := PV.out w9 C9
    unfold PvPost at P9
    rw [e0.out] at P9
    obtain ⟨⟨b09, b19⟩, _⟩ := HELD.out w9 C9
    clear PV B9 C8
    go_wp2_with fail
    refine P9.mono ?_
    rintro e w10 ⟨v10, L10, rfl, _, B10, _⟩
    clear P9 b09 b19
    have C10 := below_then C9 C9.size B10
    have Q10 := OS.out w10 C10
    unfold OsPost at Q10
    obtain ⟨⟨b0a, b1a⟩, _⟩ := HELD.out w10 C10
    clear OS B10 C9
    go_wp2_with fail
    refine Q10.mono ?_
    rintro e w11 ⟨v11, rfl, OA, B11⟩
    obtain rfl : v11 = .func (.func 46) #[] #[] := by
      rcases OA with h1 | h1
      · exact h1.2
      · exact absurd h1.1 hok.out
    clear Q10 b0a b1a OA
    have C11 := below_then C10 C10.size B11
    have q11 := C11.size
    obtain ⟨⟨b0b, b1b⟩, ⟨r2b, r3b⟩, u2b, u3b⟩ := HELD.out w11 C11
    clear B11 C10
    go_wp2_with fail
    refine (wpIn_wide (n := 9)).1 ?_
    refine range_law3 (n := 9) rfl (enters_of Tryz.func46 (by kernel_rfl) rfl) rfl (none46 8 (fun _ => True)) (fun n0 k x A B h t => h.turns t) (by omega) (fun k A => k = 0 ∧ Below w11.heap.size w11 A)
      (fun c A => False)
      ?hI ?hIx (fun k A h => trivial) ⟨rfl, Below.refl _ _⟩ ?a1 ?assign ?body ?done ?stop
    case hI =>
      rintro k A B ⟨rfl, hA⟩ (t | t)
      · exact ⟨rfl, hA.trans (below_turns (Nat.le_refl _) t)⟩
      · exact ⟨rfl, hA.trans t⟩
    case hIx =>
      rintro c A B h t
      exact h
    case assign =>
      intro lp x W K hK
      gi_wp2
      exact hK
    case body =>
      rintro lp k n0 x W hn0 ⟨rfl, hA⟩ ⟨L, hL, hR⟩
      cases hL
    case stop =>
      intro D c W _ h
      exact h.elim
    case done =>
      rintro D k W hD rfl ⟨_, hA⟩ hD4
      have CW := below_then C11 C11.size hA
      obtain ⟨⟨b0c, b1c⟩, ⟨r2c, r3c⟩, u2c, u3c⟩ := HELD.out W CW
      have C12 := CK.out W CW
      rw [e0.out] at C12
      clear CK hA
      go_wp2_with fail
      refine C12.mono ?_
      rintro e W13 ⟨rfl, B13⟩
      have C13 := below_then CW CW.size B13
      obtain ⟨_, ⟨r2d, r3d⟩, u2d, u3d⟩ := HELD.out W13 C13
      have hD5 : W13.heap[D]? = some (.deferred (some [])) := (B13.block D (Array.getElem?_eq_some_iff.1 hD4).1).trans hD4
      obtain ⟨y1, y2⟩ := two_set (.bool false) (.bool true) r2d r3d
      have yb := two_below (W := W13) (b := bx) (n0 := w1.heap.size) (.bool false) (.bool true) (by omega)
      have q : ∀ V, V = ((W13.setCell ⟨bx + 1, 0, none⟩ (.bool false)).setCell ⟨bx + 2, 0, none⟩ (.bool true)) → V.heap[D]? = some (.deferred (some [])) := by
        rintro V rfl
        rw [Below.heap_setCell _ _ _ D (by simp only; omega), Below.heap_setCell _ _ _ D (by simp only; omega), hD5]
      have K : ∀ V, V = ((W13.setCell ⟨bx + 1, 0, none⟩ (.bool false)).setCell ⟨bx + 2, 0, none⟩ (.bool true)) → ∀ B, Turns D V B → RgPost w h (.returned (.tuple #[.bool false, .bool true])) B := by
        rintro V rfl B t
        exact ⟨by rw [eok.out], BW.out B (((C13.mono q1).trans yb).trans (below_turns (by omega) t))⟩
      clear C12 C13 CW B13 yb BW HELD b0c b1c r2c r3c u2c u3c hD4 hD5
      replace K := Aside0.mk K
      replace q := Aside0.mk q
      go_wp2
      exact right_end rfl rfl y1 y2 (q.out _ rfl) (K.out _ rfl)
end Go.Proofs.YtedcnpaomphffaaGreat
namespace Go.Proofs.YtedcnpaomphffaaGreat
open Go.RowKit Go.Maps Go.Sort Go.Lib Go.Shelf Go.Proofs.YtedcnpaomphffaaGreatW.PrintWords Go.Proofs.YtedcnpaomphffaaGreatW.PrintLast Go.Proofs.YtedcnpaomphffaaGreatW.PrintMore
set_option linter.unusedVariables false
set_option linter.unusedSimpArgs false
set_option linter.unusedSectionVars false
/-! ### SerialGraphs, SerialRounds, SerialTells -/
/-- a law holds -/
def TruePost (w : World) (e : Ending) (w' : World) : Prop := e = .returned (.bool true) ∧ Below w.heap.size w w'
theorem RI_C {W : World} {b : Nat} {v : Value} {xs : List Int} (h : dI.R 3 W b (fun _ => True) v xs) : ∃ A c, v = .slice A xs.length c ∧ dI.C W A xs.length xs := by
  obtain ⟨A, c, e, _, hC⟩ := Kd.R_reads h
  exact ⟨A, c, e, hC⟩
theorem RD_C {W : World} {b : Nat} {v : Value} {xs : List Dp} (h : dD.R 37 W b (fun _ => True) v xs) : ∃ A c, v = .slice A xs.length c ∧ dD.C W A xs.length xs := by
  obtain ⟨A, c, e, _, hC⟩ := Kd.R_reads h
  exact ⟨A, c, e, hC⟩
theorem RowI_AC {W : World} {b : Nat} {v : Value} {xs : List Int} (h : RowI W b v xs) (hl : xs.length ≤ 9223372036854775807) : ∃ A c, v = .slice A xs.length c ∧ dI.C W A xs.length xs := by
  obtain ⟨A, c, rfl, _⟩ := h.slice
  exact ⟨A, c, rfl, RowI_C h hl⟩
theorem RowD_AC {W : World} {b : Nat} {v : Value} {xs : List Dp} (h : RowD W b v xs) (hl : xs.length ≤ 9223372036854775807) : ∃ A c, v = .slice A xs.length c ∧ dD.C W A xs.length xs := by
  obtain ⟨A, c, rfl, _⟩ := h.slice
  exact ⟨A, c, rfl, C_of_lo (enc := encD) (k := 3) (hn := fun _ => rfl) (h1 := encD_one) h hl⟩
theorem RowI_len {W : World} {b : Nat} {v : Value} {xs : List Int} (h : RowI W b v xs) : xs.length ≤ 9223372036854775807 := by
  obtain ⟨inner, ⟨_, h | ⟨g, cap, cur, _, _, _, h1, h2, _⟩⟩, _⟩ := h
  · omega
  · simp only [maxLen] at h2
    omega
theorem pivP_len (g : List Dp) (names : List Int) : (pivP g names).length ≤ names.length := List.length_filter_le _ _
set_option maxHeartbeats 8000000 in
set_option maxRecDepth 100000 in
theorem Graphs_calls (z : HV) (w : World) (hz : z.OK w) : Calls Tryz.prog 3 #[mkH z] w (TruePost w) := by
  obtain ⟨w1, hw1, B1, hz1, b0, b1⟩ := hv_box z w hz
  obtain ⟨bx, hbx⟩ : ∃ bx, bx = w.heap.size := ⟨_, rfl⟩
  have RG := right_calls z w1 hz1
  have LV := fun W (B : Below w1.heap.size w1 W) => live_calls W
  have GR := fun W (B : Below w1.heap.size w1 W) => Graph_calls z W (hz1.below B)
  have PV := fun W (B : Below w1.heap.size w1 W) => Pivots_calls z W (hz1.below B)
  have RR := fun W (B : Below w1.heap.size w1 W) => RGraph_calls z W (hz1.below B)
  have RP := fun W (B : Below w1.heap.size w1 W) => RPivots_calls z W (hz1.below B)
  have HELD : ∀ W, Below w1.heap.size w1 W → W.cell? ⟨bx, 0, none⟩ = some (.slice z.A1 z.h.C.length z.c1) ∧ W.cell? ⟨bx, 1, none⟩ = some (.slice z.A2 z.h.A.length z.c2) := fun W B => by
    rw [hbx]
    exact ⟨(B.cell (World.block_lt_of_cell? _ _ b0)).trans b0, (B.cell (World.block_lt_of_cell? _ _ b1)).trans b1⟩
  have BW : ∀ W, Below w1.heap.size w1 W → Below w.heap.size w W := fun W B => below_then B1 B1.size B
  obtain ⟨A1, c1, A2, c2, h⟩ := z
  dsimp only [mkH] at *
  clear hz hz1
  replace BW := Aside0.mk BW
  replace LV := Aside0.mk LV
  replace HELD := Aside0.mk HELD
  replace GR := Aside0.mk GR
  replace PV := Aside0.mk PV
  replace RR := Aside0.mk RR
  replace RP := Aside0.mk RP
  go_enter Tryz.func3, Tryz.ntmps3
  go_upto_region 1 with (fail)
  rw [← hw1, ← hbx]
  rw [← hbx] at b0 b1
  clear hw1
  replace hbx := Aside0.mk hbx
  unfold RgPost at RG
  go_wp2_with fail
  refine RG.mono ?_
  rintro e w2 ⟨rfl, B2⟩
  clear RG b0 b1
  obtain ⟨b02, b12⟩ := HELD.out w2 B2
  have L2 := LV.out w2 B2
  clear LV
  by_cases hok : OkH h
  · rw [okB_yes hok]
    have e0 := chk_ok hok
    go_wp2_with fail
    refine L2.mono ?_
    rintro e w3 ⟨rfl, B3⟩
    have C3 := below_then B2 B2.size B3
    obtain ⟨b03, b13⟩ := HELD.out w3 C3
    clear L2 B2 B3 b02 b12
    have hgl := graph_len h
    have hla := hok.la
    have hrn := rise_nodup_len hok.nd
    have hlc := hok.lc
    have hpl := pivP_len (graphP h) (rise h.C)
    have eg : grL h = graphP h := if_pos hok
    have G3 := GR.out w3 C3
    unfold GrPost at G3
    rw [e0, eg] at G3
    have nd := hok.nd
    clear GR
    replace hok := Aside0.mk hok
    go_wp2_with fail
    refine G3.mono ?_
    rintro e w4 ⟨v4, rfl, hR4, B4⟩
    have C4 := below_then C3 C3.size B4
    obtain ⟨b04, b14⟩ := HELD.out w4 C4
    have P4 := PV.out w4 C4
    unfold PvPost at P4
    rw [e0] at P4
    clear G3 b03 b13 PV B4
    go_wp2_with fail
    refine P4.mono ?_
    rintro e w5 ⟨v5, L5, rfl, hR5, B5, _, hL5⟩
    obtain rfl := hL5 hok.out
    have C5 := below_then C4 C4.size B5
    obtain ⟨b05, b15⟩ := HELD.out w5 C5
    have R5 := RR.out w5 C5 hla
    have hD5 := (RD_C hR4)
    clear P4 b04 b14 RR hL5 hR4
    obtain ⟨Ag, cg, rfl, hD4⟩ := hD5
    have hD5 := Kd.C_below hD4 B5
    obtain ⟨Ap, cp, rfl, hI5⟩ := RI_C hR5
    clear hD4 hR5 B5
    go_wp2_with fail
    refine R5.mono ?_
    rintro e w6 ⟨v6, rfl, hR6, B6⟩
    have C6 := below_then C5 C5.size B6
    obtain ⟨b06, b16⟩ := HELD.out w6 C6
    obtain ⟨A6, c6, rfl, hD6⟩ := RowD_AC hR6 (by omega)
    have E6 := EqD_calls Ag A6 cg c6 _ w6 (Kd.C_below hD5 B6) hD6 (by omega)
    have hI6 := Kd.C_below hI5 B6
    clear R5 b05 b15 hR6 hD5 hI5 hD6 B6
    go_wp2_with fail
    refine E6.mono ?_
    rintro e w7 ⟨rfl, B7⟩
    have C7 := below_then C6 C6.size B7
    obtain ⟨b07, b17⟩ := HELD.out w7 C7
    have R7 := RP.out w7 C7 hla nd hlc
    have hI7 := Kd.C_below hI6 B7
    clear E6 b06 b16 RP hI6 B7
    go_wp2_with fail
    refine R7.mono ?_
    rintro e w8 ⟨v8, rfl, hR8, B8⟩
    obtain ⟨A8, c8, rfl, hI8⟩ := RowI_AC hR8 (by omega)
    have E8 := EqI_calls Ap A8 cp c8 _ w8 (Kd.C_below hI7 B8) hI8 (by omega)
    have C8 := below_then C7 C7.size B8
    clear R7 b07 b17 hR8 hI7 hI8 B8
    go_wp2_with fail
    refine E8.mono ?_
    rintro e w9 ⟨rfl, B9⟩
    have K := Aside0.mk (BW.out _ (below_then C8 C8.size B9))
    clear E8 B9 C8 C7 C6 C5 C4 C3 BW HELD
    go_wp2
    go_ret
    exact ⟨rfl, K.out⟩
  · rw [okB_no hok]
    replace hok := Aside0.mk hok
    clear GR PV RR RP
    go_wp2_with fail
    refine L2.mono ?_
    rintro e w3 ⟨rfl, B3⟩
    have K := Aside0.mk (BW.out _ (below_then B2 B2.size B3))
    clear L2 B2 B3 b02 b12 BW HELD
    go_wp2
    go_ret
    exact ⟨rfl, K.out⟩
set_option maxHeartbeats 8000000 in
set_option maxRecDepth 100000 in
theorem Rounds_calls (z : HV) (w : World) (hz : z.OK w) : Calls Tryz.prog 5 #[mkH z] w (TruePost w) := by
  obtain ⟨w1, hw1, B1, hz1, b0, b1⟩ := hv_box z w hz
  obtain ⟨bx, hbx⟩ : ∃ bx, bx = w.heap.size := ⟨_, rfl⟩
  have RG := right_calls z w1 hz1
  have LV := fun W (B : Below w1.heap.size w1 W) => live_calls W
  have RO := fun W (B : Below w1.heap.size w1 W) => Round_calls z W (hz1.below B)
  have RR := fun W (B : Below w1.heap.size w1 W) hok => RRound_calls z W (hz1.below B) hok
  have HELD : ∀ W, Below w1.heap.size w1 W → W.cell? ⟨bx, 0, none⟩ = some (.slice z.A1 z.h.C.length z.c1) ∧ W.cell? ⟨bx, 1, none⟩ = some (.slice z.A2 z.h.A.length z.c2) := fun W B => by
    rw [hbx]
    exact ⟨(B.cell (World.block_lt_of_cell? _ _ b0)).trans b0, (B.cell (World.block_lt_of_cell? _ _ b1)).trans b1⟩
  have BW : ∀ W, Below w1.heap.size w1 W → Below w.heap.size w W := fun W B => below_then B1 B1.size B
  obtain ⟨A1, c1, A2, c2, h⟩ := z
  dsimp only [mkH] at *
  clear hz hz1
  replace BW := Aside0.mk BW
  replace LV := Aside0.mk LV
  replace HELD := Aside0.mk HELD
  replace RO := Aside0.mk RO
  replace RR := Aside0.mk RR
  go_enter Tryz.func5, Tryz.ntmps5
  go_upto_region 1 with (fail)
  rw [← hw1, ← hbx]
  rw [← hbx] at b0 b1
  clear hw1
  replace hbx := Aside0.mk hbx
  unfold RgPost at RG
  go_wp2_with fail
  refine RG.mono ?_
  rintro e w2 ⟨rfl, B2⟩
  clear RG b0 b1
  obtain ⟨b02, b12⟩ := HELD.out w2 B2
  have L2 := LV.out w2 B2
  clear LV
  by_cases hok : OkH h
  · rw [okB_yes hok]
    have e0 := chk_ok hok
    go_wp2_with fail
    refine L2.mono ?_
    rintro e w3 ⟨rfl, B3⟩
    have C3 := below_then B2 B2.size B3
    obtain ⟨b03, b13⟩ := HELD.out w3 C3
    clear L2 B2 B3 b02 b12
    have G3 := RO.out w3 C3
    unfold RoPost at G3
    rw [e0] at G3
    clear RO
    replace hok := Aside0.mk hok
    go_wp2_with fail
    refine G3.mono ?_
    rintro e w4 ⟨v4, L4, rfl, hR4, B4, _, hL4⟩
    have hr4 := hL4 hok.out
    have C4 := below_then C3 C3.size B4
    obtain ⟨b04, b14⟩ := HELD.out w4 C4
    have P4 := RR.out w4 C4 hok.out
    unfold RndPost at P4
    have hl4 := RowI_len hR4
    obtain ⟨A4, c4, rfl, hI4⟩ := RowI_AC hR4 (by omega)
    clear G3 b03 b13 RR B4 hL4 hR4
    replace hr4 := Aside0.mk hr4
    go_wp2_with fail
    refine P4.mono ?_
    rintro e w5 ⟨v5, L5, rfl, hR5, hr5, B5⟩
    obtain rfl := hr4.out.unique hr5
    have C5 := below_then C4 C4.size B5
    obtain ⟨A5, c5, rfl, hI5⟩ := RowI_AC hR5 (by omega)
    have E5 := EqI_calls A4 A5 c4 c5 _ w5 (Kd.C_below hI4 B5) hI5 (by omega)
    clear P4 b04 b14 hR5 hI4 hI5 B5 hr5 hr4
    go_wp2_with fail
    refine E5.mono ?_
    rintro e w9 ⟨rfl, B9⟩
    have K := Aside0.mk (BW.out _ (below_then C5 C5.size B9))
    clear E5 B9 C5 C4 C3 BW HELD
    go_wp2
    go_ret
    exact ⟨rfl, K.out⟩
  · rw [okB_no hok]
    replace hok := Aside0.mk hok
    clear RO RR
    go_wp2_with fail
    refine L2.mono ?_
    rintro e w3 ⟨rfl, B3⟩
    have K := Aside0.mk (BW.out _ (below_then B2 B2.size B3))
    clear L2 B2 B3 b02 b12 BW HELD
    go_wp2
    go_ret
    exact ⟨rfl, K.out⟩
set_option maxHeartbeats 8000000 in
set_option maxRecDepth 100000 in
theorem Tells_calls (z : HV) (Ao : Option Addr) (co : Nat) (order : List Int) (w : World) (hz : z.OK w) (ho : dI.C w Ao order.length order) (hl : order.length ≤ 17592186044416) (how : ∀ x ∈ order, okN x) : Calls Tryz.prog 6 #[mkH z, .slice Ao order.length co] w (TruePost w) := by
  obtain ⟨w1, hw1, B1, hz1, b0, b1⟩ := hv_box z w hz
  obtain ⟨bx, hbx⟩ : ∃ bx, bx = w.heap.size := ⟨_, rfl⟩
  have RG := right_calls z w1 hz1
  have LV := fun W (B : Below w1.heap.size w1 W) => live_calls W
  have SE := fun W (B : Below w1.heap.size w1 W) => Serial_calls z Ao co order W (hz1.below B) (Kd.C_below ho (below_then B1 B1.size B)) hl how
  have RO := fun W (B : Below w1.heap.size w1 W) => ROrdered_calls z Ao co order W (hz1.below B) (Kd.C_below ho (below_then B1 B1.size B)) hl
  have RS := fun W (B : Below w1.heap.size w1 W) hA => RSerial_calls z Ao co order W (hz1.below B) hA (Kd.C_below ho (below_then B1 B1.size B)) hl
  have HELD : ∀ W, Below w1.heap.size w1 W → W.cell? ⟨bx, 0, none⟩ = some (.slice z.A1 z.h.C.length z.c1) ∧ W.cell? ⟨bx, 1, none⟩ = some (.slice z.A2 z.h.A.length z.c2) := fun W B => by
    rw [hbx]
    exact ⟨(B.cell (World.block_lt_of_cell? _ _ b0)).trans b0, (B.cell (World.block_lt_of_cell? _ _ b1)).trans b1⟩
  have BW : ∀ W, Below w1.heap.size w1 W → Below w.heap.size w W := fun W B => below_then B1 B1.size B
  obtain ⟨A1, c1, A2, c2, h⟩ := z
  dsimp only [mkH] at *
  clear hz hz1 ho
  replace BW := Aside0.mk BW
  replace LV := Aside0.mk LV
  replace HELD := Aside0.mk HELD
  replace SE := Aside0.mk SE
  replace RO := Aside0.mk RO
  replace RS := Aside0.mk RS
  go_enter Tryz.func6, Tryz.ntmps6
  go_upto_region 1 with (fail)
  rw [← hw1, ← hbx]
  rw [← hbx] at b0 b1
  clear hw1
  replace hbx := Aside0.mk hbx
  unfold RgPost at RG
  go_wp2_with fail
  refine RG.mono ?_
  rintro e w2 ⟨rfl, B2⟩
  clear RG b0 b1
  obtain ⟨b02, b12⟩ := HELD.out w2 B2
  have L2 := LV.out w2 B2
  clear LV
  by_cases hok : OkH h
  · rw [okB_yes hok]
    have e0 := chk_ok hok
    go_wp2_with fail
    refine L2.mono ?_
    rintro e w3 ⟨rfl, B3⟩
    have C3 := below_then B2 B2.size B3
    obtain ⟨b03, b13⟩ := HELD.out w3 C3
    clear L2 B2 B3 b02 b12
    have hla := hok.la
    have G3 := SE.out w3 C3
    unfold SePost at G3
    clear SE e0
    replace hok := Aside0.mk hok
    go_wp2_with fail
    refine G3.mono ?_
    rintro e w4 ⟨s4, k4, rfl, B4, H4⟩
    have C4 := below_then C3 C3.size B4
    obtain ⟨b04, b14⟩ := HELD.out w4 C4
    have P4 := RO.out w4 C4
    clear G3 b03 b13 RO B4
    by_cases ho4 : Ordd h.C order
    · obtain ⟨rfl, rfl⟩ : s4 = serP (graphP h) order ∧ k4 = 0 := by
        rcases H4 with H4 | H4 | H4
        · exact absurd hok.out H4.1
        · exact absurd ho4 H4.2.1
        · exact H4.2.2
      rw [ordB_yes ho4] at P4
      clear H4
      replace ho4 := Aside0.mk ho4
      go_wp2_with fail
      refine P4.mono ?_
      rintro e w5 ⟨rfl, B5⟩
      have C5 := below_then C4 C4.size B5
      obtain ⟨b05, b15⟩ := HELD.out w5 C5
      have R5 := RS.out w5 C5 hla
      clear P4 b04 b14 B5 RS
      generalize serP (graphP h) order = s at *
      go_wp2_with fail
      refine R5.mono ?_
      rintro e w6 ⟨rfl, B6⟩
      have K := Aside0.mk (BW.out _ (below_then C5 C5.size B6))
      clear R5 B6 C5 C4 C3 BW HELD b05 b15
      go_wp2
      go_ret
      exact ⟨by simp, K.out⟩
    · obtain ⟨rfl, rfl⟩ : s4 = false ∧ k4 = 1 := by
        rcases H4 with H4 | H4 | H4
        · exact absurd hok.out H4.1
        · exact H4.2.2
        · exact absurd H4.2.1 ho4
      rw [ordB_no ho4] at P4
      clear H4
      replace ho4 := Aside0.mk ho4
      go_wp2_with fail
      refine P4.mono ?_
      rintro e w5 ⟨rfl, B5⟩
      have K := Aside0.mk (BW.out _ (below_then C4 C4.size B5))
      clear P4 B5 C4 C3 BW HELD b04 b14
      go_wp2
      go_ret
      exact ⟨rfl, K.out⟩
  · rw [okB_no hok]
    replace hok := Aside0.mk hok
    clear SE RO RS
    go_wp2_with fail
    refine L2.mono ?_
    rintro e w3 ⟨rfl, B3⟩
    have K := Aside0.mk (BW.out _ (below_then B2 B2.size B3))
    clear L2 B2 B3 b02 b12 BW HELD
    go_wp2
    go_ret
    exact ⟨rfl, K.out⟩
end Go.Proofs.YtedcnpaomphffaaGreat
namespace Go.Proofs.YtedcnpaomphffaaGreat
open Go.ChangeShapes Go.WideShapes Go.ChangeAt Go.RowKit Go.Maps Go.Sort Go.Lib Go.Shelf Go.Proofs.YtedcnpaomphffaaGreatW.PrintWords Go.Proofs.YtedcnpaomphffaaGreatW.PrintLast Go.Proofs.YtedcnpaomphffaaGreatW.PrintMore
set_option linter.unusedVariables false
set_option linter.unusedSimpArgs false
set_option linter.unusedSectionVars false
/-! ### a history as it came -/
def Ac.OK (x : Ac) : Prop := (Lit.int .i64 x.t).wf = true ∧ (Lit.int .i64 x.v).wf = true ∧ x.item.size ≤ reachBytes
section
variable {H : Type} {enc : TypeId × Value → H} {w : World} {base : Nat} {spare : Nat → Bool} {held : Bool}
set_option maxRecDepth 100000 in
theorem opens_ac : Opens enc Tryz.prog w base spare held 58 dA Ac.OK := by
  intro fuel cs y h hl
  obtain ⟨hc, hf⟩ := opens_fields Tryz.underlying58 h hl
  have hc2 : cs.length = 4 := hc.trans (by kernel_rfl)
  match cs, hc2 with
  | [v0, v1, v2, v3], _ =>
    have f0 : FldAt enc Tryz.prog w base spare held [v0, v1, v2, v3] 3 0 := hf 0 _ rfl
    obtain ⟨n0, y0, t0, g0⟩ := f0
    have f1 : FldAt enc Tryz.prog w base spare held [v0, v1, v2, v3] 4 1 := hf 1 _ rfl
    obtain ⟨n1, y1, t1, g1⟩ := f1
    have f2 : FldAt enc Tryz.prog w base spare held [v0, v1, v2, v3] 9 2 := hf 2 _ rfl
    obtain ⟨n2, y2, t2, g2⟩ := f2
    have f3 : FldAt enc Tryz.prog w base spare held [v0, v1, v2, v3] 3 3 := hf 3 _ rfl
    obtain ⟨n3, y3, t3, g3⟩ := f3
    have k3 : Tryz.prog.cellsOf 3 = 1 := by kernel_rfl
    have k4 : Tryz.prog.cellsOf 4 = 1 := by kernel_rfl
    have k9 : Tryz.prog.cellsOf 9 = 1 := by kernel_rfl
    simp only [k3, k4, k9, List.drop_zero, List.drop_succ_cons, List.take_succ_cons, List.take_zero] at t0 t1 t2 t3
    obtain ⟨a0, e0, w0⟩ := opens_int (k := .i64) Tryz.underlying3 _ _ _ t0 g0
    obtain ⟨a1, e1, w1⟩ := opens_bool Tryz.underlying4 _ _ _ t1 g1
    obtain ⟨a2, e2, w2⟩ := opens_string Tryz.underlying9 _ _ _ t2 g2
    obtain ⟨a3, e3, w3⟩ := opens_int (k := .i64) Tryz.underlying3 _ _ _ t3 g3
    cases e0; cases e1; cases e2; cases e3
    exact ⟨⟨a0, a1, a2, a3⟩, rfl, ⟨w0, w3, w2⟩⟩
theorem opens_nm : Opens enc Tryz.prog w base spare held 3 dI okN := by
  intro fuel cs y h hl
  obtain ⟨x, e, hw⟩ := opens_int (k := .i64) Tryz.underlying3 _ _ _ h hl
  exact ⟨x, e, hw⟩
theorem bytes3 : Tryz.prog.bytesOf 3 = 8 := by kernel_rfl
theorem bytes58 : Tryz.prog.bytesOf 58 = 40 := by kernel_rfl
set_option maxRecDepth 100000 in
theorem open_his {ts : List TypeId} {ds : List (DataW H)} (hsz : (DataW.weightsEach Tryz.prog ts ds).all (· ≤ reachBytes) = true) {j : Nat} {r : Reach} {b0 : Nat} {v : Value} {d : DataW H} {p : List MemPlace} (ht : ts[j]? = some 25) (hd : ds[j]? = some d)
    (hv : Value.okWide Tryz.prog w r b0 25 v) (h : DataW.Trod enc Tryz.prog w base spare held 25 v d p) : ∃ z : HV, v = mkH z ∧ z.OK w := by
  obtain ⟨cs, rfl, hc, hf⟩ := opens_param Tryz.underlying25 hv h (light_of hsz ht hd)
  have hc2 : cs.length = 2 := hc.trans (by kernel_rfl)
  match cs, hc2 with
  | [v0, v1], _ =>
    have f0 : FldAt enc Tryz.prog w base spare held [v0, v1] 22 0 := hf 0 _ rfl
    obtain ⟨n0, y0, t0, g0⟩ := f0
    have f1 : FldAt enc Tryz.prog w base spare held [v0, v1] 23 1 := hf 1 _ rfl
    obtain ⟨n1, y1, t1, g1⟩ := f1
    have k22 : Tryz.prog.cellsOf 22 = 1 := by kernel_rfl
    have k23 : Tryz.prog.cellsOf 23 = 1 := by kernel_rfl
    simp only [k22, k23, List.drop_zero, List.drop_succ_cons, List.take_succ_cons, List.take_zero] at t0 t1
    obtain ⟨A1, c1, xs, e1, h1, h2, h3, h4, h5⟩ := opens_C (d := dI) Tryz.underlying22 (by kernel_rfl) opens_nm t0 g0
    obtain ⟨A2, c2, ys, e2, l1, l2, l3, l4, l5⟩ := opens_C (d := dA) Tryz.underlying23 (by kernel_rfl) opens_ac t1 g1
    cases e1; cases e2
    rw [bytes3] at h4
    rw [bytes58] at l4
    simp only [reachBytes] at h4 l4
    exact ⟨⟨A1, c1, A2, c2, ⟨xs, ys⟩⟩, rfl, ⟨h3, l3, by show xs.length ≤ _; omega, by show ys.length ≤ _; omega, h1, l1, h5, l5⟩⟩
set_option maxRecDepth 100000 in
theorem open_ord {ts : List TypeId} {ds : List (DataW H)} (hsz : (DataW.weightsEach Tryz.prog ts ds).all (· ≤ reachBytes) = true) {j : Nat} {r : Reach} {b0 : Nat} {v : Value} {d : DataW H} {p : List MemPlace} (ht : ts[j]? = some 22) (hd : ds[j]? = some d)
    (hv : Value.okWide Tryz.prog w r b0 22 v) (h : DataW.Trod enc Tryz.prog w base spare held 22 v d p) : ∃ z : Option Addr × Nat × List Int, v = .slice z.1 z.2.2.length z.2.1 ∧ dI.C w z.1 z.2.2.length z.2.2 ∧ z.2.2.length ≤ 17592186044416 ∧ ∀ x ∈ z.2.2, okN x := by
  obtain ⟨a, n, c, rfl⟩ := okWide_slice Tryz.underlying22 hv
  obtain ⟨fuel, hf⟩ := h
  obtain ⟨A, c', xs, e, h1, h2, h3, h4, h5⟩ := opens_C (d := dI) Tryz.underlying22 (by kernel_rfl) opens_nm hf (light_of hsz ht hd)
  simp [Value.cells] at e
  obtain ⟨rfl, rfl, rfl⟩ := e
  rw [bytes3] at h4
  simp only [reachBytes] at h4
  exact ⟨(a, c, xs), rfl, h3, by show xs.length ≤ _; omega, h5⟩
end
theorem SerialGraphs_calls (z : HV) (w : World) (hz : z.OK w) : Calls Tryz.prog 3 #[mkH z] w fun e w' => e = .returned (.bool true) ∧ Below w.heap.size w w' := Graphs_calls z w hz
theorem SerialRounds_calls (z : HV) (w : World) (hz : z.OK w) : Calls Tryz.prog 5 #[mkH z] w fun e w' => e = .returned (.bool true) ∧ Below w.heap.size w w' := Rounds_calls z w hz
theorem SerialTells_calls (z : HV) (o : Option Addr × Nat × List Int) (w : World) (hz : z.OK w) (ho : dI.C w o.1 o.2.2.length o.2.2 ∧ o.2.2.length ≤ 17592186044416 ∧ ∀ x ∈ o.2.2, okN x) :
    Calls Tryz.prog 6 #[mkH z, .slice o.1 o.2.2.length o.2.1] w fun e w' => e = .returned (.bool true) ∧ Below w.heap.size w w' := Tells_calls z o.1 o.2.1 o.2.2 w hz ho.1 ho.2.1 ho.2.2
end Go.Proofs.YtedcnpaomphffaaGreat
