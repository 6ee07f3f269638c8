import Derived.Test.YtedcnpaomphffaaMP
namespace Go.Proofs.Ytedcnpaomphffaa
open Go.RowKit Go.Maps Go.Sort Go.Lib Go.Shelf Go.Proofs.YtedcnpaomphffaaW.PrintWords Go.Proofs.YtedcnpaomphffaaW.PrintLast Go.Proofs.YtedcnpaomphffaaW.PrintMore
set_option linter.unusedVariables false
set_option linter.unusedSimpArgs false
set_option linter.unusedSectionVars false
/-! ### write skew -/
def sx : ByteArray := ⟨#[120]⟩
def sy : ByteArray := ⟨#[121]⟩
def skewA : List Ac := [⟨1, false, sx, 0⟩, ⟨1, false, sy, 0⟩, ⟨2, false, sx, 0⟩, ⟨2, false, sy, 0⟩, ⟨1, true, sx, 0⟩, ⟨2, true, sy, 0⟩]
def skewH : Hs := ⟨[1, 2], skewA⟩
theorem sx_list : sx.toList = [120] := by
  simp [sx, ByteArray.toList, ByteArray.toList.loop, ByteArray.size, ByteArray.get!]
theorem sy_list : sy.toList = [121] := by
  simp [sy, ByteArray.toList, ByteArray.toList.loop, ByteArray.size, ByteArray.get!]
theorem isW_skew (t : Int) (i : ByteArray) : wrs skewA t i = (((1 == t) && ([120] == i.toList)) || ((2 == t) && ([121] == i.toList))) := by
  unfold wrs isW skewA
  simp [sx_list, sy_list]
theorem skew_ok : OkH skewH where
  la := by decide
  lc := by decide
  pos := by decide
  nd := by decide
  inC := by
    intro a ha
    simp only [skewH, skewA, List.mem_cons, List.not_mem_nil, or_false] at ha
    rcases ha with rfl | rfl | rfl | rfl | rfl | rfl <;> decide
  wv := by
    intro a ha hw
    simp only [skewH, skewA, List.mem_cons, List.not_mem_nil, or_false] at ha
    rcases ha with rfl | rfl | rfl | rfl | rfl | rfl <;> rfl
  once := by
    simp [skewH, skewA]
  rd := by
    intro a ha hw
    simp only [skewH, skewA, List.mem_cons, List.not_mem_nil, or_false] at ha
    rcases ha with rfl | rfl | rfl | rfl | rfl | rfl <;> exact .inl rfl
theorem nx1 : nxt skewH sx 0 = 1 := by
  show (([1, 2] : List Int).find? (fun c => wrs skewA c sx)).getD 0 = 1
  simp [isW_skew, sx_list]
theorem nx2 : nxt skewH sy 0 = 2 := by
  show (([1, 2] : List Int).find? (fun c => wrs skewA c sy)).getD 0 = 2
  simp [isW_skew, sy_list]
theorem nx3 : nxt skewH sx 1 = 0 := by
  show (([2] : List Int).find? (fun c => wrs skewA c sx)).getD 0 = 0
  simp [isW_skew, sx_list]
theorem nx4 : nxt skewH sy 2 = 0 := rfl
theorem skew_deps (d : Dp) : d ∈ depsL skewH ↔ d = ⟨1, 2, 3⟩ ∨ d = ⟨2, 1, 3⟩ := by
  have e : depsL skewH = [⟨1, 2, 3⟩, ⟨2, 1, 3⟩] := by
    show (List.flatMap (actD skewH) skewA).filter okD = _
    simp [skewA, actD, nx1, nx2, nx3, nx4, okD]
  rw [e]
  simp
theorem skew_leads (a b : Int) : leadsB (graphP skewH) a b = true ↔ (a = 1 ∧ b = 2) ∨ (a = 2 ∧ b = 1) := by
  rw [leadsB_iff]
  constructor
  · rintro ⟨d, hd, rfl, rfl⟩
    rcases (skew_deps d).1 (mem_graph.1 hd) with rfl | rfl
    · exact .inl ⟨rfl, rfl⟩
    · exact .inr ⟨rfl, rfl⟩
  · rintro (⟨rfl, rfl⟩ | ⟨rfl, rfl⟩)
    · exact ⟨_, mem_graph.2 ((skew_deps ⟨1, 2, 3⟩).2 (.inl rfl)), rfl, rfl⟩
    · exact ⟨_, mem_graph.2 ((skew_deps ⟨2, 1, 3⟩).2 (.inr rfl)), rfl, rfl⟩
theorem skew_no1 (a : Int) (ha : a = 1 ∨ a = 2) : ¬ Walk (graphP skewH) 1 a a := by
  rintro ⟨c, h1, h2⟩
  have h2 : c = a := h2
  subst h2
  rcases (skew_leads c c).1 h1 with ⟨h, h'⟩ | ⟨h, h'⟩ <;> omega
theorem skew_thr1 : IsThr (graphP skewH) 1 2 := by
  refine .inr ⟨1, rfl, ⟨2, (skew_leads 1 2).2 (.inl ⟨rfl, rfl⟩), 1, (skew_leads 2 1).2 (.inr ⟨rfl, rfl⟩), rfl⟩, fun j hj => ?_⟩
  obtain rfl : j = 0 := by omega
  exact skew_no1 1 (.inl rfl)
theorem skew_thr2 : IsThr (graphP skewH) 2 2 := by
  refine .inr ⟨1, rfl, ⟨1, (skew_leads 2 1).2 (.inr ⟨rfl, rfl⟩), 2, (skew_leads 1 2).2 (.inl ⟨rfl, rfl⟩), rfl⟩, fun j hj => ?_⟩
  obtain rfl : j = 0 := by omega
  exact skew_no1 2 (.inr rfl)
theorem skew_round : RoundOf (graphP skewH) [1, 2] [1, 2] := by
  refine ⟨2, 1, .inr ⟨0, by decide, by decide, rfl, by decide, skew_thr1, fun j hj _ b' hb' hp => ?_⟩, .inr ⟨by decide, rfl, by decide, by decide, rfl, fun j a x h1 h2 => ?_⟩⟩
  · match j, hj with
    | 0, _ => exact ⟨by rw [hb'.unique skew_thr1]; exact Int.le_refl _, fun h => absurd h (by omega)⟩
    | 1, _ => exact ⟨by rw [hb'.unique skew_thr2]; exact Int.le_refl _, fun h => absurd h (by omega)⟩
  · match j with
    | 0 =>
      obtain rfl : 1 = a := by simpa using h1
      obtain rfl : 2 = x := by simpa using h2
      refine ⟨1, by decide, rfl, (skew_leads 1 2).2 (.inl ⟨rfl, rfl⟩), ⟨⟨1, (skew_leads 2 1).2 (.inr ⟨rfl, rfl⟩), rfl⟩, fun j hj hw => ?_⟩, fun q hq hq1 => ?_⟩
      · obtain rfl : j = 0 := by omega
        have hw : (2 : Int) = 1 := hw
        omega
      · obtain rfl : q = 0 := by omega
        rintro ⟨h, _⟩
        rcases (skew_leads 1 1).1 h with ⟨h, h'⟩ | ⟨h, h'⟩ <;> omega
    | 1 => simp at h2
    | j + 2 => simp at h2
theorem skew_rise : rise skewH.C = [1, 2] := (rise_eq (by decide) (fun t => Iff.rfl)).symm
theorem three_alloc {w V : World} {o1 o2 o3 : Obj} (h : ((w.alloc o1).alloc o2).alloc o3 = V) : V.heap[w.heap.size]? = some o1 ∧ V.heap[w.heap.size + 1]? = some o2 ∧ V.heap[w.heap.size + 1 + 1]? = some o3 ∧ Below w.heap.size w V := by
  subst h
  have s1 : (w.alloc o1).heap.size = w.heap.size + 1 := by simp
  have s2 : ((w.alloc o1).alloc o2).heap.size = w.heap.size + 1 + 1 := by simp
  have B2 : Below (w.heap.size + 1) (w.alloc o1) ((w.alloc o1).alloc o2) := (Below.refl _ _).alloc (by rw [s1]; exact Nat.le_refl _) _
  have B3 : Below (w.heap.size + 1 + 1) ((w.alloc o1).alloc o2) (((w.alloc o1).alloc o2).alloc o3) := (Below.refl _ _).alloc (by rw [s2]; exact Nat.le_refl _) _
  refine ⟨?_, ?_, ?_, ?_⟩
  · rw [B3.block _ (by omega), B2.block _ (by omega)]
    exact heap_alloc_new w o1
  · rw [B3.block _ (by omega), ← s1]
    exact heap_alloc_new _ o2
  · rw [← s2]
    exact heap_alloc_new _ o3
  · exact (((Below.refl _ w).alloc (Nat.le_refl _) _).alloc (by rw [s1]; omega) _).alloc (by rw [s2]; omega) _
theorem C_lit {α : Type} {enc : α → List Value} {k : Nat} {hn : ∀ x, (enc x).length = k} {h1 : ∀ x, ∀ u ∈ enc x, u.oneCell' = true} {W : World} {g e : Nat} {cs : Array Value} {fr : Nat × Nat} {xs : List α} (h : W.heap[g]? = some (.cells cs e fr)) (hl : xs.length ≤ 9223372036854775807) (hc : cs.toList.length = xs.length * k) (hr : Reps (fun x cs => cs = enc x) k xs cs.toList) : (Kd.flat enc k hn h1).C W (some ⟨g, 0, none⟩) xs.length xs := by
  refine C_of_src ⟨cs.toList, hc, hr, fun _ => ⟨_, rfl, fun j u hu => ?_⟩⟩ hl
  rw [Array.getElem?_toList] at hu
  have := cell_of_row W g j cs e fr h
  have e2 : (⟨g, 0, none⟩ : Addr).add j = ⟨g, j, none⟩ := by
    unfold Addr.add
    split
    · rename_i h0; rw [h0]
    · simp
  rw [e2, this, hu]
def SkPost (w : World) (e : Ending) (w' : World) : Prop := ∃ z : HV, z.h = skewH ∧ e = .returned (mkH z) ∧ z.OK w' ∧ Below w.heap.size w w'
set_option maxHeartbeats 4000000 in
set_option maxRecDepth 100000 in
theorem skew_calls (w : World) : Calls Try.prog 16 #[] w (SkPost w) := by
  go_enter Try.func16, Try.ntmps16
  go_wp2
  generalize hV : (((w.alloc _).alloc _).alloc _ : World) = V
  obtain ⟨h0, h1, h2, B⟩ := three_alloc hV
  have cC : dI.C V (some ⟨w.heap.size + 1, 0, none⟩) 2 [1, 2] := C_lit h1 (by decide) rfl ⟨rfl, fun j p hp => by
    rcases j with _ | _ | j <;> simp at hp <;> subst hp <;> rfl⟩
  have cA : dA.C V (some ⟨w.heap.size + 1 + 1, 0, none⟩) 6 skewA := C_lit h2 (by decide) rfl ⟨rfl, fun j p hp => by
    rcases j with _ | _ | _ | _ | _ | _ | j <;> simp [skewA] at hp <;> subst hp <;> rfl⟩
  refine bodyPost_ret (results_cell_row rfl _ _ w.heap.size 25 _ (0, 0) _ rfl h0 Try.underlying25 rfl (by kernel_rfl)) rfl ?_
  refine ⟨⟨some ⟨w.heap.size + 1, 0, none⟩, 2, some ⟨w.heap.size + 1 + 1, 0, none⟩, 6, skewH⟩, rfl, rfl, ⟨cC, cA, by show 2 ≤ 17592186044416; decide, by show 6 ≤ 17592186044416; decide, Nat.le_refl _, Nat.le_refl _, ?_, ?_⟩, B⟩
  · intro x hx
    have hx : x ∈ ([1, 2] : List Int) := hx
    simp only [List.mem_cons, List.not_mem_nil, or_false] at hx
    rcases hx with rfl | rfl <;> rfl
  · intro x hx
    have hx : x ∈ skewA := hx
    simp only [skewA, List.mem_cons, List.not_mem_nil, or_false] at hx
    rcases hx with rfl | rfl | rfl | rfl | rfl | rfl <;> exact ⟨rfl, rfl, by decide⟩
theorem RowI_C {W : World} {b : Nat} {A : Option Addr} {c : Nat} {xs : List Int} (h : RowI W b (.slice A xs.length c) xs) (hl : xs.length ≤ 9223372036854775807) : dI.C W A xs.length xs := C_of_lo (enc := encI) (k := 1) (hn := fun _ => rfl) (h1 := encI_one) h hl
set_option maxHeartbeats 4000000 in
set_option maxRecDepth 100000 in
theorem live_calls (w : World) : Calls Try.prog 5 #[] w fun e w' => e = .returned (.bool true) ∧ Below w.heap.size w w' := by
  have SK := skew_calls w
  unfold SkPost at SK
  go_enter Try.func5, Try.ntmps5
  go_wp2_with fail
  refine SK.mono ?_
  rintro e w1 ⟨z, hz, rfl, zok, B1⟩
  have RO := Round_calls z w1 zok
  clear SK
  unfold RoPost at RO
  go_wp2_with fail
  refine RO.mono ?_
  rintro e w2 ⟨v, L, rfl, hR, B2, _, hround⟩
  rw [hz] at hround ⊢
  have e0 := chk_ok skew_ok
  have hL := hround skew_ok
  rw [skew_rise] at hL
  obtain rfl := hL.unique skew_round
  rw [e0]
  obtain ⟨A, c, rfl, _⟩ := hR.slice
  have hC := RowI_C hR (by decide)
  have B := below_then B1 B1.size B2
  obtain ⟨w3, hw3⟩ : ∃ w3, w3 = w2.alloc (.cells #[.int .i64 1, .int .i64 2] 3) := ⟨_, rfl⟩
  have h3 : w3.heap[w2.heap.size]? = some (.cells #[.int .i64 1, .int .i64 2] 3 (0, 0)) := by rw [hw3]; exact heap_alloc_new _ _
  have B3 : Below w2.heap.size w2 w3 := by rw [hw3]; exact (Below.refl _ w2).alloc (Nat.le_refl _) _
  have cC : dI.C w3 (some ⟨w2.heap.size, 0, none⟩) 2 [1, 2] := C_lit h3 (by decide) rfl ⟨rfl, fun j p hp => by
    rcases j with _ | _ | j <;> simp at hp <;> subst hp <;> rfl⟩
  have EQ := EqI_calls A (some ⟨w2.heap.size, 0, none⟩) c 2 [1, 2] w3 (Kd.C_below hC B3) cC (by decide)
  have BB := fun W (B4 : Below w3.heap.size w3 W) => below_then B B.size (below_then B3 B3.size B4)
  clear RO hround hL hR hC cC B B1 B2 h3 B3
  replace BB := Aside0.mk BB
  go_wp2_with fail
  rw [← hw3]
  clear hw3
  simp only [List.length_cons, List.length_nil, Nat.zero_add, Nat.reduceAdd] at EQ
  refine EQ.mono ?_
  rintro e w4 ⟨rfl, B4⟩
  have K := Aside0.mk (BB.out _ B4)
  clear EQ BB B4
  go_wp2
  go_ret
  exact ⟨rfl, K.out⟩
end Go.Proofs.Ytedcnpaomphffaa
namespace Go.Proofs.Ytedcnpaomphffaa
open Go.RowKit Go.Maps Go.Sort Go.Lib Go.Shelf Go.Proofs.YtedcnpaomphffaaW.PrintWords Go.Proofs.YtedcnpaomphffaaW.PrintLast Go.Proofs.YtedcnpaomphffaaW.PrintMore
set_option linter.unusedVariables false
set_option linter.unusedSimpArgs false
set_option linter.unusedSectionVars false
/-! ### SerialGraphs, SerialRounds, SerialTells -/
/-- a law holds -/
def TruePost (w : World) (e : Ending) (w' : World) : Prop := e = .returned (.bool true) ∧ Below w.heap.size w w'
theorem RI_C {W : World} {b : Nat} {v : Value} {xs : List Int} (h : dI.R 3 W b (fun _ => True) v xs) : ∃ A c, v = .slice A xs.length c ∧ dI.C W A xs.length xs := by
  obtain ⟨A, c, e, _, hC⟩ := Kd.R_reads h
  exact ⟨A, c, e, hC⟩
theorem RD_C {W : World} {b : Nat} {v : Value} {xs : List Dp} (h : dD.R 64 W b (fun _ => True) v xs) : ∃ A c, v = .slice A xs.length c ∧ dD.C W A xs.length xs := by
  obtain ⟨A, c, e, _, hC⟩ := Kd.R_reads h
  exact ⟨A, c, e, hC⟩
theorem RowI_AC {W : World} {b : Nat} {v : Value} {xs : List Int} (h : RowI W b v xs) (hl : xs.length ≤ 9223372036854775807) : ∃ A c, v = .slice A xs.length c ∧ dI.C W A xs.length xs := by
  obtain ⟨A, c, rfl, _⟩ := h.slice
  exact ⟨A, c, rfl, RowI_C h hl⟩
theorem RowD_AC {W : World} {b : Nat} {v : Value} {xs : List Dp} (h : RowD W b v xs) (hl : xs.length ≤ 9223372036854775807) : ∃ A c, v = .slice A xs.length c ∧ dD.C W A xs.length xs := by
  obtain ⟨A, c, rfl, _⟩ := h.slice
  exact ⟨A, c, rfl, C_of_lo (enc := encD) (k := 3) (hn := fun _ => rfl) (h1 := encD_one) h hl⟩
theorem RowI_len {W : World} {b : Nat} {v : Value} {xs : List Int} (h : RowI W b v xs) : xs.length ≤ 9223372036854775807 := by
  obtain ⟨inner, ⟨_, h | ⟨g, cap, cur, _, _, _, h1, h2, _⟩⟩, _⟩ := h
  · omega
  · simp only [maxLen] at h2
    omega
theorem pivP_len (g : List Dp) (names : List Int) : (pivP g names).length ≤ names.length := List.length_filter_le _ _
end Go.Proofs.Ytedcnpaomphffaa
namespace Go.Proofs.Ytedcnpaomphffaa
open Go.ChangeShapes Go.WideShapes Go.ChangeAt Go.RowKit Go.Maps Go.Sort Go.Lib Go.Shelf Go.Proofs.YtedcnpaomphffaaW.PrintWords Go.Proofs.YtedcnpaomphffaaW.PrintLast Go.Proofs.YtedcnpaomphffaaW.PrintMore
set_option linter.unusedVariables false
set_option linter.unusedSimpArgs false
set_option linter.unusedSectionVars false
/-! ### a history as it came -/
def Ac.OK (x : Ac) : Prop := (Lit.int .i64 x.t).wf = true ∧ (Lit.int .i64 x.v).wf = true ∧ x.item.size ≤ reachBytes
section
variable {H : Type} {enc : TypeId × Value → H} {w : World} {base : Nat} {spare : Nat → Bool} {held : Bool}
set_option maxRecDepth 100000 in
theorem opens_ac : Opens enc Try.prog w base spare held 40 dA Ac.OK := by
  intro fuel cs y h hl
  obtain ⟨hc, hf⟩ := opens_fields Try.underlying40 h hl
  have hc2 : cs.length = 4 := hc.trans (by kernel_rfl)
  match cs, hc2 with
  | [v0, v1, v2, v3], _ =>
    have f0 : FldAt enc Try.prog w base spare held [v0, v1, v2, v3] 3 0 := hf 0 _ rfl
    obtain ⟨n0, y0, t0, g0⟩ := f0
    have f1 : FldAt enc Try.prog w base spare held [v0, v1, v2, v3] 4 1 := hf 1 _ rfl
    obtain ⟨n1, y1, t1, g1⟩ := f1
    have f2 : FldAt enc Try.prog w base spare held [v0, v1, v2, v3] 9 2 := hf 2 _ rfl
    obtain ⟨n2, y2, t2, g2⟩ := f2
    have f3 : FldAt enc Try.prog w base spare held [v0, v1, v2, v3] 3 3 := hf 3 _ rfl
    obtain ⟨n3, y3, t3, g3⟩ := f3
    have k3 : Try.prog.cellsOf 3 = 1 := by kernel_rfl
    have k4 : Try.prog.cellsOf 4 = 1 := by kernel_rfl
    have k9 : Try.prog.cellsOf 9 = 1 := by kernel_rfl
    simp only [k3, k4, k9, List.drop_zero, List.drop_succ_cons, List.take_succ_cons, List.take_zero] at t0 t1 t2 t3
    obtain ⟨a0, e0, w0⟩ := opens_int (k := .i64) Try.underlying3 _ _ _ t0 g0
    obtain ⟨a1, e1, w1⟩ := opens_bool Try.underlying4 _ _ _ t1 g1
    obtain ⟨a2, e2, w2⟩ := opens_string Try.underlying9 _ _ _ t2 g2
    obtain ⟨a3, e3, w3⟩ := opens_int (k := .i64) Try.underlying3 _ _ _ t3 g3
    cases e0; cases e1; cases e2; cases e3
    exact ⟨⟨a0, a1, a2, a3⟩, rfl, ⟨w0, w3, w2⟩⟩
theorem opens_nm : Opens enc Try.prog w base spare held 3 dI okN := by
  intro fuel cs y h hl
  obtain ⟨x, e, hw⟩ := opens_int (k := .i64) Try.underlying3 _ _ _ h hl
  exact ⟨x, e, hw⟩
theorem bytes3 : Try.prog.bytesOf 3 = 8 := by kernel_rfl
theorem bytes58 : Try.prog.bytesOf 40 = 40 := by kernel_rfl
set_option maxRecDepth 100000 in
theorem open_his {ts : List TypeId} {ds : List (DataW H)} (hsz : (DataW.weightsEach Try.prog ts ds).all (· ≤ reachBytes) = true) {j : Nat} {r : Reach} {b0 : Nat} {v : Value} {d : DataW H} {p : List MemPlace} (ht : ts[j]? = some 25) (hd : ds[j]? = some d)
    (hv : Value.okWide Try.prog w r b0 25 v) (h : DataW.Trod enc Try.prog w base spare held 25 v d p) : ∃ z : HV, v = mkH z ∧ z.OK w := by
  obtain ⟨cs, rfl, hc, hf⟩ := opens_param Try.underlying25 hv h (light_of hsz ht hd)
  have hc2 : cs.length = 2 := hc.trans (by kernel_rfl)
  match cs, hc2 with
  | [v0, v1], _ =>
    have f0 : FldAt enc Try.prog w base spare held [v0, v1] 22 0 := hf 0 _ rfl
    obtain ⟨n0, y0, t0, g0⟩ := f0
    have f1 : FldAt enc Try.prog w base spare held [v0, v1] 23 1 := hf 1 _ rfl
    obtain ⟨n1, y1, t1, g1⟩ := f1
    have k22 : Try.prog.cellsOf 22 = 1 := by kernel_rfl
    have k23 : Try.prog.cellsOf 23 = 1 := by kernel_rfl
    simp only [k22, k23, List.drop_zero, List.drop_succ_cons, List.take_succ_cons, List.take_zero] at t0 t1
    obtain ⟨A1, c1, xs, e1, h1, h2, h3, h4, h5⟩ := opens_C (d := dI) Try.underlying22 (by kernel_rfl) opens_nm t0 g0
    obtain ⟨A2, c2, ys, e2, l1, l2, l3, l4, l5⟩ := opens_C (d := dA) Try.underlying23 (by kernel_rfl) opens_ac t1 g1
    cases e1; cases e2
    rw [bytes3] at h4
    rw [bytes58] at l4
    simp only [reachBytes] at h4 l4
    exact ⟨⟨A1, c1, A2, c2, ⟨xs, ys⟩⟩, rfl, ⟨h3, l3, by show xs.length ≤ _; omega, by show ys.length ≤ _; omega, h1, l1, h5, l5⟩⟩
set_option maxRecDepth 100000 in
theorem open_ord {ts : List TypeId} {ds : List (DataW H)} (hsz : (DataW.weightsEach Try.prog ts ds).all (· ≤ reachBytes) = true) {j : Nat} {r : Reach} {b0 : Nat} {v : Value} {d : DataW H} {p : List MemPlace} (ht : ts[j]? = some 22) (hd : ds[j]? = some d)
    (hv : Value.okWide Try.prog w r b0 22 v) (h : DataW.Trod enc Try.prog w base spare held 22 v d p) : ∃ z : Option Addr × Nat × List Int, v = .slice z.1 z.2.2.length z.2.1 ∧ dI.C w z.1 z.2.2.length z.2.2 ∧ z.2.2.length ≤ 17592186044416 ∧ ∀ x ∈ z.2.2, okN x := by
  obtain ⟨a, n, c, rfl⟩ := okWide_slice Try.underlying22 hv
  obtain ⟨fuel, hf⟩ := h
  obtain ⟨A, c', xs, e, h1, h2, h3, h4, h5⟩ := opens_C (d := dI) Try.underlying22 (by kernel_rfl) opens_nm hf (light_of hsz ht hd)
  simp [Value.cells] at e
  obtain ⟨rfl, rfl, rfl⟩ := e
  rw [bytes3] at h4
  simp only [reachBytes] at h4
  exact ⟨(a, c, xs), rfl, h3, by show xs.length ≤ _; omega, h5⟩
end
end Go.Proofs.Ytedcnpaomphffaa
