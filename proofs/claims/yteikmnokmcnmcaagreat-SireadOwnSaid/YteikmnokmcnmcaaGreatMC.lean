import Derived.Test.YteikmnokmcnmcaaGreatMB
import Derived.Test.YteikmnokmcnmcaaGreatK1
namespace Go.Proofs.YteikmnokmcnmcaaGreat
open Go.ChangeShapes Go.WideShapes Go.ChangeAt Go.RowKit Go.Proofs.YteikmnokmcnmcaaGreatW.PrintWords Go.Proofs.YteikmnokmcnmcaaGreatW.PrintLast Go.Proofs.YteikmnokmcnmcaaGreatW.PrintMore
set_option linter.unusedVariables false
set_option linter.unusedSimpArgs false
set_option linter.unusedSectionVars false
/-! ### operations as they came; the functions of no manager -/
structure Sop where
  kind : Int
  txn : Int
  x : Rd
  key : ByteArray
structure Sop.OK (o : Sop) : Prop where
  kind : (Lit.int .i64 o.kind).wf = true
  txn : (Lit.int .i64 o.txn).wf = true
  x : o.x.OK
  key : o.key.size ≤ reachBytes
def encO (o : Sop) : List Value := [.int .i64 o.kind, .int .i64 o.txn, .string o.x.t, .int .i64 o.x.k, .string o.x.f, .string o.x.u, .string o.key]
abbrev dOp : Kd Sop := Kd.flat encO 7 (fun _ => rfl) (fun o u hu => by simp only [encO, List.mem_cons, List.not_mem_nil, or_false] at hu; rcases hu with rfl | rfl | rfl | rfl | rfl | rfl | rfl <;> rfl)
abbrev mkO (o : Sop) : Value := .agg #[.int .i64 o.kind, .int .i64 o.txn, .string o.x.t, .int .i64 o.x.k, .string o.x.f, .string o.x.u, .string o.key]
section
variable {H : Type} {enc : TypeId × Value → H} {w : World} {base : Nat} {spare : Nat → Bool} {held : Bool}
set_option maxRecDepth 100000 in
theorem opens_op : Opens enc Tryz.prog w base spare held 33 dOp Sop.OK := by
  intro fuel cs y h hl
  obtain ⟨hc, hf⟩ := opens_fields Tryz.underlying33 h hl
  have hc2 : cs.length = 7 := hc.trans (by kernel_rfl)
  match cs, hc2 with
  | [v0, v1, v2, v3, v4, v5, v6], _ =>
    have f0 : FldAt enc Tryz.prog w base spare held [v0, v1, v2, v3, v4, v5, v6] 3 0 := hf 0 _ rfl
    obtain ⟨n0, y0, t0, g0⟩ := f0
    have f1 : FldAt enc Tryz.prog w base spare held [v0, v1, v2, v3, v4, v5, v6] 2 1 := hf 1 _ rfl
    obtain ⟨n1, y1, t1, g1⟩ := f1
    have f2 : FldAt enc Tryz.prog w base spare held [v0, v1, v2, v3, v4, v5, v6] 31 2 := hf 2 _ rfl
    obtain ⟨n2, y2, t2, g2⟩ := f2
    have f3 : FldAt enc Tryz.prog w base spare held [v0, v1, v2, v3, v4, v5, v6] 9 6 := hf 3 _ rfl
    obtain ⟨n3, y3, t3, g3⟩ := f3
    have k3 : Tryz.prog.cellsOf 3 = 1 := by kernel_rfl
    have k2 : Tryz.prog.cellsOf 2 = 1 := by kernel_rfl
    have k23 : Tryz.prog.cellsOf 31 = 4 := by kernel_rfl
    simp only [k3, k2, k23, cells9, List.drop_zero, List.drop_succ_cons, List.take_succ_cons, List.take_zero] at t0 t1 t2 t3
    obtain ⟨a0, e0, w0⟩ := opens_int (k := .i64) Tryz.underlying3 _ _ _ t0 g0
    obtain ⟨a1, e1, w1⟩ := opens_int (k := .i64) Tryz.underlying2 _ _ _ t1 g1
    obtain ⟨x, e2, w2⟩ := opens_rd t2 g2
    obtain ⟨a3, e3, w3⟩ := opens_string Tryz.underlying9 _ _ _ t3 g3
    cases e0; cases e1; cases e2; cases e3
    exact ⟨⟨a0, a1, x, a3⟩, rfl, ⟨w0, w1, w2, w3⟩⟩
set_option maxRecDepth 100000 in
theorem open_opp {ts : List TypeId} {ds : List (DataW H)} (hsz : (DataW.weightsEach Tryz.prog ts ds).all (· ≤ reachBytes) = true) {j : Nat} {r : Reach} {b0 : Nat} {v : Value} {d : DataW H} {p : List MemPlace} (ht : ts[j]? = some 33) (hd : ds[j]? = some d)
    (hv : Value.okWide Tryz.prog w r b0 33 v) (h : DataW.Trod enc Tryz.prog w base spare held 33 v d p) : ∃ x : Sop, v = mkO x ∧ x.OK := by
  obtain ⟨ca, rfl, hs⟩ := okWide_struct Tryz.underlying33 hv
  obtain ⟨fuel, hf⟩ := h
  obtain ⟨x, e, hx⟩ := opens_op _ _ _ hf (light_of hsz ht hd)
  refine ⟨x, ?_, hx⟩
  have e' : ca.toList = encO x := e
  rw [← Array.toArray_toList (xs := ca), e']
  rfl
end
set_option maxRecDepth 100000 in
theorem Note_none (v : Value) (t : Int) (x : Rd) (w : World) (h : Mr0 w v) : Calls Tryz.prog 7 #[v, .int .i64 t, .agg #[.string x.t, .int .i64 x.k, .string x.f, .string x.u]] w fun e w' => e = .returned (.int .i64 2) ∧ Below w.heap.size w w' := by
  obtain ⟨w1, hw1⟩ : ∃ w1, w1 = w.alloc (.cells #[.string x.t, .int .i64 x.k, .string x.f, .string x.u] 31) := ⟨_, rfl⟩
  have B1 : Below w.heap.size w w1 := by rw [hw1]; exact boxed w x
  have N := none0_calls v w1 (by
    rcases h with h | ⟨p, h1, h2⟩
    · exact .inl h
    · exact .inr ⟨p, h1, (B1.cell (World.block_lt_of_cell? _ _ h2)).trans h2⟩)
  go_enter Tryz.func7, Tryz.ntmps7
  go_wp2_with fail
  rw [← hw1]
  clear hw1
  refine N.mono ?_
  rintro e w' ⟨rfl, rfl⟩
  go_wp2
  go_ret
  exact ⟨rfl, B1⟩
set_option maxRecDepth 100000 in
theorem Readers_none (v : Value) (tab key : ByteArray) (w : World) (h : Mr0 w v) : Calls Tryz.prog 10 #[v, .string tab, .string key] w fun e w' => e = .returned (.slice none 0 0) ∧ w = w' := by
  have N := none0_calls v w h
  go_enter Tryz.func10, Tryz.ntmps10
  go_wp2_with fail
  refine N.mono ?_
  rintro e w' ⟨rfl, rfl⟩
  go_wp2
  go_ret
  exact ⟨rfl, rfl⟩
set_option maxRecDepth 100000 in
theorem Of_none (v : Value) (t : Int) (w : World) (h : Mr0 w v) : Calls Tryz.prog 12 #[v, .int .i64 t] w fun e w' => e = .returned (.slice none 0 0) ∧ w = w' := by
  have N := none0_calls v w h
  go_enter Tryz.func12, Tryz.ntmps12
  go_wp2_with fail
  refine N.mono ?_
  rintro e w' ⟨rfl, rfl⟩
  go_wp2
  go_ret
  exact ⟨rfl, rfl⟩
set_option maxRecDepth 100000 in
theorem Txns_none (v : Value) (w : World) (h : Mr0 w v) : Calls Tryz.prog 11 #[v] w fun e w' => e = .returned (.slice none 0 0) ∧ w = w' := by
  have N := none0_calls v w h
  go_enter Tryz.func11, Tryz.ntmps11
  go_wp2_with fail
  refine N.mono ?_
  rintro e w' ⟨rfl, rfl⟩
  go_wp2
  go_ret
  exact ⟨rfl, rfl⟩
set_option maxRecDepth 100000 in
theorem Len_none (v : Value) (w : World) (h : Mr0 w v) : Calls Tryz.prog 19 #[v] w fun e w' => e = .returned (.int .i64 0) ∧ w = w' := by
  have N := none0_calls v w h
  go_enter Tryz.func19, Tryz.ntmps19
  go_wp2_with fail
  refine N.mono ?_
  rintro e w' ⟨rfl, rfl⟩
  go_wp2
  go_ret
  exact ⟨rfl, rfl⟩
theorem Mr0.kept {w w' : World} {v : Value} (h : Mr0 w v) (B : Below w.heap.size w w') : Mr0 w' v := by
  rcases h with h | ⟨p, h1, h2⟩
  · exact .inl h
  · exact .inr ⟨p, h1, (B.cell (World.block_lt_of_cell? _ _ h2)).trans h2⟩
set_option maxRecDepth 100000 in
theorem Drop_none (v : Value) (t : Int) (w : World) (h : Mr0 w v) : Calls Tryz.prog 14 #[v, .int .i64 t] w fun e w' => e = .returned (.int .i64 2) ∧ Below w.heap.size w w' := by
  obtain ⟨w1, hw1⟩ : ∃ w1, w1 = (w.alloc (.cells #[v] 23)).alloc (.cells #[.int .i64 t] 2) := ⟨_, rfl⟩
  have B1 : Below w.heap.size w w1 := by rw [hw1]; exact below_alloc ((Below.refl _ w).alloc (Nat.le_refl _) _) _
  have N := none0_calls v w1 (h.kept B1)
  have o1 : w1.heap[w.heap.size]? = some (.cells #[v] 23 (0, 0)) := by rw [hw1]; exact (Below.heap_alloc _ _ _ (by simp)).trans (heap_alloc_new w _)
  have c1 := cell_of_row w1 _ 0 _ 23 (0, 0) o1
  clear o1
  rcases h with rfl | ⟨p, rfl, hp⟩
  all_goals
    go_enter Tryz.func14, Tryz.ntmps14
    go_upto_region 1 with (fail)
    rw [← hw1]
    clear hw1
    go_wp2_with fail
    refine N.mono ?_
    rintro e w' ⟨rfl, rfl⟩
    go_wp2
    go_ret
    exact ⟨rfl, B1⟩
end Go.Proofs.YteikmnokmcnmcaaGreat
namespace Go.Proofs.YteikmnokmcnmcaaGreat
open Go.RowKit Go.Maps Go.Sort Go.Lib Go.Proofs.YteikmnokmcnmcaaGreatW.PrintWords Go.Proofs.YteikmnokmcnmcaaGreatW.PrintLast Go.Proofs.YteikmnokmcnmcaaGreatW.PrintMore
set_option linter.unusedVariables false
set_option linter.unusedSimpArgs false
set_option linter.unusedSectionVars false
/-! ### cmp.Compare, cmp.Or -/
def cmpS (s u : ByteArray) : Int := if Op.bytesLess s.toList u.toList = true then -1 else if s.toList == u.toList then 0 else 1
def cmpN (s u : Int) : Int := if s < u then -1 else if s = u then 0 else 1
set_option maxRecDepth 100000 in
theorem isNaN57_calls (s : ByteArray) (w : World) : Calls Tryz.prog 62 #[.string s] w fun e w' => e = .returned (.bool false) ∧ w = w' := by
  go_enter Tryz.func62, Tryz.ntmps62
  go_wp2
  go_ret
  exact ⟨by simp, rfl⟩
set_option maxRecDepth 100000 in
theorem isNaN58_calls (s : Int) (w : World) : Calls Tryz.prog 63 #[.int .i64 s] w fun e w' => e = .returned (.bool false) ∧ w = w' := by
  go_enter Tryz.func63, Tryz.ntmps63
  go_wp2
  go_ret
  exact ⟨by simp, rfl⟩
set_option maxRecDepth 100000 in
theorem isNaN76_calls (s : Int) (w : World) : Calls Tryz.prog 83 #[.int .i64 s] w fun e w' => e = .returned (.bool false) ∧ w = w' := by
  go_enter Tryz.func83, Tryz.ntmps83
  go_wp2
  go_ret
  exact ⟨by simp, rfl⟩
set_option maxRecDepth 100000 in
theorem Compare42_calls (s u : ByteArray) (w : World) : Calls Tryz.prog 41 #[.string s, .string u] w fun e w' => e = .returned (.int .i64 (cmpS s u)) ∧ w = w' := by
  have N := fun s => isNaN57_calls s w
  unfold cmpS
  cases h1 : Op.bytesLess s.toList u.toList with
  | true =>
    simp only [if_true]
    go_enter Tryz.func41, Tryz.ntmps41
    go_wp2_with fail
    refine (N s).mono ?_
    rintro e w' ⟨rfl, rfl⟩
    go_wp2_with fail
    refine (N u).mono ?_
    rintro e w' ⟨rfl, rfl⟩
    go_wp2
    go_ret
    exact ⟨rfl, rfl⟩
  | false =>
    simp only [Bool.false_eq_true, if_false]
    cases h2 : s.toList == u.toList with
    | true =>
      simp only [if_true]
      go_enter Tryz.func41, Tryz.ntmps41
      go_wp2_with fail
      refine (N s).mono ?_
      rintro e w' ⟨rfl, rfl⟩
      go_wp2_with fail
      refine (N u).mono ?_
      rintro e w' ⟨rfl, rfl⟩
      go_wp2
      go_ret
      exact ⟨rfl, rfl⟩
    | false =>
      simp only [Bool.false_eq_true, if_false]
      go_enter Tryz.func41, Tryz.ntmps41
      go_wp2_with fail
      refine (N s).mono ?_
      rintro e w' ⟨rfl, rfl⟩
      go_wp2_with fail
      refine (N u).mono ?_
      rintro e w' ⟨rfl, rfl⟩
      go_wp2
      go_ret
      exact ⟨rfl, rfl⟩
set_option maxRecDepth 100000 in
theorem Compare43_calls (s u : Int) (w : World) : Calls Tryz.prog 42 #[.int .i64 s, .int .i64 u] w fun e w' => e = .returned (.int .i64 (cmpN s u)) ∧ w = w' := by
  have N := fun s => isNaN58_calls s w
  unfold cmpN
  rcases Int.lt_trichotomy s u with h1 | h1 | h1
  · rw [if_pos h1]
    go_enter Tryz.func42, Tryz.ntmps42
    go_wp2_with fail
    refine (N s).mono ?_
    rintro e w' ⟨rfl, rfl⟩
    go_wp2_with fail
    refine (N u).mono ?_
    rintro e w' ⟨rfl, rfl⟩
    go_wp2
    go_ret
    exact ⟨rfl, rfl⟩
  · subst h1
    rw [if_neg (Int.lt_irrefl _), if_pos rfl]
    go_enter Tryz.func42, Tryz.ntmps42
    go_wp2_with fail
    refine (N s).mono ?_
    rintro e w' ⟨rfl, rfl⟩
    go_wp2_with fail
    refine (N s).mono ?_
    rintro e w' ⟨rfl, rfl⟩
    go_wp2
    go_ret
    exact ⟨rfl, rfl⟩
  · have h2 : ¬ s < u := by omega
    have h3 : ¬ s = u := by omega
    rw [if_neg h2, if_neg h3]
    go_enter Tryz.func42, Tryz.ntmps42
    go_wp2_with fail
    refine (N s).mono ?_
    rintro e w' ⟨rfl, rfl⟩
    go_wp2_with fail
    refine (N u).mono ?_
    rintro e w' ⟨rfl, rfl⟩
    go_wp2
    go_ret
    exact ⟨rfl, rfl⟩
set_option maxRecDepth 100000 in
theorem Compare62_calls (s u : Int) (w : World) : Calls Tryz.prog 69 #[.int .i64 s, .int .i64 u] w fun e w' => e = .returned (.int .i64 (cmpN s u)) ∧ w = w' := by
  have N := fun s => isNaN76_calls s w
  unfold cmpN
  rcases Int.lt_trichotomy s u with h1 | h1 | h1
  · rw [if_pos h1]
    go_enter Tryz.func69, Tryz.ntmps69
    go_wp2_with fail
    refine (N s).mono ?_
    rintro e w' ⟨rfl, rfl⟩
    go_wp2_with fail
    refine (N u).mono ?_
    rintro e w' ⟨rfl, rfl⟩
    go_wp2
    go_ret
    exact ⟨rfl, rfl⟩
  · subst h1
    rw [if_neg (Int.lt_irrefl _), if_pos rfl]
    go_enter Tryz.func69, Tryz.ntmps69
    go_wp2_with fail
    refine (N s).mono ?_
    rintro e w' ⟨rfl, rfl⟩
    go_wp2_with fail
    refine (N s).mono ?_
    rintro e w' ⟨rfl, rfl⟩
    go_wp2
    go_ret
    exact ⟨rfl, rfl⟩
  · have h2 : ¬ s < u := by omega
    have h3 : ¬ s = u := by omega
    rw [if_neg h2, if_neg h3]
    go_enter Tryz.func69, Tryz.ntmps69
    go_wp2_with fail
    refine (N s).mono ?_
    rintro e w' ⟨rfl, rfl⟩
    go_wp2_with fail
    refine (N u).mono ?_
    rintro e w' ⟨rfl, rfl⟩
    go_wp2
    go_ret
    exact ⟨rfl, rfl⟩
/-- the first that is not nought -/
def fst0 : List Int → Int
  | [] => 0
  | x :: xs => if x ≠ 0 then x else fst0 xs
theorem fst0_drop (xs : List Int) (i : Nat) (x : Int) (h : xs[i]? = some x) : fst0 (xs.drop i) = if x ≠ 0 then x else fst0 (xs.drop (i + 1)) := by
  obtain ⟨hi, rfl⟩ := List.getElem?_eq_some_iff.1 h
  rw [List.drop_eq_getElem_cons hi]
  rfl
def OrJ (w : World) (xs : List Int) (v : Value) (wr : World) : Prop := ∃ i : Nat, v = .int .i64 (i : Int) ∧ i ≤ xs.length ∧ wr = w ∧ fst0 xs = fst0 (xs.drop i)
set_option maxHeartbeats 1000000 in
set_option maxRecDepth 100000 in
theorem Or_calls (g c : Nat) (xs : List Int) (w : World) (hl : xs.length ≤ 65536) (h : ∀ j x, xs[j]? = some x → w.cell? ⟨g, j, none⟩ = some (.int .i64 x)) :
    Calls Tryz.prog 40 #[.slice (some ⟨g, 0, none⟩) xs.length c] w fun e w' => e = .returned (.int .i64 (fst0 xs)) ∧ w = w' := by
  go_enter Tryz.func40, Tryz.ntmps40
  go_wp2_with fail
  go_loopw [8] (fun v wr => OrJ w xs v wr) (fun v _ => xs.length - (intOf v).toNat)
  case atStart => exact ⟨0, rfl, Nat.zero_le _, rfl, rfl⟩
  case round =>
    obtain ⟨i, rfl, hi, rfl, he⟩ := hrel
    by_cases hlt : i < xs.length
    · have hx := h i xs[i] (List.getElem?_eq_getElem hlt)
      have hd := fst0_drop xs i xs[i] (List.getElem?_eq_getElem hlt)
      generalize xs[i] = x at hx hd
      clear h
      by_cases hx0 : x = 0
      · subst hx0
        rw [if_neg (by simp)] at hd
        go_wp2
        go_roundw
        case rel => exact ⟨i + 1, by go_num, by omega, rfl, he.trans hd⟩
        case measure => simp [intOf]; omega
      · have hx1 : (x != 0) = true := by simpa using hx0
        rw [if_pos hx0] at hd
        go_wp2
        go_ret
        exact ⟨by rw [he, hd]; rfl, rfl⟩
    · obtain rfl : i = xs.length := by omega
      rw [List.drop_length] at he
      go_wp2
      go_ret
      exact ⟨by rw [he]; rfl, rfl⟩
end Go.Proofs.YteikmnokmcnmcaaGreat
namespace Go.Proofs.YteikmnokmcnmcaaGreat
open Go.RowKit Go.Maps Go.Sort Go.Lib Go.Proofs.YteikmnokmcnmcaaGreatW.PrintWords Go.Proofs.YteikmnokmcnmcaaGreatW.PrintLast Go.Proofs.YteikmnokmcnmcaaGreatW.PrintMore
set_option linter.unusedVariables false
set_option linter.unusedSimpArgs false
set_option linter.unusedSectionVars false
/-! ### the orders of notes and of places -/
def cmpRd (a b : Rd) : Int := fst0 [cmpS a.t b.t, cmpN a.k b.k, cmpS a.f b.f, cmpS a.u b.u]
def cmpPl (a b : Pl) : Int := fst0 [cmpN a.1 b.1, cmpS a.2 b.2]
theorem Or4 (g c : Nat) (A B C D : Int) (w : World) (h0 : w.cell? ⟨g, 0, none⟩ = some (.int .i64 A)) (h1 : w.cell? ⟨g, 1, none⟩ = some (.int .i64 B)) (h2 : w.cell? ⟨g, 2, none⟩ = some (.int .i64 C)) (h3 : w.cell? ⟨g, 3, none⟩ = some (.int .i64 D)) :
    Calls Tryz.prog 40 #[.slice (some ⟨g, 0, none⟩) 4 c] w fun e w' => e = .returned (.int .i64 (fst0 [A, B, C, D])) ∧ w = w' := by
  refine Or_calls g c [A, B, C, D] w (by simp) fun j x hx => ?_
  match j, hx with
  | 0, hx => injection hx with hx; subst hx; exact h0
  | 1, hx => injection hx with hx; subst hx; exact h1
  | 2, hx => injection hx with hx; subst hx; exact h2
  | 3, hx => injection hx with hx; subst hx; exact h3
theorem Or2 (g c : Nat) (A B : Int) (w : World) (h0 : w.cell? ⟨g, 0, none⟩ = some (.int .i64 A)) (h1 : w.cell? ⟨g, 1, none⟩ = some (.int .i64 B)) :
    Calls Tryz.prog 40 #[.slice (some ⟨g, 0, none⟩) 2 c] w fun e w' => e = .returned (.int .i64 (fst0 [A, B])) ∧ w = w' := by
  refine Or_calls g c [A, B] w (by simp) fun j x hx => ?_
  match j, hx with
  | 0, hx => injection hx with hx; subst hx; exact h0
  | 1, hx => injection hx with hx; subst hx; exact h1
set_option maxHeartbeats 4000000 in
set_option maxRecDepth 100000 in
theorem closure40 (x y : Rd) (W : World) : Calls Tryz.prog 39 #[mkR x, mkR y] W fun e w' => e = .returned (.int .i64 (cmpRd x y)) ∧ ∃ q os', w' = grow (W.drewN q) os' := by
  obtain ⟨w1, hw1⟩ : ∃ w1, w1 = (W.alloc (.cells #[.string x.t, .int .i64 x.k, .string x.f, .string x.u] 31)).alloc (.cells #[.string y.t, .int .i64 y.k, .string y.f, .string y.u] 31) := ⟨_, rfl⟩
  have hg : w1 = grow W #[.cells #[.string x.t, .int .i64 x.k, .string x.f, .string x.u] 31, .cells #[.string y.t, .int .i64 y.k, .string y.f, .string y.u] 31] := by rw [hw1, alloc_eq_grow, alloc_eq_grow, grow_grow]; rfl
  obtain ⟨w2, hw2, _, oa, ob⟩ := two_boxes W x y
  rw [← hw1] at hw2
  subst hw2
  have l1 : W.heap.size < w2.heap.size := (Array.getElem?_eq_some_iff.1 oa).1
  have l2 : W.heap.size + 1 < w2.heap.size := (Array.getElem?_eq_some_iff.1 ob).1
  replace hg := Aside0.mk hg
  have oaz := fun o => (((Below.refl _ w2).alloc (Nat.le_refl _) o).block W.heap.size l1).trans oa
  have obz := fun o => (((Below.refl _ w2).alloc (Nat.le_refl _) o).block (W.heap.size + 1) l2).trans ob
  unfold cmpRd
  generalize hA : cmpS x.t y.t = A
  generalize hB : cmpN x.k y.k = B
  generalize hC : cmpS x.f y.f = C
  generalize hD : cmpS x.u y.u = D
  have C1 := fun w => hA ▸ Compare42_calls x.t y.t w
  have C2 := fun w => hB ▸ Compare43_calls x.k y.k w
  have C3 := fun w => hC ▸ Compare42_calls x.f y.f w
  have C4 := fun w => hD ▸ Compare42_calls x.u y.u w
  clear hA hB hC hD
  have OC := fun w h0 h1 h2 h3 => Or4 w2.heap.size 4 A B C D w h0 h1 h2 h3
  generalize fst0 [A, B, C, D] = R at OC ⊢
  go_enter Tryz.func39, Tryz.ntmps39
  go_upto_region 1 with fail
  rw [← hw1]
  clear hw1
  go_region_held3 (fun V => V.cell? ⟨W.heap.size, 0, none⟩ = some (.string x.t) ∧ V.cell? ⟨W.heap.size, 1, none⟩ = some (.int .i64 x.k) ∧ V.cell? ⟨W.heap.size, 2, none⟩ = some (.string x.f) ∧ V.cell? ⟨W.heap.size, 3, none⟩ = some (.string x.u) ∧ V.cell? ⟨W.heap.size + 1, 0, none⟩ = some (.string y.t) ∧ V.cell? ⟨W.heap.size + 1, 1, none⟩ = some (.int .i64 y.k) ∧ V.cell? ⟨W.heap.size + 1, 2, none⟩ = some (.string y.f) ∧ V.cell? ⟨W.heap.size + 1, 3, none⟩ = some (.string y.u))
    (first | exact two_at oa ob | exact two_at (oaz _) (obz _))
    (first | (go_at_call 41; with_reducible refine (C1 _).mono ?_; rintro e w' ⟨rfl, rfl⟩) | (go_at_call 41; with_reducible refine (C3 _).mono ?_; rintro e w' ⟨rfl, rfl⟩) | (go_at_call 41; with_reducible refine (C4 _).mono ?_; rintro e w' ⟨rfl, rfl⟩) | (go_at_call 42; with_reducible refine (C2 _).mono ?_; rintro e w' ⟨rfl, rfl⟩) | (go_at_call 40; refine (OC _ (by simp [go_sem]) (by simp [go_sem]) (by simp [go_sem]) (by simp [go_sem])).mono ?_; rintro e w' ⟨rfl, rfl⟩))
  go_wp2
  go_ret
  refine ⟨rfl, ?_⟩
  rw [hg.out]
  rw [alloc_eq_grow, grow_grow]
  exact ⟨1, _, rfl⟩
set_option maxHeartbeats 4000000 in
set_option maxRecDepth 100000 in
theorem closure52 (x y : Pl) (W : World) : Calls Tryz.prog 55 #[.agg #[.int .i64 x.1, .string x.2], .agg #[.int .i64 y.1, .string y.2]] W fun e w' => e = .returned (.int .i64 (cmpPl x y)) ∧ ∃ q os', w' = grow (W.drewN q) os' := by
  obtain ⟨w1, hw1⟩ : ∃ w1, w1 = (W.alloc (.cells #[.int .i64 x.1, .string x.2] 54)).alloc (.cells #[.int .i64 y.1, .string y.2] 54) := ⟨_, rfl⟩
  have hg : w1 = grow W #[.cells #[.int .i64 x.1, .string x.2] 54, .cells #[.int .i64 y.1, .string y.2] 54] := by rw [hw1, alloc_eq_grow, alloc_eq_grow, grow_grow]; rfl
  have c0 : w1.cell? ⟨W.heap.size, 0, none⟩ = some (.int .i64 x.1) := by rw [hw1]; simp [go_sem]
  have c1 : w1.cell? ⟨W.heap.size, 1, none⟩ = some (.string x.2) := by rw [hw1]; simp [go_sem]
  have d0 : w1.cell? ⟨W.heap.size + 1, 0, none⟩ = some (.int .i64 y.1) := by rw [hw1]; simp [go_sem]
  have d1 : w1.cell? ⟨W.heap.size + 1, 1, none⟩ = some (.string y.2) := by rw [hw1]; simp [go_sem]
  replace hg := Aside0.mk hg
  have e0 := fun o => (((Below.refl _ w1).alloc (Nat.le_refl _) o).cell (World.block_lt_of_cell? _ _ c0)).trans c0
  have e1 := fun o => (((Below.refl _ w1).alloc (Nat.le_refl _) o).cell (World.block_lt_of_cell? _ _ c1)).trans c1
  have f0 := fun o => (((Below.refl _ w1).alloc (Nat.le_refl _) o).cell (World.block_lt_of_cell? _ _ d0)).trans d0
  have f1 := fun o => (((Below.refl _ w1).alloc (Nat.le_refl _) o).cell (World.block_lt_of_cell? _ _ d1)).trans d1
  unfold cmpPl
  generalize hA : cmpN x.1 y.1 = A
  generalize hB : cmpS x.2 y.2 = B
  have C1 := fun w => hA ▸ Compare62_calls x.1 y.1 w
  have C2 := fun w => hB ▸ Compare42_calls x.2 y.2 w
  clear hA hB
  have OC := fun w h0 h1 => Or2 w1.heap.size 2 A B w h0 h1
  generalize fst0 [A, B] = R at OC ⊢
  go_enter Tryz.func55, Tryz.ntmps55
  go_upto_region 1 with fail
  rw [← hw1]
  clear hw1
  go_region_held3 (fun V => V.cell? ⟨W.heap.size, 0, none⟩ = some (.int .i64 x.1) ∧ V.cell? ⟨W.heap.size, 1, none⟩ = some (.string x.2) ∧ V.cell? ⟨W.heap.size + 1, 0, none⟩ = some (.int .i64 y.1) ∧ V.cell? ⟨W.heap.size + 1, 1, none⟩ = some (.string y.2)) (first | exact ⟨c0, c1, d0, d1⟩ | exact ⟨e0 _, e1 _, f0 _, f1 _⟩)
    (first | (go_at_call 69; with_reducible refine (C1 _).mono ?_; rintro e w' ⟨rfl, rfl⟩) | (go_at_call 41; with_reducible refine (C2 _).mono ?_; rintro e w' ⟨rfl, rfl⟩) | (go_at_call 40; refine (OC _ (by simp [go_sem]) (by simp [go_sem])).mono ?_; rintro e w' ⟨rfl, rfl⟩))
  go_wp2
  go_ret
  refine ⟨rfl, ?_⟩
  rw [hg.out]
  rw [alloc_eq_grow, grow_grow]
  exact ⟨1, _, rfl⟩
end Go.Proofs.YteikmnokmcnmcaaGreat
namespace Go.Proofs.YteikmnokmcnmcaaGreat
open Go.RowKit Go.Maps Go.Sort Go.Lib Go.Proofs.YteikmnokmcnmcaaGreatW.PrintWords Go.Proofs.YteikmnokmcnmcaaGreatW.PrintLast Go.Proofs.YteikmnokmcnmcaaGreatW.PrintMore
set_option linter.unusedVariables false
set_option linter.unusedSimpArgs false
set_option linter.unusedSectionVars false
/-! ### orders by a comparison; the sorts -/
structure Ord3 {α : Type} (c : α → α → Int) : Prop where
  refl : ∀ a, c a a = 0
  anti : ∀ a b, c a b < 0 ↔ 0 < c b a
  trans : ∀ a b d, c a b ≤ 0 → c b d ≤ 0 → c a d ≤ 0 ∧ (c a d = 0 → c a b = 0 ∧ c b d = 0)
section
variable {α β : Type} {c c1 c2 : α → α → Int}
theorem Ord3.lex (h1 : Ord3 c1) (h2 : Ord3 c2) : Ord3 (fun a b => if c1 a b ≠ 0 then c1 a b else c2 a b) where
  refl a := by simp [h1.refl, h2.refl]
  anti a b := by
    have := h1.anti a b
    have := h1.anti b a
    have := h2.anti a b
    by_cases e : c1 a b = 0
    · have e2 : c1 b a = 0 := by omega
      simpa [e, e2] using h2.anti a b
    · have e2 : c1 b a ≠ 0 := by omega
      simpa [e, e2] using h1.anti a b
  trans a b d := by
    intro hab hbd
    have key := h1.trans a b d
    have k2 := h2.trans a b d
    by_cases e1 : c1 a b = 0
    · by_cases e2 : c1 b d = 0
      · obtain ⟨k3, k4⟩ := key (by omega) (by omega)
        have k5 : c1 a d = 0 := by
          have := h1.anti a d
          have k6 := h1.trans d b a (by have := h1.anti b d; have := h1.anti d b; omega) (by have := h1.anti a b; have := h1.anti b a; omega)
          omega
        simp only [e1, e2, k5, ne_eq, not_true_eq_false, if_false] at hab hbd ⊢
        exact k2 hab hbd
      · simp only [e1, e2, ne_eq, not_true_eq_false, not_false_eq_true, if_false, if_true] at hab hbd ⊢
        obtain ⟨k3, k4⟩ := key (by omega) hbd
        have k5 : c1 a d ≠ 0 := fun h => e2 (k4 h).2
        simp only [k5, ne_eq, not_false_eq_true, if_true]
        exact ⟨k3, fun h => (by first | exact absurd h k5 | cases h)⟩
    · by_cases e2 : c1 b d = 0
      · simp only [e1, e2, ne_eq, not_true_eq_false, not_false_eq_true, if_false, if_true] at hab hbd ⊢
        obtain ⟨k3, k4⟩ := key hab (by omega)
        have k5 : c1 a d ≠ 0 := fun h => e1 (k4 h).1
        simp only [k5, ne_eq, not_false_eq_true, if_true]
        exact ⟨k3, fun h => (by first | exact absurd h k5 | cases h)⟩
      · simp only [e1, e2, ne_eq, not_false_eq_true, if_true] at hab hbd ⊢
        obtain ⟨k3, k4⟩ := key hab hbd
        have k5 : c1 a d ≠ 0 := fun h => e1 (k4 h).1
        simp only [k5, ne_eq, not_false_eq_true, if_true]
        exact ⟨k3, fun h => (by first | exact absurd h k5 | cases h)⟩
theorem Ord3.by {c : β → β → Int} (h : Ord3 c) (f : α → β) : Ord3 (fun a b => c (f a) (f b)) where
  refl a := h.refl _
  anti a b := h.anti _ _
  trans a b d := h.trans _ _ _
theorem ord_S : Ord3 cmpS where
  refl a := by simp [cmpS, less_irrefl]
  anti a b := by
    have h := gtr_less a.toList b.toList
    unfold cmpS
    cases h1 : Op.bytesLess a.toList b.toList <;> cases h2 : Op.bytesLess b.toList a.toList <;> cases h3 : (a.toList == b.toList) <;> simp_all
    have h4 := gtr_less b.toList a.toList
    simp_all
  trans a b d := by
    intro hab hbd
    have h1 : Op.bytesLess b.toList a.toList = false := by
      have h := gtr_less a.toList b.toList
      unfold cmpS at hab
      cases h1 : Op.bytesLess a.toList b.toList <;> cases h3 : (a.toList == b.toList) <;> simp_all
    have h2 : Op.bytesLess d.toList b.toList = false := by
      have h := gtr_less b.toList d.toList
      unfold cmpS at hbd
      cases h1 : Op.bytesLess b.toList d.toList <;> cases h3 : (b.toList == d.toList) <;> simp_all
    have h3 := le_trans' h1 h2
    have h4 := gtr_less a.toList d.toList
    rw [h3] at h4
    constructor
    · unfold cmpS
      cases h5 : Op.bytesLess a.toList d.toList <;> cases h6 : (a.toList == d.toList) <;> simp_all
    · intro h0
      have h6 : a.toList = d.toList := by
        unfold cmpS at h0
        cases h5 : Op.bytesLess a.toList d.toList <;> cases h6 : (a.toList == d.toList) <;> simp_all
      have e1 := (leq_iff a.toList b.toList).2 h1
      have e2 := (leq_iff b.toList d.toList).2 h2
      rw [← h6] at h2 e2
      have e3 : a.toList = b.toList := by
        rcases e1 with e1 | e1
        · rw [h2] at e1; cases e1
        · exact e1
      have e4 : b.toList = d.toList := by rw [← e3, h6]
      unfold cmpS
      simp [e3, e4, less_irrefl]
theorem ord_N : Ord3 cmpN where
  refl a := by simp [cmpN]
  anti a b := by unfold cmpN; split <;> split <;> (try split) <;> (try split) <;> omega
  trans a b d := by
    unfold cmpN
    intro h1 h2
    constructor
    · split <;> (try split) <;> (try omega)
    · intro h3
      split at h1 <;> split at h2 <;> (try split at h1) <;> (try split at h2) <;> (try split at h3) <;> (try split at h3) <;> first | omega | (constructor <;> (split <;> (try split) <;> omega))
theorem cmpS_eq {a b : ByteArray} (h : cmpS a b = 0) : a = b := by
  unfold cmpS at h
  split at h
  · omega
  · split at h
    · rename_i h2; exact toList_inj (by simpa using h2)
    · omega
theorem cmpN_eq {a b : Int} (h : cmpN a b = 0) : a = b := by
  unfold cmpN at h
  split at h
  · omega
  · split at h
    · assumption
    · omega
theorem cmpRd_lex (a b : Rd) : cmpRd a b = (if cmpS a.t b.t ≠ 0 then cmpS a.t b.t else if cmpN a.k b.k ≠ 0 then cmpN a.k b.k else if cmpS a.f b.f ≠ 0 then cmpS a.f b.f else cmpS a.u b.u) := by
  unfold cmpRd
  simp only [fst0]
  by_cases h : cmpS a.u b.u = 0 <;> simp [h]
theorem cmpPl_lex (a b : Pl) : cmpPl a b = (if cmpN a.1 b.1 ≠ 0 then cmpN a.1 b.1 else cmpS a.2 b.2) := by
  unfold cmpPl
  simp only [fst0]
  by_cases h : cmpS a.2 b.2 = 0 <;> simp [h]
theorem ord_Rd : Ord3 cmpRd := by
  have e : cmpRd = fun a b => (if cmpS a.t b.t ≠ 0 then cmpS a.t b.t else if cmpN a.k b.k ≠ 0 then cmpN a.k b.k else if cmpS a.f b.f ≠ 0 then cmpS a.f b.f else cmpS a.u b.u) := by
    funext a b; exact cmpRd_lex a b
  rw [e]
  exact (ord_S.by Rd.t).lex ((ord_N.by Rd.k).lex ((ord_S.by Rd.f).lex (ord_S.by Rd.u)))
theorem ord_Pl : Ord3 cmpPl := by
  have e : cmpPl = fun a b => (if cmpN a.1 b.1 ≠ 0 then cmpN a.1 b.1 else cmpS a.2 b.2) := by
    funext a b; exact cmpPl_lex a b
  rw [e]
  exact (ord_N.by Prod.fst).lex (ord_S.by Prod.snd)
theorem cmpRd_eq {a b : Rd} (h : cmpRd a b = 0) : a = b := by
  rw [cmpRd_lex] at h
  by_cases h1 : cmpS a.t b.t = 0
  · by_cases h2 : cmpN a.k b.k = 0
    · by_cases h3 : cmpS a.f b.f = 0
      · simp only [h1, h2, h3, ne_eq, not_true_eq_false, if_false] at h
        have e1 := cmpS_eq h1
        have e2 := cmpN_eq h2
        have e3 := cmpS_eq h3
        have e4 := cmpS_eq h
        cases a; cases b; simp_all
      · simp only [h1, h2, h3, ne_eq, not_true_eq_false, not_false_eq_true, if_false, if_true] at h
    · simp only [h1, h2, ne_eq, not_true_eq_false, not_false_eq_true, if_false, if_true] at h
  · simp only [h1, ne_eq, not_false_eq_true, if_true] at h
theorem cmpPl_eq {a b : Pl} (h : cmpPl a b = 0) : a = b := by
  rw [cmpPl_lex] at h
  by_cases h1 : cmpN a.1 b.1 = 0
  · simp only [h1, ne_eq, not_true_eq_false, if_false] at h
    exact Prod.ext (cmpN_eq h1) (cmpS_eq h)
  · simp only [h1, ne_eq, not_false_eq_true, if_true] at h
end
end Go.Proofs.YteikmnokmcnmcaaGreat
namespace Go.Proofs.YteikmnokmcnmcaaGreat
open Go.RowKit Go.Maps Go.Sort Go.Lib Go.Proofs.YteikmnokmcnmcaaGreatW.PrintWords Go.Proofs.YteikmnokmcnmcaaGreatW.PrintLast Go.Proofs.YteikmnokmcnmcaaGreatW.PrintMore
set_option linter.unusedVariables false
set_option linter.unusedSimpArgs false
set_option linter.unusedSectionVars false
/-! ### the sorts of notes and of places -/
section
variable {α : Type} {c : α → α → Int}
theorem Ord3.swo (h : Ord3 c) : SWO (ltOf c) where
  irrefl x := by unfold ltOf; rw [h.refl]; rfl
  trans x y z h1 h2 := by
    unfold ltOf at *
    rw [decide_eq_true_iff] at *
    obtain ⟨k1, k2⟩ := h.trans x y z (by omega) (by omega)
    by_cases e : c x z = 0
    · have := (k2 e).1; omega
    · omega
  ntrans x y z h1 h2 := by
    unfold ltOf at *
    rw [decide_eq_false_iff_not] at *
    have a1 := h.anti y x
    have a2 := h.anti x y
    have a3 := h.anti z y
    have a4 := h.anti y z
    have a5 := h.anti z x
    have a6 := h.anti x z
    obtain ⟨k1, k2⟩ := h.trans z y x (by omega) (by omega)
    omega
theorem Ord3.tot (h : Ord3 c) (he : ∀ a b, c a b = 0 → a = b) (x y : α) (h1 : ltOf c x y = false) (h2 : ltOf c y x = false) : x = y := by
  unfold ltOf at *
  rw [decide_eq_false_iff_not] at *
  have := h.anti x y
  have := h.anti y x
  exact he _ _ (by omega)
/-- sorted by a comparison -/
def srtC (c : α → α → Int) (xs : List α) : List α := xs.mergeSort fun x y => !(ltOf c) y x
theorem srtC_length (xs : List α) : (srtC c xs).length = xs.length := by simp [srtC]
theorem srtC_perm (xs : List α) : (srtC c xs).Perm xs := List.mergeSort_perm _ _
theorem srtC_rising (h : Ord3 c) (xs : List α) : (srtC c xs).Pairwise (fun x y => c x y ≤ 0) := by
  have h1 := List.pairwise_mergeSort (le := fun x y => !(ltOf c) y x) (fun a b d => by
      simp only [Bool.not_eq_true']
      intro k1 k2
      exact h.swo.ntrans _ _ _ k2 k1) (fun a b => by
      unfold ltOf
      simp only [Bool.or_eq_true, Bool.not_eq_true', decide_eq_false_iff_not]
      have := h.anti a b
      omega) xs
  refine h1.imp fun {a b} hab => ?_
  unfold ltOf at hab
  simp only [Bool.not_eq_true', decide_eq_false_iff_not] at hab
  have := h.anti b a
  have := h.anti a b
  omega
end
def cellsP (q : Pl) : List Value := [.int .i64 q.1, .string q.2]
theorem cellsP_one (x : Pl) : ∀ u ∈ cellsP x, u.oneCell' = true := fun u hu => by
  simp [cellsP] at hu
  rcases hu with rfl | rfl <;> rfl
def dR : Kd Rd := Kd.flat cellsR 4 (fun _ => rfl) cellsR_one
def dP : Kd Pl := Kd.flat cellsP 2 (fun _ => rfl) cellsP_one
theorem info62 : (Tryz.prog.info? 54).map (fun i => (i.zero, i.size, i.bytes)) = some (some (.agg #[.int .i64 0, .string ByteArray.empty]), 2, 24) := by kernel_rfl
instance : Inhabited Rd := ⟨⟨⟨#[]⟩, 0, ⟨#[]⟩, ⟨#[]⟩⟩⟩
set_option maxRecDepth 100000 in
theorem sortR_calls (W : World) (base : Nat) (ok : Nat → Prop) (v : Value) (xs : List Rd) (h : dR.R 31 W base ok v xs) (hl : xs.length < 4611686018427387904) :
    Calls Tryz.prog 38 #[v, .func (.func 39) #[] #[]] W fun e w' => e = .returned (.tuple #[]) ∧ dR.R 31 w' base ok v (srtC cmpRd xs) ∧ W.grownBy w' v.ownBlock := by
  obtain ⟨inner, ho⟩ := Kd.R_own h
  rcases ho.2 with ⟨rfl, hn⟩ | ⟨g, cap, cur, rfl, hb, hh, _⟩
  · obtain rfl : xs = [] := List.eq_nil_of_length_eq_zero hn
    refine (AnyF.slices_SortFunc_none Tryz.sortR none 0 _ W).mono ?_
    rintro e w' ⟨rfl, rfl⟩
    exact ⟨rfl, by rw [show srtC cmpRd [] = [] by simp [srtC]]; exact Kd.R_nil _ _ _ _ _, ⟨rfl, rfl, rfl, Nat.le_refl _, fun _ _ _ => rfl⟩⟩
  · have eg : ∀ args w, (callFunc 39 args).run Tryz.prog w = .ok (.enter 39 args) w := enters_of Tryz.func39 (by kernel_rfl) rfl
    have hlt : g < W.heap.size := (Array.getElem?_eq_some_iff.1 hh).1
    have hc : CmpLays Tryz.prog 39 #[] cellsR 4 cmpRd g 0 xs.toArray.size W := fun m os dk _ x y => closure40 x y _
    have hcon := AnyQ.slices_SortFunc_total Tryz.sortR 4 Tryz.isAgg31 Tryz.sizeOf31 cellsR (fun _ => rfl) cellsR_one cmpRd ord_Rd.swo 39 #[] g 0 cap xs.toArray W eg hc (flat_holds h) hlt (by simpa using hl) (ord_Rd.tot fun _ _ => cmpRd_eq)
    rw [show xs.toArray.size = xs.length from rfl] at hcon
    refine Calls.mono hcon ?_
    rintro e w' ⟨rfl, n, os, rfl⟩
    obtain ⟨h2, h3⟩ := flat_sorted h (srtC_length (c := cmpRd) xs) n os
    rw [srtC_length] at h2
    exact ⟨rfl, h2, h3⟩
set_option maxRecDepth 100000 in
theorem sortP_calls (W : World) (base : Nat) (ok : Nat → Prop) (v : Value) (xs : List Pl) (h : dP.R 54 W base ok v xs) (hl : xs.length < 4611686018427387904) :
    Calls Tryz.prog 67 #[v, .func (.func 55) #[] #[]] W fun e w' => e = .returned (.tuple #[]) ∧ dP.R 54 w' base ok v (srtC cmpPl xs) ∧ W.grownBy w' v.ownBlock := by
  obtain ⟨inner, ho⟩ := Kd.R_own h
  rcases ho.2 with ⟨rfl, hn⟩ | ⟨g, cap, cur, rfl, hb, hh, _⟩
  · obtain rfl : xs = [] := List.eq_nil_of_length_eq_zero hn
    refine (AnyF.slices_SortFunc_none Tryz.sortP none 0 _ W).mono ?_
    rintro e w' ⟨rfl, rfl⟩
    exact ⟨rfl, by rw [show srtC cmpPl [] = [] by simp [srtC]]; exact Kd.R_nil _ _ _ _ _, ⟨rfl, rfl, rfl, Nat.le_refl _, fun _ _ _ => rfl⟩⟩
  · have eg : ∀ args w, (callFunc 55 args).run Tryz.prog w = .ok (.enter 55 args) w := enters_of Tryz.func55 (by kernel_rfl) rfl
    have hlt : g < W.heap.size := (Array.getElem?_eq_some_iff.1 hh).1
    have hc : CmpLays Tryz.prog 55 #[] cellsP 2 cmpPl g 0 xs.toArray.size W := fun m os dk _ x y => closure52 x y _
    have hcon := AnyQ.slices_SortFunc_total Tryz.sortP 2 Tryz.isAgg54 Tryz.sizeOf54 cellsP (fun _ => rfl) cellsP_one cmpPl ord_Pl.swo 55 #[] g 0 cap xs.toArray W eg hc (flat_holds h) hlt (by simpa using hl) (ord_Pl.tot fun _ _ => cmpPl_eq)
    rw [show xs.toArray.size = xs.length from rfl] at hcon
    refine Calls.mono hcon ?_
    rintro e w' ⟨rfl, n, os, rfl⟩
    obtain ⟨h2, h3⟩ := flat_sorted h (srtC_length (c := cmpPl) xs) n os
    rw [srtC_length] at h2
    exact ⟨rfl, h2, h3⟩
end Go.Proofs.YteikmnokmcnmcaaGreat
