import Derived.Test.YteikmnokmcnmcaaSR
namespace Go.Proofs.Yteikmnokmcnmcaa
open Go.ChangeShapes Go.WideShapes Go.ChangeAt Go.RowKit Go.Proofs.YteikmnokmcnmcaaW.PrintWords Go.Proofs.YteikmnokmcnmcaaW.PrintLast Go.Proofs.YteikmnokmcnmcaaW.PrintMore
set_option linter.unusedVariables false
set_option linter.unusedSimpArgs false
set_option linter.unusedSectionVars false
/-! ### operations as they came; the functions of no manager -/
structure Sop where
  kind : Int
  txn : Int
  x : Rd
  key : ByteArray
structure Sop.OK (o : Sop) : Prop where
  kind : (Lit.int .i64 o.kind).wf = true
  txn : (Lit.int .i64 o.txn).wf = true
  x : o.x.OK
  key : o.key.size ≤ reachBytes
def encO (o : Sop) : List Value := [.int .i64 o.kind, .int .i64 o.txn, .string o.x.t, .int .i64 o.x.k, .string o.x.f, .string o.x.u, .string o.key]
abbrev dOp : Kd Sop := Kd.flat encO 7 (fun _ => rfl) (fun o u hu => by simp only [encO, List.mem_cons, List.not_mem_nil, or_false] at hu; rcases hu with rfl | rfl | rfl | rfl | rfl | rfl | rfl <;> rfl)
abbrev mkO (o : Sop) : Value := .agg #[.int .i64 o.kind, .int .i64 o.txn, .string o.x.t, .int .i64 o.x.k, .string o.x.f, .string o.x.u, .string o.key]
section
variable {H : Type} {enc : TypeId × Value → H} {w : World} {base : Nat} {spare : Nat → Bool} {held : Bool}
set_option maxRecDepth 100000 in
theorem opens_op : Opens enc Try.prog w base spare held 41 dOp Sop.OK := by
  intro fuel cs y h hl
  obtain ⟨hc, hf⟩ := opens_fields Try.underlying41 h hl
  have hc2 : cs.length = 7 := hc.trans (by kernel_rfl)
  match cs, hc2 with
  | [v0, v1, v2, v3, v4, v5, v6], _ =>
    have f0 : FldAt enc Try.prog w base spare held [v0, v1, v2, v3, v4, v5, v6] 3 0 := hf 0 _ rfl
    obtain ⟨n0, y0, t0, g0⟩ := f0
    have f1 : FldAt enc Try.prog w base spare held [v0, v1, v2, v3, v4, v5, v6] 2 1 := hf 1 _ rfl
    obtain ⟨n1, y1, t1, g1⟩ := f1
    have f2 : FldAt enc Try.prog w base spare held [v0, v1, v2, v3, v4, v5, v6] 23 2 := hf 2 _ rfl
    obtain ⟨n2, y2, t2, g2⟩ := f2
    have f3 : FldAt enc Try.prog w base spare held [v0, v1, v2, v3, v4, v5, v6] 9 6 := hf 3 _ rfl
    obtain ⟨n3, y3, t3, g3⟩ := f3
    have k3 : Try.prog.cellsOf 3 = 1 := by kernel_rfl
    have k2 : Try.prog.cellsOf 2 = 1 := by kernel_rfl
    have k23 : Try.prog.cellsOf 23 = 4 := by kernel_rfl
    simp only [k3, k2, k23, cells9, List.drop_zero, List.drop_succ_cons, List.take_succ_cons, List.take_zero] at t0 t1 t2 t3
    obtain ⟨a0, e0, w0⟩ := opens_int (k := .i64) Try.underlying3 _ _ _ t0 g0
    obtain ⟨a1, e1, w1⟩ := opens_int (k := .i64) Try.underlying2 _ _ _ t1 g1
    obtain ⟨x, e2, w2⟩ := opens_rd t2 g2
    obtain ⟨a3, e3, w3⟩ := opens_string Try.underlying9 _ _ _ t3 g3
    cases e0; cases e1; cases e2; cases e3
    exact ⟨⟨a0, a1, x, a3⟩, rfl, ⟨w0, w1, w2, w3⟩⟩
set_option maxRecDepth 100000 in
theorem open_opp {ts : List TypeId} {ds : List (DataW H)} (hsz : (DataW.weightsEach Try.prog ts ds).all (· ≤ reachBytes) = true) {j : Nat} {r : Reach} {b0 : Nat} {v : Value} {d : DataW H} {p : List MemPlace} (ht : ts[j]? = some 41) (hd : ds[j]? = some d)
    (hv : Value.okWide Try.prog w r b0 41 v) (h : DataW.Trod enc Try.prog w base spare held 41 v d p) : ∃ x : Sop, v = mkO x ∧ x.OK := by
  obtain ⟨ca, rfl, hs⟩ := okWide_struct Try.underlying41 hv
  obtain ⟨fuel, hf⟩ := h
  obtain ⟨x, e, hx⟩ := opens_op _ _ _ hf (light_of hsz ht hd)
  refine ⟨x, ?_, hx⟩
  have e' : ca.toList = encO x := e
  rw [← Array.toArray_toList (xs := ca), e']
  rfl
end
set_option maxRecDepth 100000 in
theorem Note_none (v : Value) (t : Int) (x : Rd) (w : World) (h : Mr0 w v) : Calls Try.prog 12 #[v, .int .i64 t, .agg #[.string x.t, .int .i64 x.k, .string x.f, .string x.u]] w fun e w' => e = .returned (.int .i64 2) ∧ Below w.heap.size w w' := by
  obtain ⟨w1, hw1⟩ : ∃ w1, w1 = w.alloc (.cells #[.string x.t, .int .i64 x.k, .string x.f, .string x.u] 23) := ⟨_, rfl⟩
  have B1 : Below w.heap.size w w1 := by rw [hw1]; exact boxed w x
  have N := none0_calls v w1 (by
    rcases h with h | ⟨p, h1, h2⟩
    · exact .inl h
    · exact .inr ⟨p, h1, (B1.cell (World.block_lt_of_cell? _ _ h2)).trans h2⟩)
  go_enter Try.func12, Try.ntmps12
  go_wp2_with fail
  rw [← hw1]
  clear hw1
  refine N.mono ?_
  rintro e w' ⟨rfl, rfl⟩
  go_wp2
  go_ret
  exact ⟨rfl, B1⟩
set_option maxRecDepth 100000 in
theorem Readers_none (v : Value) (tab key : ByteArray) (w : World) (h : Mr0 w v) : Calls Try.prog 13 #[v, .string tab, .string key] w fun e w' => e = .returned (.slice none 0 0) ∧ w = w' := by
  have N := none0_calls v w h
  go_enter Try.func13, Try.ntmps13
  go_wp2_with fail
  refine N.mono ?_
  rintro e w' ⟨rfl, rfl⟩
  go_wp2
  go_ret
  exact ⟨rfl, rfl⟩
set_option maxRecDepth 100000 in
theorem Of_none (v : Value) (t : Int) (w : World) (h : Mr0 w v) : Calls Try.prog 15 #[v, .int .i64 t] w fun e w' => e = .returned (.slice none 0 0) ∧ w = w' := by
  have N := none0_calls v w h
  go_enter Try.func15, Try.ntmps15
  go_wp2_with fail
  refine N.mono ?_
  rintro e w' ⟨rfl, rfl⟩
  go_wp2
  go_ret
  exact ⟨rfl, rfl⟩
set_option maxRecDepth 100000 in
theorem Txns_none (v : Value) (w : World) (h : Mr0 w v) : Calls Try.prog 22 #[v] w fun e w' => e = .returned (.slice none 0 0) ∧ w = w' := by
  have N := none0_calls v w h
  go_enter Try.func22, Try.ntmps22
  go_wp2_with fail
  refine N.mono ?_
  rintro e w' ⟨rfl, rfl⟩
  go_wp2
  go_ret
  exact ⟨rfl, rfl⟩
set_option maxRecDepth 100000 in
theorem Len_none (v : Value) (w : World) (h : Mr0 w v) : Calls Try.prog 17 #[v] w fun e w' => e = .returned (.int .i64 0) ∧ w = w' := by
  have N := none0_calls v w h
  go_enter Try.func17, Try.ntmps17
  go_wp2_with fail
  refine N.mono ?_
  rintro e w' ⟨rfl, rfl⟩
  go_wp2
  go_ret
  exact ⟨rfl, rfl⟩
theorem Mr0.kept {w w' : World} {v : Value} (h : Mr0 w v) (B : Below w.heap.size w w') : Mr0 w' v := by
  rcases h with h | ⟨p, h1, h2⟩
  · exact .inl h
  · exact .inr ⟨p, h1, (B.cell (World.block_lt_of_cell? _ _ h2)).trans h2⟩
set_option maxRecDepth 100000 in
theorem Drop_none (v : Value) (t : Int) (w : World) (h : Mr0 w v) : Calls Try.prog 18 #[v, .int .i64 t] w fun e w' => e = .returned (.int .i64 2) ∧ Below w.heap.size w w' := by
  obtain ⟨w1, hw1⟩ : ∃ w1, w1 = (w.alloc (.cells #[v] 26)).alloc (.cells #[.int .i64 t] 2) := ⟨_, rfl⟩
  have B1 : Below w.heap.size w w1 := by rw [hw1]; exact below_alloc ((Below.refl _ w).alloc (Nat.le_refl _) _) _
  have N := none0_calls v w1 (h.kept B1)
  have o1 : w1.heap[w.heap.size]? = some (.cells #[v] 26 (0, 0)) := by rw [hw1]; exact (Below.heap_alloc _ _ _ (by simp)).trans (heap_alloc_new w _)
  have c1 := cell_of_row w1 _ 0 _ 26 (0, 0) o1
  clear o1
  rcases h with rfl | ⟨p, rfl, hp⟩
  all_goals
    go_enter Try.func18, Try.ntmps18
    go_upto_region 1 with (fail)
    rw [← hw1]
    clear hw1
    go_wp2_with fail
    refine N.mono ?_
    rintro e w' ⟨rfl, rfl⟩
    go_wp2
    go_ret
    exact ⟨rfl, B1⟩
end Go.Proofs.Yteikmnokmcnmcaa
