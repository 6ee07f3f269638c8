import Derived.Test.YteikmnokmcnmcaaSN
namespace Go.Proofs.Yteikmnokmcnmcaa
open Go.ChangeShapes Go.WideShapes Go.ChangeAt Go.RowKit Go.Proofs.YteikmnokmcnmcaaW.PrintWords Go.Proofs.YteikmnokmcnmcaaW.PrintLast Go.Proofs.YteikmnokmcnmcaaW.PrintMore
set_option linter.unusedVariables false
set_option linter.unusedSimpArgs false
set_option linter.unusedSectionVars false
/-! ### a note as it came; SireadCovers -/
section
variable {H : Type} {enc : TypeId × Value → H} {w : World} {base : Nat} {spare : Nat → Bool} {held : Bool}
set_option maxRecDepth 100000 in
theorem opens_rd {fuel : Nat} {cs : List Value} {y : DataW H × List MemPlace} (h : DataW.trod enc Try.prog w base spare held fuel 23 cs = some y) (hl : Light Try.prog 23 y.1) : ∃ a : Rd, cs = [.string a.t, .int .i64 a.k, .string a.f, .string a.u] ∧ a.OK := by
  obtain ⟨hc, hf⟩ := opens_fields Try.underlying23 h hl
  have hc2 : cs.length = 4 := hc.trans (by kernel_rfl)
  match cs, hc2 with
  | [v0, v1, v2, v3], _ =>
    have f0 : FldAt enc Try.prog w base spare held [v0, v1, v2, v3] 9 0 := hf 0 _ rfl
    obtain ⟨n0, y0, t0, g0⟩ := f0
    have f1 : FldAt enc Try.prog w base spare held [v0, v1, v2, v3] 3 1 := hf 1 _ rfl
    obtain ⟨n1, y1, t1, g1⟩ := f1
    have f2 : FldAt enc Try.prog w base spare held [v0, v1, v2, v3] 9 2 := hf 2 _ rfl
    obtain ⟨n2, y2, t2, g2⟩ := f2
    have f3 : FldAt enc Try.prog w base spare held [v0, v1, v2, v3] 9 3 := hf 3 _ rfl
    obtain ⟨n3, y3, t3, g3⟩ := f3
    have k3 : Try.prog.cellsOf 3 = 1 := by kernel_rfl
    simp only [k3, cells9, List.drop_zero, List.drop_succ_cons, List.take_succ_cons, List.take_zero] at t0 t1 t2 t3
    obtain ⟨a0, e0, w0⟩ := opens_string Try.underlying9 _ _ _ t0 g0
    obtain ⟨a1, e1, w1⟩ := opens_int (k := .i64) Try.underlying3 _ _ _ t1 g1
    obtain ⟨a2, e2, w2⟩ := opens_string Try.underlying9 _ _ _ t2 g2
    obtain ⟨a3, e3, w3⟩ := opens_string Try.underlying9 _ _ _ t3 g3
    cases e0; cases e1; cases e2; cases e3
    exact ⟨⟨a0, a1, a2, a3⟩, rfl, ⟨w0, w1, w2, w3⟩⟩
set_option maxRecDepth 100000 in
theorem open_rdp {ts : List TypeId} {ds : List (DataW H)} (hsz : (DataW.weightsEach Try.prog ts ds).all (· ≤ reachBytes) = true) {j : Nat} {r : Reach} {b0 : Nat} {v : Value} {d : DataW H} {p : List MemPlace} (ht : ts[j]? = some 23) (hd : ds[j]? = some d)
    (hv : Value.okWide Try.prog w r b0 23 v) (h : DataW.Trod enc Try.prog w base spare held 23 v d p) : ∃ x : Rd, v = mkR x ∧ x.OK := by
  obtain ⟨ca, rfl, hs⟩ := okWide_struct Try.underlying23 hv
  obtain ⟨fuel, hf⟩ := h
  obtain ⟨x, e, hx⟩ := opens_rd hf (light_of hsz ht hd)
  refine ⟨x, ?_, hx⟩
  have e' : ca.toList = [.string x.t, .int .i64 x.k, .string x.f, .string x.u] := e
  rw [← Array.toArray_toList (xs := ca), e']
end
theorem two_at {V : World} {g h : Nat} {a b : Rd} (oa : V.heap[g]? = some (boxR a)) (ob : V.heap[h]? = some (boxR b)) :
    V.cell? ⟨g, 0, none⟩ = some (.string a.t) ∧ V.cell? ⟨g, 1, none⟩ = some (.int .i64 a.k) ∧ V.cell? ⟨g, 2, none⟩ = some (.string a.f) ∧ V.cell? ⟨g, 3, none⟩ = some (.string a.u) ∧ V.cell? ⟨h, 0, none⟩ = some (.string b.t) ∧ V.cell? ⟨h, 1, none⟩ = some (.int .i64 b.k) ∧ V.cell? ⟨h, 2, none⟩ = some (.string b.f) ∧ V.cell? ⟨h, 3, none⟩ = some (.string b.u) := by
  obtain ⟨a0, a1, a2, a3⟩ := rd_cells oa
  obtain ⟨b0, b1, b2, b3⟩ := rd_cells ob
  exact ⟨a0, a1, a2, a3, b0, b1, b2, b3⟩
set_option maxHeartbeats 4000000 in
set_option maxRecDepth 100000 in
theorem SireadCovers_calls (a b : Rd) (w : World) (ha : a.OK) (hb : b.OK) : Calls Try.prog 3 #[mkR a, mkR b] w fun e w' => e = .returned (.bool true) ∧ Below w.heap.size w w' := by
  obtain ⟨w2, hw2, B2, oa, ob⟩ := two_boxes w a b
  have LV := fun W => live_calls W
  have C1 := fun W => Covers_calls a b ha hb W
  have C2 := fun W => RCovers_calls a b ha hb W
  generalize covB a b = cv at C1 C2 ⊢
  go_enter Try.func3, Try.ntmps3
  go_upto_region 1 with (fail)
  rw [← hw2]
  clear hw2
  go_region_held3 (fun V => V.cell? ⟨w.heap.size, 0, none⟩ = some (.string a.t) ∧ V.cell? ⟨w.heap.size, 1, none⟩ = some (.int .i64 a.k) ∧ V.cell? ⟨w.heap.size, 2, none⟩ = some (.string a.f) ∧ V.cell? ⟨w.heap.size, 3, none⟩ = some (.string a.u) ∧ V.cell? ⟨w.heap.size + 1, 0, none⟩ = some (.string b.t) ∧ V.cell? ⟨w.heap.size + 1, 1, none⟩ = some (.int .i64 b.k) ∧ V.cell? ⟨w.heap.size + 1, 2, none⟩ = some (.string b.f) ∧ V.cell? ⟨w.heap.size + 1, 3, none⟩ = some (.string b.u))
    (first | exact two_at oa ob | exact two_at oa3 ob3 | exact two_at oa4 ob4 | exact two_at oa5 ob5)
    (first
      | (go_at_call 8; refine (LV _).mono ?_; rintro e w3 ⟨rfl, D3⟩; have oa3 := (D3.block w.heap.size (Array.getElem?_eq_some_iff.1 oa).1).trans oa; have ob3 := (D3.block (w.heap.size + 1) (Array.getElem?_eq_some_iff.1 ob).1).trans ob)
      | (go_at_call 9; refine (C1 _).mono ?_; rintro e w4 ⟨rfl, D4⟩; have oa4 := (D4.block w.heap.size (Array.getElem?_eq_some_iff.1 oa3).1).trans oa3; have ob4 := (D4.block (w.heap.size + 1) (Array.getElem?_eq_some_iff.1 ob3).1).trans ob3)
      | (go_at_call 10; refine (C2 _).mono ?_; rintro e w5 ⟨rfl, D5⟩; have oa5 := (D5.block w.heap.size (by first | exact (Array.getElem?_eq_some_iff.1 oa4).1 | exact (Array.getElem?_eq_some_iff.1 oa3).1)).trans (by first | exact oa4 | exact oa3); have ob5 := (D5.block (w.heap.size + 1) (by first | exact (Array.getElem?_eq_some_iff.1 ob4).1 | exact (Array.getElem?_eq_some_iff.1 ob3).1)).trans (by first | exact ob4 | exact ob3)))
  go_wp2
  go_ret
  refine ⟨rfl, ?_⟩
  have E3 := below_then (B2.grown (drewNG w2 _) B2.size (by simp)) (B2.grown (drewNG w2 _) B2.size (by simp)).size D3
  have E4 := below_then E3 E3.size D4
  exact below_then E4 E4.size D5
end Go.Proofs.Yteikmnokmcnmcaa
