import Derived.Test.YthaoedfalkebbaaGreatMA
import Derived.Shelf.SlSorted.Search
import Derived.Lib.SlKept
namespace Go.Proofs.YthaoedfalkebbaaGreat
open Go.RowKit Go.Maps Go.Sort Go.Lib Go.Proofs.YthaoedfalkebbaaGreatW.PrintWords Go.Proofs.YthaoedfalkebbaaGreatW.PrintLast Go.Proofs.YthaoedfalkebbaaGreatW.PrintMore
set_option linter.unusedVariables false
set_option linter.unusedSimpArgs false
set_option linter.unusedSectionVars false
/-- a note of a read -/
structure Rd where
  t : ByteArray
  k : Int
  f : ByteArray
  u : ByteArray
def Rd.cells (x : Rd) : List Value := [.string x.t, .int .i64 x.k, .string x.f, .string x.u]
structure Rd.OK (x : Rd) : Prop where
  t : x.t.size ≤ reachBytes
  k : (Lit.int .i64 x.k).wf = true
  f : x.f.size ≤ reachBytes
  u : x.u.size ≤ reachBytes
def mayB (x : Rd) : Bool := if x.k = 3 then x.f.toList.isEmpty && x.u.toList.isEmpty else if x.k = 1 then x.u.toList.isEmpty else if x.k = 2 then x.u.toList.isEmpty || Op.bytesLess x.f.toList x.u.toList else false
theorem gtr_less (a b : List UInt8) : (!Op.bytesLess a b && !a == b) = Op.bytesLess b a := by
  rw [bytesLess_eq, bytesLess_eq, Bool.eq_iff_iff]
  simp only [Bool.and_eq_true, Bool.not_eq_true', decide_eq_false_iff_not, decide_eq_true_eq, beq_eq_false_iff_ne]
  constructor
  · rintro ⟨h1, h2⟩
    rcases Classical.em (b < a) with h3 | h3
    · exact h3
    · exact absurd (List.le_antisymm (List.not_lt.1 h3) (List.not_lt.1 h1)) h2
  · intro h
    refine ⟨fun h2 => List.lt_irrefl _ (List.lt_trans h h2), ?_⟩
    rintro rfl
    exact List.lt_irrefl _ h
theorem add_zero_byte (f : ByteArray) (hf : f.size ≤ reachBytes) (W : World) : (Op.stringOp .add f ⟨#[0]⟩).run Tryz.prog W = .ok (.string (f ++ ⟨#[0]⟩)) W := by
  refine run_string_add_sum W f ⟨#[0]⟩ ?_
  have : reachBytes ≤ 140737488355328 := by decide
  have h2 : (⟨#[0]⟩ : ByteArray).size = 1 := rfl
  omega
set_option maxHeartbeats 1000000 in
set_option maxRecDepth 100000 in
theorem may_calls (x : Rd) (w : World) : Calls Tryz.prog 108 #[.agg #[.string x.t, .int .i64 x.k, .string x.f, .string x.u]] w fun e w' => e = .returned (.bool (mayB x)) ∧ Below w.heap.size w w' := by
  have hB : Below w.heap.size w (w.alloc (.cells #[.string x.t, .int .i64 x.k, .string x.f, .string x.u] 108)) := (Below.refl _ w).alloc (Nat.le_refl _) _
  obtain ⟨t, k, f, u⟩ := x
  dsimp only at hB ⊢
  by_cases h3 : k = 3
  · subst h3
    go_enter Tryz.func108, Tryz.ntmps108
    go_wp2
    all_goals
      go_ret
      exact ⟨by unfold mayB; simp_all [gtr_less], hB⟩
  by_cases h1 : k = 1
  · subst h1
    go_enter Tryz.func108, Tryz.ntmps108
    go_wp2
    all_goals
      go_ret
      exact ⟨by unfold mayB; simp_all [gtr_less], hB⟩
  by_cases h2 : k = 2
  · subst h2
    go_enter Tryz.func108, Tryz.ntmps108
    go_wp2
    all_goals
      go_ret
      exact ⟨by unfold mayB; simp_all [gtr_less], hB⟩
  have e3 : (k == 3) = false := by simpa using h3
  have e1 : (k == 1) = false := by simpa using h1
  have e2 : (k == 2) = false := by simpa using h2
  go_enter Tryz.func108, Tryz.ntmps108
  go_wp2
  go_ret
  exact ⟨by unfold mayB; simp_all [gtr_less], hB⟩
set_option maxHeartbeats 1000000 in
set_option maxRecDepth 100000 in
theorem May_calls (x : Rd) (w : World) : Calls Tryz.prog 190 #[.agg #[.string x.t, .int .i64 x.k, .string x.f, .string x.u]] w fun e w' => e = .returned (.bool (mayB x)) ∧ Below w.heap.size w w' := by
  have hB : Below w.heap.size w (w.alloc (.cells #[.string x.t, .int .i64 x.k, .string x.f, .string x.u] 108)) := (Below.refl _ w).alloc (Nat.le_refl _) _
  obtain ⟨t, k, f, u⟩ := x
  dsimp only at hB ⊢
  by_cases h3 : k = 3
  · subst h3
    go_enter Tryz.func190, Tryz.ntmps190
    go_wp2
    all_goals
      go_ret
      exact ⟨by unfold mayB; simp_all [gtr_less], hB⟩
  by_cases h1 : k = 1
  · subst h1
    go_enter Tryz.func190, Tryz.ntmps190
    go_wp2
    all_goals
      go_ret
      exact ⟨by unfold mayB; simp_all [gtr_less], hB⟩
  by_cases h2 : k = 2
  · subst h2
    go_enter Tryz.func190, Tryz.ntmps190
    go_wp2
    all_goals
      go_ret
      exact ⟨by unfold mayB; simp_all [gtr_less], hB⟩
  have e3 : (k == 3) = false := by simpa using h3
  have e1 : (k == 1) = false := by simpa using h1
  have e2 : (k == 2) = false := by simpa using h2
  go_enter Tryz.func190, Tryz.ntmps190
  go_wp2
  go_ret
  exact ⟨by unfold mayB; simp_all [gtr_less], hB⟩
/-- a note's keys, as a range -/
def spn (x : Rd) : ByteArray × ByteArray × Bool := if x.k = 1 then (x.f, x.f ++ ⟨#[0]⟩, true) else if x.k = 2 then (x.f, x.u, !x.u.toList.isEmpty) else (⟨#[]⟩, ⟨#[]⟩, false)
set_option maxHeartbeats 1000000 in
set_option maxRecDepth 100000 in
theorem span_calls (x : Rd) (hx : x.OK) (w : World) : Calls Tryz.prog 152 #[.agg #[.string x.t, .int .i64 x.k, .string x.f, .string x.u]] w fun e w' => e = .returned (.tuple #[.string (spn x).1, .string (spn x).2.1, .bool (spn x).2.2]) ∧ Below w.heap.size w w' := by
  obtain ⟨w1, hw1⟩ : ∃ w1, w1 = w.alloc (.cells #[.string x.t, .int .i64 x.k, .string x.f, .string x.u] 108) := ⟨_, rfl⟩
  have hB : Below w.heap.size w w1 := by rw [hw1]; exact (Below.refl _ w).alloc (Nat.le_refl _) _
  have c1 : w1.cell? ⟨w.heap.size, 1, none⟩ = some (.int .i64 x.k) := by rw [hw1]; simp [go_sem]
  have c2 : w1.cell? ⟨w.heap.size, 2, none⟩ = some (.string x.f) := by rw [hw1]; simp [go_sem]
  have c3 : w1.cell? ⟨w.heap.size, 3, none⟩ = some (.string x.u) := by rw [hw1]; simp [go_sem]
  have hf := hx.f
  have hfs : x.f.size ≤ 9223372036854775806 := Nat.le_trans hf (by decide)
  have hadd : ∀ W, (Op.stringOp .add x.f ⟨#[0]⟩).run Tryz.prog W = .ok (.string (x.f ++ ⟨#[0]⟩)) W := add_zero_byte x.f hf
  clear hx hf
  obtain ⟨t, k, f, u⟩ := x
  dsimp only at hw1 c1 c2 c3 hfs hadd ⊢
  by_cases h1 : k = 1
  · subst h1
    go_enter Tryz.func152, Tryz.ntmps152
    go_upto_region 1 with (fail)
    rw [← hw1]
    clear hw1
    go_wp2_with fail
    go_region_held3 (fun W => W.cell? ⟨w.heap.size, 1, none⟩ = some (.int .i64 1) ∧ W.cell? ⟨w.heap.size, 2, none⟩ = some (.string f) ∧ W.cell? ⟨w.heap.size, 3, none⟩ = some (.string u)) (exact ⟨c1, c2, c3⟩) (fail)
    go_wp2
    exact bodyPost_ret (v := .tuple #[.string f, .string (f ++ ⟨#[0]⟩), .bool true]) (by simp [results, Tryz.results152, go_sem]) rfl ⟨rfl, hB.os, hB.tape, hB.output, hB.size, hB.block⟩
  by_cases h2 : k = 2
  · subst h2
    go_enter Tryz.func152, Tryz.ntmps152
    go_upto_region 1 with (fail)
    rw [← hw1]
    clear hw1
    go_wp2_with fail
    go_region_held3 (fun W => W.cell? ⟨w.heap.size, 1, none⟩ = some (.int .i64 2) ∧ W.cell? ⟨w.heap.size, 2, none⟩ = some (.string f) ∧ W.cell? ⟨w.heap.size, 3, none⟩ = some (.string u)) (exact ⟨c1, c2, c3⟩) (fail)
    go_wp2
    exact bodyPost_ret (v := .tuple #[.string f, .string u, .bool (!u.toList.isEmpty)]) (by simp [results, Tryz.results152, go_sem]) rfl ⟨rfl, hB.os, hB.tape, hB.output, hB.size, hB.block⟩
  have e1 : (k == 1) = false := by simpa using h1
  have e2 : (k == 2) = false := by simpa using h2
  have es : spn ⟨t, k, f, u⟩ = (⟨#[]⟩, ⟨#[]⟩, false) := by simp [spn, h1, h2]
  rw [es]
  go_enter Tryz.func152, Tryz.ntmps152
  go_upto_region 1 with (fail)
  rw [← hw1]
  clear hw1
  go_wp2
  exact bodyPost_ret (v := .tuple #[.string ⟨#[]⟩, .string ⟨#[]⟩, .bool false]) (by simp [results, Tryz.results152, go_sem]) rfl ⟨rfl, hB⟩
set_option maxHeartbeats 1000000 in
set_option maxRecDepth 100000 in
theorem ends_calls (x : Rd) (hx : x.OK) (w : World) : Calls Tryz.prog 205 #[.agg #[.string x.t, .int .i64 x.k, .string x.f, .string x.u]] w fun e w' => e = .returned (.tuple #[.string (spn x).1, .string (spn x).2.1, .bool (spn x).2.2]) ∧ Below w.heap.size w w' := by
  obtain ⟨w1, hw1⟩ : ∃ w1, w1 = w.alloc (.cells #[.string x.t, .int .i64 x.k, .string x.f, .string x.u] 108) := ⟨_, rfl⟩
  have hB : Below w.heap.size w w1 := by rw [hw1]; exact (Below.refl _ w).alloc (Nat.le_refl _) _
  have c1 : w1.cell? ⟨w.heap.size, 1, none⟩ = some (.int .i64 x.k) := by rw [hw1]; simp [go_sem]
  have c2 : w1.cell? ⟨w.heap.size, 2, none⟩ = some (.string x.f) := by rw [hw1]; simp [go_sem]
  have c3 : w1.cell? ⟨w.heap.size, 3, none⟩ = some (.string x.u) := by rw [hw1]; simp [go_sem]
  have hf := hx.f
  have hfs : x.f.size ≤ 9223372036854775806 := Nat.le_trans hf (by decide)
  have hadd : ∀ W, (Op.stringOp .add x.f ⟨#[0]⟩).run Tryz.prog W = .ok (.string (x.f ++ ⟨#[0]⟩)) W := add_zero_byte x.f hf
  clear hx hf
  obtain ⟨t, k, f, u⟩ := x
  dsimp only at hw1 c1 c2 c3 hfs hadd ⊢
  by_cases h1 : k = 1
  · subst h1
    go_enter Tryz.func205, Tryz.ntmps205
    go_upto_region 1 with (fail)
    rw [← hw1]
    clear hw1
    go_wp2_with fail
    go_region_held3 (fun W => W.cell? ⟨w.heap.size, 1, none⟩ = some (.int .i64 1) ∧ W.cell? ⟨w.heap.size, 2, none⟩ = some (.string f) ∧ W.cell? ⟨w.heap.size, 3, none⟩ = some (.string u)) (exact ⟨c1, c2, c3⟩) (fail)
    go_wp2
    exact bodyPost_ret (v := .tuple #[.string f, .string (f ++ ⟨#[0]⟩), .bool true]) (by simp [results, Tryz.results205, go_sem]) rfl ⟨rfl, hB.os, hB.tape, hB.output, hB.size, hB.block⟩
  by_cases h2 : k = 2
  · subst h2
    go_enter Tryz.func205, Tryz.ntmps205
    go_upto_region 1 with (fail)
    rw [← hw1]
    clear hw1
    go_wp2_with fail
    go_region_held3 (fun W => W.cell? ⟨w.heap.size, 1, none⟩ = some (.int .i64 2) ∧ W.cell? ⟨w.heap.size, 2, none⟩ = some (.string f) ∧ W.cell? ⟨w.heap.size, 3, none⟩ = some (.string u)) (exact ⟨c1, c2, c3⟩) (fail)
    go_wp2
    exact bodyPost_ret (v := .tuple #[.string f, .string u, .bool (!u.toList.isEmpty)]) (by simp [results, Tryz.results205, go_sem]) rfl ⟨rfl, hB.os, hB.tape, hB.output, hB.size, hB.block⟩
  have e1 : (k == 1) = false := by simpa using h1
  have e2 : (k == 2) = false := by simpa using h2
  have es : spn ⟨t, k, f, u⟩ = (⟨#[]⟩, ⟨#[]⟩, false) := by simp [spn, h1, h2]
  rw [es]
  go_enter Tryz.func205, Tryz.ntmps205
  go_upto_region 1 with (fail)
  rw [← hw1]
  clear hw1
  go_wp2
  exact bodyPost_ret (v := .tuple #[.string ⟨#[]⟩, .string ⟨#[]⟩, .bool false]) (by simp [results, Tryz.results205, go_sem]) rfl ⟨rfl, hB⟩
end Go.Proofs.YthaoedfalkebbaaGreat
namespace Go.Proofs.YthaoedfalkebbaaGreat
open Go.RowKit Go.Maps Go.Sort Go.Lib Go.Proofs.YthaoedfalkebbaaGreatW.PrintWords Go.Proofs.YthaoedfalkebbaaGreatW.PrintLast Go.Proofs.YthaoedfalkebbaaGreatW.PrintMore
set_option linter.unusedVariables false
set_option linter.unusedSimpArgs false
set_option linter.unusedSectionVars false
theorem leq_less (a b : List UInt8) : (Op.bytesLess a b || a == b) = !Op.bytesLess b a := by
  have h := gtr_less a b
  rw [← h]
  cases Op.bytesLess a b <;> cases (a == b) <;> rfl
theorem leq_iff (a b : List UInt8) : (Op.bytesLess a b = true ∨ a = b) ↔ Op.bytesLess b a = false := by
  have h := leq_less a b
  constructor
  · rintro (h1 | h1)
    · rw [h1] at h; simpa using h.symm
    · subst h1
      simpa using h.symm
  · intro h1
    rw [h1] at h
    simpa using h
/-- of one table: does a cover b? -/
def cov (a b : Rd) : Bool := !Op.bytesLess (spn b).1.toList (spn a).1.toList && (!(spn a).2.2 || ((spn b).2.2 && !Op.bytesLess (spn a).2.1.toList (spn b).2.1.toList))
def covB (a b : Rd) : Bool := mayB a && (mayB b && ((a.t.toList == b.t.toList) && cov a b))
theorem boxed (w : World) (x : Rd) : Below w.heap.size w (w.alloc (.cells #[.string x.t, .int .i64 x.k, .string x.f, .string x.u] 108)) := (Below.refl _ w).alloc (Nat.le_refl _) _
theorem rd_cells {W : World} {bx : Nat} {x : Rd} (h : W.heap[bx]? = some (.cells #[.string x.t, .int .i64 x.k, .string x.f, .string x.u] 108 (0, 0))) :
    W.cell? ⟨bx, 0, none⟩ = some (.string x.t) ∧ W.cell? ⟨bx, 1, none⟩ = some (.int .i64 x.k) ∧ W.cell? ⟨bx, 2, none⟩ = some (.string x.f) ∧ W.cell? ⟨bx, 3, none⟩ = some (.string x.u) :=
  ⟨cell_of_row W bx 0 _ 108 (0, 0) h, cell_of_row W bx 1 _ 108 (0, 0) h, cell_of_row W bx 2 _ 108 (0, 0) h, cell_of_row W bx 3 _ 108 (0, 0) h⟩
set_option maxHeartbeats 4000000 in
set_option maxRecDepth 100000 in
theorem covers_calls (a b : Rd) (ha : a.OK) (hb : b.OK) (w : World) : Calls Tryz.prog 110 #[.agg #[.string a.t, .int .i64 a.k, .string a.f, .string a.u], .agg #[.string b.t, .int .i64 b.k, .string b.f, .string b.u]] w fun e w' => e = .returned (.bool (cov a b)) ∧ Below w.heap.size w w' := by
  obtain ⟨w2, hw2⟩ : ∃ w2, w2 = (w.alloc (.cells #[.string a.t, .int .i64 a.k, .string a.f, .string a.u] 108)).alloc (.cells #[.string b.t, .int .i64 b.k, .string b.f, .string b.u] 108) := ⟨_, rfl⟩
  have B2 : Below w.heap.size w w2 := by rw [hw2]; exact below_alloc (boxed w a) _
  have oa : w2.heap[w.heap.size]? = some (.cells #[.string a.t, .int .i64 a.k, .string a.f, .string a.u] 108 (0, 0)) := by rw [hw2]; exact (Below.heap_alloc _ _ _ (by simp)).trans (heap_alloc_new w _)
  have ob : w2.heap[w.heap.size + 1]? = some (.cells #[.string b.t, .int .i64 b.k, .string b.f, .string b.u] 108 (0, 0)) := by
    rw [hw2]
    have := heap_alloc_new (w.alloc (.cells #[.string a.t, .int .i64 a.k, .string a.f, .string a.u] 108)) (.cells #[.string b.t, .int .i64 b.k, .string b.f, .string b.u] 108)
    simpa using this
  obtain ⟨a0, a1, a2, a3⟩ := rd_cells oa
  have SA := fun W => span_calls a ha W
  have SB := fun W => span_calls b hb W
  unfold cov
  generalize (spn a).1 = fr at SA ⊢
  generalize (spn a).2.1 = tt at SA ⊢
  generalize (spn a).2.2 = bd at SA ⊢
  generalize (spn b).1 = lo at SB ⊢
  generalize (spn b).2.1 = hi at SB ⊢
  generalize (spn b).2.2 = en at SB ⊢
  go_enter Tryz.func110, Tryz.ntmps110
  go_upto_region 1 with (fail)
  rw [← hw2]
  clear hw2
  go_wp2_with fail
  refine (SA w2).mono ?_
  rintro e w3 ⟨rfl, D3⟩
  have B3 := below_then B2 B2.size D3
  obtain ⟨b0, b1, b2, b3⟩ := rd_cells ((D3.block _ (Array.getElem?_eq_some_iff.1 ob).1).trans ob)
  go_wp2_with fail
  refine (SB w3).mono ?_
  rintro e w4 ⟨rfl, D4⟩
  have B4 := below_then B3 B3.size D4
  clear SA SB oa ob a0 a1 a2 a3 b0 b1 b2 b3 D3 D4 B3 B2 ha hb
  go_wp2
  all_goals
    go_ret
    refine ⟨?_, B4⟩
    clear B4
    simp_all [leq_less, leq_iff]
end Go.Proofs.YthaoedfalkebbaaGreat
namespace Go.Proofs.YthaoedfalkebbaaGreat
open Go.RowKit Go.Maps Go.Sort Go.Lib Go.Proofs.YthaoedfalkebbaaGreatW.PrintWords Go.Proofs.YthaoedfalkebbaaGreatW.PrintLast Go.Proofs.YthaoedfalkebbaaGreatW.PrintMore
set_option linter.unusedVariables false
set_option linter.unusedSimpArgs false
set_option linter.unusedSectionVars false
theorem two_boxes (w : World) (a b : Rd) : ∃ w2, w2 = (w.alloc (.cells #[.string a.t, .int .i64 a.k, .string a.f, .string a.u] 108)).alloc (.cells #[.string b.t, .int .i64 b.k, .string b.f, .string b.u] 108) ∧ Below w.heap.size w w2 ∧
    w2.heap[w.heap.size]? = some (.cells #[.string a.t, .int .i64 a.k, .string a.f, .string a.u] 108 (0, 0)) ∧ w2.heap[w.heap.size + 1]? = some (.cells #[.string b.t, .int .i64 b.k, .string b.f, .string b.u] 108 (0, 0)) := by
  refine ⟨_, rfl, below_alloc (boxed w a) _, (Below.heap_alloc _ _ _ (by simp)).trans (heap_alloc_new w _), ?_⟩
  have := heap_alloc_new (w.alloc (.cells #[.string a.t, .int .i64 a.k, .string a.f, .string a.u] 108)) (.cells #[.string b.t, .int .i64 b.k, .string b.f, .string b.u] 108)
  simpa using this
theorem blk_below {w w' : World} {g : Nat} {o : Obj} (h : w.heap[g]? = some o) (b : Below w.heap.size w w') : w'.heap[g]? = some o := (b.block _ (Array.getElem?_eq_some_iff.1 h).1).trans h
set_option maxHeartbeats 4000000 in
set_option maxRecDepth 100000 in
theorem RCovers_calls (a b : Rd) (ha : a.OK) (hb : b.OK) (w : World) : Calls Tryz.prog 191 #[.agg #[.string a.t, .int .i64 a.k, .string a.f, .string a.u], .agg #[.string b.t, .int .i64 b.k, .string b.f, .string b.u]] w fun e w' => e = .returned (.bool (covB a b)) ∧ Below w.heap.size w w' := by
  obtain ⟨w2, hw2, B2, oa, ob⟩ := two_boxes w a b
  obtain ⟨a0, a1, a2, a3⟩ := rd_cells oa
  have MA := fun W => May_calls a W
  have MB := fun W => May_calls b W
  have SA := fun W => ends_calls a ha W
  have SB := fun W => ends_calls b hb W
  unfold covB cov
  generalize mayB b = mb at MB ⊢
  generalize mayB a = ma at MA ⊢
  generalize (spn a).1 = fr at SA ⊢
  generalize (spn a).2.1 = tt at SA ⊢
  generalize (spn a).2.2 = bd at SA ⊢
  generalize (spn b).1 = lo at SB ⊢
  generalize (spn b).2.1 = hi at SB ⊢
  generalize (spn b).2.2 = en at SB ⊢
  go_enter Tryz.func191, Tryz.ntmps191
  go_upto_region 1 with (fail)
  rw [← hw2]
  clear hw2
  go_wp2_with fail
  refine (MA w2).mono ?_
  rintro e w3 ⟨rfl, D3⟩
  have B3 := below_then B2 B2.size D3
  have oa := blk_below oa D3
  have ob := blk_below ob D3
  obtain ⟨a0, a1, a2, a3⟩ := rd_cells oa
  obtain ⟨b0, b1, b2, b3⟩ := rd_cells ob
  clear MA D3 B2
  cases ma with
  | false =>
    go_wp2
    go_ret
    exact ⟨rfl, B3⟩
  | true =>
    go_wp2_with fail
    refine (MB w3).mono ?_
    rintro e w4 ⟨rfl, D4⟩
    have B4 := below_then B3 B3.size D4
    have oa := blk_below oa D4
    have ob := blk_below ob D4
    obtain ⟨a0, a1, a2, a3⟩ := rd_cells oa
    obtain ⟨b0, b1, b2, b3⟩ := rd_cells ob
    clear MB D4 B3
    cases mb with
    | false =>
      go_wp2
      go_ret
      exact ⟨rfl, B4⟩
    | true =>
      cases ht : (a.t.toList == b.t.toList) with
      | false =>
        have htp : ¬ a.t.toList = b.t.toList := by simpa using ht
        go_wp2
        go_ret
        exact ⟨by simp [htp], B4⟩
      | true =>
        have htp : a.t.toList = b.t.toList := by simpa using ht
        go_wp2_with fail
        refine (SA w4).mono ?_
        rintro e w5 ⟨rfl, D5⟩
        have B5 := below_then B4 B4.size D5
        have ob := blk_below ob D5
        obtain ⟨b0, b1, b2, b3⟩ := rd_cells ob
        go_wp2_with fail
        refine (SB w5).mono ?_
        rintro e w6 ⟨rfl, D6⟩
        have B6 := below_then B5 B5.size D6
        clear SA SB oa ob a0 a1 a2 a3 b0 b1 b2 b3 D5 D6 B4 B5 ha hb
        go_wp2
        all_goals
          go_ret
          refine ⟨?_, B6⟩
          clear B6
          simp_all [leq_less, leq_iff]
end Go.Proofs.YthaoedfalkebbaaGreat
namespace Go.Proofs.YthaoedfalkebbaaGreat
open Go.RowKit Go.Maps Go.Sort Go.Lib Go.Proofs.YthaoedfalkebbaaGreatW.PrintWords Go.Proofs.YthaoedfalkebbaaGreatW.PrintLast Go.Proofs.YthaoedfalkebbaaGreatW.PrintMore
set_option linter.unusedVariables false
set_option linter.unusedSimpArgs false
set_option linter.unusedSectionVars false
/-! ### places as keys -/
theorem laid : laidOutB Tryz.prog = true := by kernel_rfl
abbrev Pl := Int × ByteArray
def mkP (a : Pl) : Value := .agg #[.int .i64 a.1, .string a.2]
def okP (a : Pl) : Prop := (Lit.int .i64 a.1).wf = true ∧ a.2.size ≤ maxLen
theorem wide62 : (match Tryz.prog.underlying 156 with | some (.array _ _) | some (.struct _) => true | _ => false) = true := by rw [Tryz.underlying156]
theorem keyType62 : Tryz.prog.keyType 156 = true := by kernel_rfl
theorem cells62 : Tryz.prog.cellsOf 156 = 2 := by kernel_rfl
theorem cells9 : Tryz.prog.cellsOf 9 = 1 := by kernel_rfl
theorem cells2 : Tryz.prog.cellsOf 2 = 1 := by kernel_rfl
theorem size_pos : ∃ m, Tryz.prog.types.size = m + 1 := ⟨Tryz.prog.types.size - 1, by
    have : (decide (1 ≤ Tryz.prog.types.size)) = true := by kernel_rfl
    have := of_decide_eq_true this
    omega⟩
def strLit : Value → Option (List Lit)
  | .string s => if s.size ≤ maxLen then some [.string s.data.toList] else none
  | _ => none
def intLit : Value → Option (List Lit)
  | .int q a => if q = .i64 ∧ (Lit.int .i64 a).wf = true then some [.int .i64 a] else none
  | _ => none
theorem keyLits9 (d : Nat) (a : Value) : Tryz.prog.keyLits (d + 1) 9 [a] = strLit a := by
  unfold Program.keyLits
  simp only [Tryz.underlying9]
  cases a <;> rfl
theorem keyLits2 (d : Nat) (a : Value) : Tryz.prog.keyLits (d + 1) 2 [a] = intLit a := by
  unfold Program.keyLits
  simp only [Tryz.underlying2]
  cases a <;> first | rfl | (simp [intLit])
theorem keyLits62 (d : Nat) (a b : Value) : Tryz.prog.keyLits (d + 2) 156 [a, b] = (intLit a).bind fun x => (strLit b).bind fun y => some (x ++ y) := by
  rw [show d + 2 = (d + 1) + 1 from rfl]
  unfold Program.keyLits
  simp only [Tryz.underlying156, cells62, List.length_cons, List.length_nil]
  simp [cells9, cells2, keyLits9, keyLits2]
  cases intLit a <;> cases strLit b <;> simp
theorem key_of (a : Pl) (h : okP a) : ∃ kl, keyOf Tryz.prog 156 (mkP a) = some kl := by
  obtain ⟨m, hm⟩ := size_pos
  have hf : (mkP a).formed Tryz.prog 156 = true := by
    simp [mkP, Value.formed, Tryz.underlying156, cells62]
  unfold keyOf
  simp only [Tryz.underlying156, keyType62, hf, Bool.and_self, if_true, hm]
  have e : (mkP a).cells.toList = [.int .i64 a.1, .string a.2] := rfl
  rw [e, keyLits62]
  simp [strLit, intLit, h.1, h.2]
set_option maxRecDepth 100000 in
theorem of_key (v : Value) (kl : Lit) (h : keyOf Tryz.prog 156 v = some kl) : ∃ a : Pl, okP a ∧ v = mkP a := by
  obtain ⟨m, hm⟩ := size_pos
  obtain ⟨xs, L, rfl, h1, _⟩ := keyOf_top wide62 h
  rw [hm] at h1
  have hl : xs.toList.length = 2 := by
    unfold Program.keyLits at h1
    simp only [Tryz.underlying156, cells62] at h1
    by_cases hh : xs.toList.length = 2
    · exact hh
    · rw [if_neg (fun h => hh h.1)] at h1
      cases h1
  obtain ⟨l⟩ := xs
  match l, hl with
  | [a, b], _ =>
    have h2 : Tryz.prog.keyLits (m + 2) 156 [a, b] = some L := h1
    rw [keyLits62] at h2
    cases ha : intLit a with
    | none => rw [ha] at h2; cases h2
    | some x =>
      cases hb : strLit b with
      | none => rw [ha, hb] at h2; cases h2
      | some y =>
        have st : ∀ (v : Value) (z : List Lit), strLit v = some z → ∃ u : ByteArray, v = .string u ∧ u.size ≤ maxLen := by
          intro v z hz
          cases v <;> try cases hz
          rename_i u
          refine ⟨u, rfl, ?_⟩
          by_cases hu : u.size ≤ maxLen
          · exact hu
          · exfalso
            have : strLit (.string u) = none := if_neg hu
            rw [this] at hz
            cases hz
        have it : ∀ (v : Value) (z : List Lit), intLit v = some z → ∃ u : Int, v = .int .i64 u ∧ (Lit.int .i64 u).wf = true := by
          intro v z hz
          cases v <;> try cases hz
          rename_i q u
          by_cases hu : q = .i64 ∧ (Lit.int .i64 u).wf = true
          · obtain ⟨rfl, hu⟩ := hu
            exact ⟨u, rfl, hu⟩
          · exfalso
            have : intLit (.int q u) = none := if_neg hu
            rw [this] at hz
            cases hz
        obtain ⟨u, rfl, hu⟩ := it a x ha
        obtain ⟨u', rfl, hu'⟩ := st b y hb
        exact ⟨(u, u'), ⟨hu, hu'⟩, rfl⟩
set_option maxRecDepth 100000 in
theorem keyP : KeyAs Tryz.prog 156 mkP okP where
  keyed := Keyed.of_law (deep_law_gate laid (of_decide_eq_true (by kernel_rfl)) (of_decide_eq_true (by kernel_rfl)) keyType62 wide62)
  lit := key_of
  inj := fun a b h => by
    injection h with h
    have h := congrArg Array.toList h
    simp at h
    exact Prod.ext h.1 h.2
  inv := of_key
/-! ### slices of the call's own as elements -/
/-- nil, or a row's block, length, capacity -/
abbrev Sv := Option (Nat × Nat × Nat)
def mvS : Sv → Value
  | none => .slice none 0 0
  | some (g, n, c) => .slice (some ⟨g, 0, none⟩) n c
def cdS : Sv → DataW Unit
  | none => .nil
  | some (g, n, c) => .agg [.lit (.int .i64 g), .lit (.int .i64 n), .lit (.int .i64 c)]
def rS : Value → Option (DataW Unit × List MemPlace)
  | .slice none 0 0 => some (.nil, [])
  | .slice (some ⟨g, 0, none⟩) n c => some (.agg [.lit (.int .i64 g), .lit (.int .i64 n), .lit (.int .i64 c)], [])
  | _ => none
theorem valS : ValAs mvS rS cdS where
  reads := fun b => by
    rcases b with _ | ⟨g, n, c⟩
    · rfl
    · rfl
  inv := fun v y ps h => by
    unfold rS at h
    split at h
    · injection h with h
      injection h with h1 h2
      exact ⟨none, rfl, h1.symm⟩
    · rename_i g n c
      injection h with h
      injection h with h1 h2
      exact ⟨some (g, n, c), rfl, h1.symm⟩
    · cases h
  inj := fun b b' h => by
    rcases b with _ | ⟨g, n, c⟩ <;> rcases b' with _ | ⟨g', n', c'⟩
    · rfl
    · cases h
    · cases h
    · simp [cdS] at h
      obtain ⟨h1, h2, h3⟩ := h
      have e1 : g = g' := by exact_mod_cast h1
      have e2 : n = n' := by exact_mod_cast h2
      have e3 : c = c' := by exact_mod_cast h3
      rw [e1, e2, e3]
abbrev TabN (w : World) (b n : Nat) (L : List (Pl × Sv)) : Prop := Tab Tryz.prog 156 mkP okP rS cdS w b n L
abbrev RngN (w : World) (b r n : Nat) (L rem : List (Pl × Sv)) : Prop := Rng Tryz.prog 156 mkP okP rS cdS w b r n L rem
theorem zero42 (w : World) : (zeroValue 118).run Tryz.prog w = .ok (mvS none) w := Tryz.zeroValue118 w
end Go.Proofs.YthaoedfalkebbaaGreat
namespace Go.Proofs.YthaoedfalkebbaaGreat
open Go.RowKit Go.Maps Go.Sort Go.Lib Go.Proofs.YthaoedfalkebbaaGreatW.PrintWords Go.Proofs.YthaoedfalkebbaaGreatW.PrintLast Go.Proofs.YthaoedfalkebbaaGreatW.PrintMore
set_option linter.unusedVariables false
set_option linter.unusedSimpArgs false
set_option linter.unusedSectionVars false
/-! ### the manager, the closures -/
def cellsR (x : Rd) : List Value := [.string x.t, .int .i64 x.k, .string x.f, .string x.u]
/-- a manager: the most, its map, how many notes; the notes of each place -/
structure Mr (w : World) (base p b : Nat) (most many : Int) (L : List (Pl × Sv)) (R : Pl → List Rd) : Prop where
  cells : w.heap[p]? = some (.cells #[.int .i64 most, .map (some b), .int .i64 many] 150 (0, 0))
  tab : TabN w b L.length L
  low : base ≤ p
  rows : ∀ e ∈ L, Lo cellsR 4 108 w base (mvS e.2) (R e.1)
  off : ∀ t, got L t = none → R t = []
  good : ∀ e ∈ L, ∀ x ∈ R e.1, x.OK
theorem Mr.cell {w : World} {base p b : Nat} {most many : Int} {L : List (Pl × Sv)} {R : Pl → List Rd} (h : Mr w base p b most many L R) :
    w.cell? ⟨p, 0, none⟩ = some (.int .i64 most) ∧ w.cell? ⟨p, 1, none⟩ = some (.map (some b)) ∧ w.cell? ⟨p, 2, none⟩ = some (.int .i64 many) :=
  ⟨cell_of_row w p 0 _ 150 (0, 0) h.cells, cell_of_row w p 1 _ 150 (0, 0) h.cells, cell_of_row w p 2 _ 150 (0, 0) h.cells⟩
theorem eqm53 (b : Nat) (w : World) : (binOp .eql 148 (.map (some b)) (.map none)).run Tryz.prog w = .ok (.bool false) w := by kernel_rfl
theorem eqn53 (w : World) : (binOp .eql 148 (.map none) (.map none)).run Tryz.prog w = .ok (.bool true) w := by kernel_rfl
/-- no manager -/
def Mr0 (w : World) (v : Value) : Prop := v = .pointer none ∨ ∃ p, v = .pointer (some ⟨p, 0, none⟩) ∧ w.cell? ⟨p, 1, none⟩ = some (.map none)
set_option maxRecDepth 100000 in
theorem none0_calls (v : Value) (w : World) (h : Mr0 w v) : Calls Tryz.prog 87 #[v] w fun e w' => e = .returned (.bool true) ∧ w = w' := by
  rcases h with rfl | ⟨p, rfl, h⟩
  · go_enter Tryz.func87, Tryz.ntmps87
    go_wp2
    go_ret
    exact ⟨rfl, rfl⟩
  · have eq := eqn53
    go_enter Tryz.func87, Tryz.ntmps87
    go_wp2
    go_ret
    exact ⟨rfl, rfl⟩
set_option maxRecDepth 100000 in
theorem none_calls (p b : Nat) (w : World) (h : w.cell? ⟨p, 1, none⟩ = some (.map (some b))) : Calls Tryz.prog 87 #[.pointer (some ⟨p, 0, none⟩)] w fun e w' => e = .returned (.bool false) ∧ w = w' := by
  have eq := eqm53 b
  go_enter Tryz.func87, Tryz.ntmps87
  go_wp2
  go_ret
  exact ⟨rfl, rfl⟩
set_option maxRecDepth 100000 in
theorem New_bad (most : Int) (w : World) (h : most < 1 ∨ 65536 < most) : Calls Tryz.prog 37 #[.int .i64 most] w fun e w' => e = .returned (.tuple #[.pointer none, .int .i64 1]) ∧ w = w' := by
  by_cases h1 : most < 1
  · go_enter Tryz.func37, Tryz.ntmps37
    go_wp2
    go_ret2
    exact ⟨rfl, rfl⟩
  · have h2 : 65536 < most := by omega
    go_enter Tryz.func37, Tryz.ntmps37
    go_wp2
    go_ret2
    exact ⟨rfl, rfl⟩
set_option maxRecDepth 100000 in
theorem New_calls (most : Int) (base : Nat) (w : World) (hb : base ≤ w.heap.size) (h1 : 1 ≤ most) (h2 : most ≤ 65536) : Calls Tryz.prog 37 #[.int .i64 most] w fun e w' => e = .returned (.tuple #[.pointer (some ⟨w.heap.size + 1, 0, none⟩), .int .i64 0]) ∧ Mr w' base (w.heap.size + 1) w.heap.size most 0 [] (fun _ => []) ∧ Below w.heap.size w w' := by
  have hmm := @run_makeMap Tryz.prog
  go_enter Tryz.func37, Tryz.ntmps37
  go_wp2
  go_ret2
  refine ⟨rfl, ⟨?_, (Tab.made w).kept (World.grownBy_alloc _ _ none) (by simp), by omega, by simp, fun _ _ => rfl, by simp⟩, ((Below.refl _ w).alloc (Nat.le_refl _) _).alloc (by simp) _⟩
  have := heap_alloc_new (w.alloc (.map #[] 0)) (.cells #[.int .i64 most, .map (some w.heap.size), .int .i64 0] 150)
  simpa using this
/-! the key of a note -/
def holdB (y : Rd) (key : ByteArray) : Bool :=
  if y.k = 1 then y.f.toList == key.toList
  else if y.k = 2 then !Op.bytesLess key.toList y.f.toList && (y.u.toList == [] || Op.bytesLess key.toList y.u.toList)
  else true
end Go.Proofs.YthaoedfalkebbaaGreat
namespace Go.Proofs.YthaoedfalkebbaaGreat
open Go.RowKit Go.Maps Go.Sort Go.Lib Go.Proofs.YthaoedfalkebbaaGreatW.PrintWords Go.Proofs.YthaoedfalkebbaaGreatW.PrintLast Go.Proofs.YthaoedfalkebbaaGreatW.PrintMore
set_option linter.unusedVariables false
set_option linter.unusedSimpArgs false
set_option linter.unusedSectionVars false
/-! ### what covers a note holds each of its keys -/
theorem less_trans {a b c : List UInt8} (h : Op.bytesLess a b = true) (h' : Op.bytesLess b c = true) : Op.bytesLess a c = true := by
  rw [bytesLess_eq, decide_eq_true_eq] at *
  exact List.lt_trans h h'
theorem less_le {a b c : List UInt8} (h : Op.bytesLess a b = true) (h' : Op.bytesLess c b = false) : Op.bytesLess a c = true := by
  rw [bytesLess_eq, decide_eq_true_eq] at h ⊢
  rw [bytesLess_eq, decide_eq_false_iff_not] at h'
  exact Std.lt_of_lt_of_le h (List.not_lt.1 h')
theorem le_trans' {a b c : List UInt8} (h : Op.bytesLess b a = false) (h' : Op.bytesLess c b = false) : Op.bytesLess c a = false := by
  rw [bytesLess_eq, decide_eq_false_iff_not] at *
  exact List.not_lt.2 (List.le_trans (List.not_lt.1 h) (List.not_lt.1 h'))
theorem less_snoc : ∀ (a b : List UInt8), Op.bytesLess a (b ++ [0]) = !Op.bytesLess b a
  | [], [] => rfl
  | [], y :: b => rfl
  | x :: a, [] => by
    simp only [List.nil_append, Op.bytesLess]
    by_cases h : x < 0
    · exact absurd h (by simp)
    · cases a <;> simp [Op.bytesLess, h]
  | x :: a, y :: b => by
    have := less_snoc a b
    simp only [List.cons_append, Op.bytesLess]
    rcases Nat.lt_trichotomy x.toNat y.toNat with h | h | h
    · have h3 : x < y := h
      have h2 : ¬ y < x := UInt8.lt_asymm h3
      have h4 : ¬ y = x := by rintro rfl; omega
      simp [h3, h2, h4]
    · have h := UInt8.toNat_inj.1 h
      subst h
      simp [this]
    · have h3 : y < x := h
      have h2 : ¬ x < y := UInt8.lt_asymm h3
      have h4 : x ≠ y := by rintro rfl; omega
      simp [h3, h2, h4]
theorem less_irrefl (a : List UInt8) : Op.bytesLess a a = false := by
  rw [bytesLess_eq, decide_eq_false_iff_not]
  exact List.lt_irrefl _
theorem less_nil (a : List UInt8) : Op.bytesLess a [] = false := by cases a <;> rfl
theorem holdB_span (y : Rd) (key : ByteArray) : holdB y key = (!Op.bytesLess key.toList (spn y).1.toList && (!(spn y).2.2 || Op.bytesLess key.toList (spn y).2.1.toList)) := by
  unfold holdB spn
  by_cases h1 : y.k = 1
  · simp only [h1, if_true]
    have e : (y.f ++ ⟨#[0]⟩ : ByteArray).toList = y.f.toList ++ [0] := by rw [Lib.toList_data, Lib.toList_data, ByteArray.toList_data_append]
    rw [e, less_snoc]
    by_cases hk : y.f.toList = key.toList
    · simp [hk, less_irrefl]
    · have := gtr_less y.f.toList key.toList
      have e2 : (y.f.toList == key.toList) = false := by simpa using hk
      rw [e2] at this ⊢
      rw [← this]
      cases Op.bytesLess y.f.toList key.toList <;> rfl
  · by_cases h2 : y.k = 2
    · simp [h2, h1]
    · simp [h1, h2, less_nil]
theorem cov_holds {a b : Rd} (h : cov a b = true) {key : ByteArray} (hb : holdB b key = true) : holdB a key = true := by
  rw [holdB_span] at *
  unfold cov at h
  simp only [Bool.and_eq_true, Bool.or_eq_true, Bool.not_eq_true'] at *
  obtain ⟨h1, h2⟩ := h
  obtain ⟨g1, g2⟩ := hb
  refine ⟨le_trans' h1 g1, ?_⟩
  rcases h2 with h2 | ⟨h2, h3⟩
  · exact .inl h2
  · rw [h2] at g2
    rcases g2 with g2 | g2
    · cases g2
    · exact .inr (less_le g2 h3)
end Go.Proofs.YthaoedfalkebbaaGreat
namespace Go.Proofs.YthaoedfalkebbaaGreat
open Go.RowKit Go.Maps Go.Sort Go.Lib Go.Proofs.YthaoedfalkebbaaGreatW.PrintWords Go.Proofs.YthaoedfalkebbaaGreatW.PrintLast Go.Proofs.YthaoedfalkebbaaGreatW.PrintMore
set_option linter.unusedVariables false
set_option linter.unusedSimpArgs false
set_option linter.unusedSectionVars false
/-! ### IndexFunc, ContainsFunc over a row of notes -/
abbrev mkR (x : Rd) : Value := .agg #[.string x.t, .int .i64 x.k, .string x.f, .string x.u]
abbrev RowR (w : World) (base : Nat) (v : Value) (xs : List Rd) : Prop := Lo cellsR 4 108 w base v xs
theorem RowR.at {w : World} {base g n c : Nat} {xs : List Rd} (h : RowR w base (.slice (some ⟨g, 0, none⟩) n c) xs) (j : Nat) (x : Rd) (hj : xs[j]? = some x) :
    w.cell? ⟨g, j * 4, none⟩ = some (.string x.t) ∧ w.cell? ⟨g, j * 4 + 1, none⟩ = some (.int .i64 x.k) ∧ w.cell? ⟨g, j * 4 + 2, none⟩ = some (.string x.f) ∧ w.cell? ⟨g, j * 4 + 3, none⟩ = some (.string x.u) := by
  have H := h.cell (fun _ => rfl) rfl j x hj
  exact ⟨by simpa using H 0 _ rfl, H 1 _ rfl, H 2 _ rfl, H 3 _ rfl⟩
/-- a predicate's closure -/
def Preds (w : World) (g : Nat) (lb : Array Value) (p : Rd → Bool) (xs : List Rd) : Prop :=
  ∀ (W : World) (x : Rd), x ∈ xs → Below w.heap.size w W → Calls Tryz.prog g (#[mkR x] ++ lb) W fun e w' => e = .returned (.bool (p x)) ∧ Below W.heap.size W w'
theorem Preds.later {w w1 : World} {g : Nat} {lb : Array Value} {p : Rd → Bool} {xs : List Rd} (h : Preds w g lb p xs) (hb : Below w.heap.size w w1) : Preds w1 g lb p xs := fun W x hx hW => h W x hx (below_then hb hb.size hW)
def idxP (p : Rd → Bool) (xs : List Rd) : Int := if xs.findIdx p < xs.length then xs.findIdx p else -1
theorem idx_hit {p : Rd → Bool} {xs : List Rd} {j : Nat} (hj : j < xs.length) (h : p xs[j] = true) (hn : ∀ i (hi : i < xs.length), i < j → p xs[i] = false) : xs.findIdx p = j := by
  rw [List.findIdx_eq hj]
  exact ⟨h, fun i hi => hn i (by omega) hi⟩
theorem idx_none {p : Rd → Bool} {xs : List Rd} (h : ∀ i (hi : i < xs.length), p xs[i] = false) : xs.findIdx p = xs.length := by
  rw [List.findIdx_eq_length]
  intro x hx
  obtain ⟨i, hi, rfl⟩ := List.getElem_of_mem hx
  exact h i hi
set_option maxHeartbeats 4000000 in
set_option maxRecDepth 100000 in
theorem IndexFunc_calls (base : Nat) (v : Value) (xs : List Rd) (p : Rd → Bool) (g : Nat) (lb : Array Value) (eg : ∀ args w, (callFunc g args).run Tryz.prog w = .ok (.enter g args) w) (w : World) (h : RowR w base v xs) (hl : xs.length ≤ 9223372036854775806) (hp : Preds w g lb p xs) :
    Calls Tryz.prog 135 #[v, .func (.func g) #[] lb] w fun e w' => e = .returned (.int .i64 (idxP p xs)) ∧ Below w.heap.size w w' := by
  obtain ⟨A, c, rfl, hlc, hA⟩ := h.slice
  go_enter Tryz.func135, Tryz.ntmps135
  go_wp2_with fail
  go_loopw [5, 8] (fun _ iv wr => ∃ j : Nat, j ≤ xs.length ∧ iv = .int .i64 j ∧ RowR wr base (.slice A xs.length c) xs ∧ Below w.heap.size w wr ∧ (∀ i (hi : i < xs.length), i < j → p xs[i] = false)) (fun _ iv _ => xs.length - (intOf iv).toNat)
  case atStart => exact ⟨0, Nat.zero_le _, rfl, h, Below.refl _ _, fun i _ hi => by omega⟩
  case round =>
    clear h
    obtain ⟨j, hj, rfl, h, hb, hn⟩ := hrel
    by_cases hjl : j < xs.length
    · obtain ⟨k, rfl, _⟩ := hA (by omega)
      obtain ⟨y0, y1, y2, y3⟩ := RowR.at h j xs[j] (List.getElem?_eq_getElem hjl)
      have hcall := hp wr xs[j] (List.getElem_mem hjl) hb
      have hx := idx_hit (p := p) hjl
      generalize hy : xs[j] = x at y0 y1 y2 y3 hcall hx
      replace hy := Aside0.mk hy
      replace hn := Aside0.mk hn
      replace h := Aside0.mk h
      cases hq : p x with
      | true =>
        rw [hq] at hcall
        go_wp2_with (go_at_fn g; refine hcall.mono ?_; rintro e w' ⟨rfl, hb'⟩)
        go_ret
        have := hx hq hn.out
        exact ⟨by rw [idxP, this, if_pos hjl]; rfl, below_then hb hb.size hb'⟩
      | false =>
        rw [hq] at hcall
        go_wp2_with (go_at_fn g; refine hcall.mono ?_; rintro e w' ⟨rfl, hb'⟩)
        go_roundw
        case rel =>
          refine ⟨j + 1, by omega, by go_num, h.out.grown (grown_of_below hb' none) (by simp), below_then hb hb.size hb', fun i hi hij => ?_⟩
          rcases Nat.lt_or_ge i j with h1 | h1
          · exact hn.out i hi h1
          · obtain rfl : i = j := by omega
            rw [hy.out]; exact hq
        case measure => simp [intOf]; omega
    · obtain rfl : j = xs.length := by omega
      have := idx_none (p := p) (xs := xs) fun i hi => hn i hi hi
      go_wp2
      go_ret
      exact ⟨by rw [idxP, this, if_neg (by omega)]; rfl, hb⟩
theorem idx_any (p : Rd → Bool) (xs : List Rd) : decide (0 ≤ idxP p xs) = xs.any p := by
  unfold idxP
  cases h : xs.any p with
  | true =>
    rw [if_pos (List.findIdx_lt_length.2 (by simpa using h))]
    simp
  | false =>
    rw [if_neg (by
      rw [List.findIdx_lt_length]
      rintro ⟨x, hx, h2⟩
      have : xs.any p = true := List.any_eq_true.2 ⟨x, hx, h2⟩
      rw [h] at this; cases this)]
    simp
set_option maxHeartbeats 4000000 in
set_option maxRecDepth 100000 in
theorem ContainsFunc_calls (base : Nat) (v : Value) (xs : List Rd) (p : Rd → Bool) (g : Nat) (lb : Array Value) (eg : ∀ args w, (callFunc g args).run Tryz.prog w = .ok (.enter g args) w) (w : World) (h : RowR w base v xs) (hl : xs.length ≤ 9223372036854775806) (hp : Preds w g lb p xs) :
    Calls Tryz.prog 88 #[v, .func (.func g) #[] lb] w fun e w' => e = .returned (.bool (xs.any p)) ∧ Below w.heap.size w w' := by
  have C := IndexFunc_calls base v xs p g lb eg w h hl hp
  rw [← idx_any]
  clear h hp eg
  generalize idxP p xs = i at C ⊢
  go_enter Tryz.func88, Tryz.ntmps88
  go_wp2_with (go_at_call 135; refine C.mono ?_; rintro e w' ⟨rfl, hb⟩)
  go_ret
  exact ⟨rfl, hb⟩
end Go.Proofs.YthaoedfalkebbaaGreat
namespace Go.Proofs.YthaoedfalkebbaaGreat
open Go.RowKit Go.Maps Go.Sort Go.Lib Go.Proofs.YthaoedfalkebbaaGreatW.PrintWords Go.Proofs.YthaoedfalkebbaaGreatW.PrintLast Go.Proofs.YthaoedfalkebbaaGreatW.PrintMore
set_option linter.unusedVariables false
set_option linter.unusedSimpArgs false
set_option linter.unusedSectionVars false
/-! ### the closures -/
abbrev boxR (x : Rd) : Obj := .cells #[.string x.t, .int .i64 x.k, .string x.f, .string x.u] 108 (0, 0)
theorem enters29 : ∀ args w, (callFunc 109 args).run Tryz.prog w = .ok (.enter 109 args) w := enters_of Tryz.func109 (by kernel_rfl) rfl
theorem enters32 : ∀ args w, (callFunc 113 args).run Tryz.prog w = .ok (.enter 113 args) w := enters_of Tryz.func113 (by kernel_rfl) rfl
theorem enters35 : ∀ args w, (callFunc 89 args).run Tryz.prog w = .ok (.enter 89 args) w := enters_of Tryz.func89 (by kernel_rfl) rfl
/-- a closure that holds one pointer to a block -/
def PredB (bx : Nat) (o : Obj) (g : Nat) (p : Rd → Bool) (xs : List Rd) : Prop :=
  ∀ (W : World) (x : Rd), x ∈ xs → W.heap[bx]? = some o → Calls Tryz.prog g #[mkR x, .pointer (some ⟨bx, 0, none⟩)] W fun e w' => e = .returned (.bool (p x)) ∧ Below W.heap.size W w'
theorem PredB.preds {bx : Nat} {o : Obj} {g : Nat} {p : Rd → Bool} {xs : List Rd} (H : PredB bx o g p xs) {w : World} (h : w.heap[bx]? = some o) : Preds w g #[.pointer (some ⟨bx, 0, none⟩)] p xs :=
  fun W x hx hb => H W x hx ((hb.block bx (Array.getElem?_eq_some_iff.1 h).1).trans h)
theorem PredB.less {bx : Nat} {o : Obj} {g : Nat} {p : Rd → Bool} {xs ys : List Rd} (H : PredB bx o g p xs) (h : ∀ y ∈ ys, y ∈ xs) : PredB bx o g p ys := fun W x hx => H W x (h x hx)
set_option maxHeartbeats 4000000 in
set_option maxRecDepth 100000 in
theorem pred29 (x : Rd) (bx : Nat) (xs : List Rd) (hx : x.OK) (hxs : ∀ y ∈ xs, y.OK) : PredB bx (boxR x) 109 (fun y => cov y x) xs := by
  intro W y hy h
  obtain ⟨w1, hw1⟩ : ∃ w1, w1 = W.alloc (.cells #[.string y.t, .int .i64 y.k, .string y.f, .string y.u] 108) := ⟨_, rfl⟩
  have B1 : Below W.heap.size W w1 := by rw [hw1]; exact boxed W y
  have oy : w1.heap[W.heap.size]? = some (boxR y) := by rw [hw1]; exact heap_alloc_new W _
  have ox := (B1.block bx (Array.getElem?_eq_some_iff.1 h).1).trans h
  obtain ⟨y0, y1, y2, y3⟩ := rd_cells oy
  obtain ⟨x0, x1, x2, x3⟩ := rd_cells ox
  have C := covers_calls y x (hxs y hy) hx w1
  show Calls Tryz.prog 109 #[.agg #[.string y.t, .int .i64 y.k, .string y.f, .string y.u], .pointer (some ⟨bx, 0, none⟩)] W fun e w' => e = .returned (.bool (cov y x)) ∧ Below W.heap.size W w'
  generalize cov y x = r at C ⊢
  clear oy ox hxs hx h
  go_enter Tryz.func109, Tryz.ntmps109
  go_upto_region 1 with (fail)
  rw [← hw1]
  clear hw1
  go_wp2_with fail
  refine C.mono ?_
  rintro e w3 ⟨rfl, D3⟩
  go_wp2
  go_ret
  exact ⟨rfl, below_then B1 B1.size D3⟩
set_option maxHeartbeats 4000000 in
set_option maxRecDepth 100000 in
theorem pred32 (x : Rd) (bx : Nat) (xs : List Rd) (hx : x.OK) (hxs : ∀ y ∈ xs, y.OK) : PredB bx (boxR x) 113 (fun y => cov x y) xs := by
  intro W y hy h
  obtain ⟨w1, hw1⟩ : ∃ w1, w1 = W.alloc (.cells #[.string y.t, .int .i64 y.k, .string y.f, .string y.u] 108) := ⟨_, rfl⟩
  have B1 : Below W.heap.size W w1 := by rw [hw1]; exact boxed W y
  have oy : w1.heap[W.heap.size]? = some (boxR y) := by rw [hw1]; exact heap_alloc_new W _
  have ox := (B1.block bx (Array.getElem?_eq_some_iff.1 h).1).trans h
  obtain ⟨y0, y1, y2, y3⟩ := rd_cells oy
  obtain ⟨x0, x1, x2, x3⟩ := rd_cells ox
  have C := covers_calls x y hx (hxs y hy) w1
  show Calls Tryz.prog 113 #[.agg #[.string y.t, .int .i64 y.k, .string y.f, .string y.u], .pointer (some ⟨bx, 0, none⟩)] W fun e w' => e = .returned (.bool (cov x y)) ∧ Below W.heap.size W w'
  generalize cov x y = r at C ⊢
  clear oy ox hxs hx h
  go_enter Tryz.func113, Tryz.ntmps113
  go_upto_region 1 with (fail)
  rw [← hw1]
  clear hw1
  go_wp2_with fail
  refine C.mono ?_
  rintro e w3 ⟨rfl, D3⟩
  go_wp2
  go_ret
  exact ⟨rfl, below_then B1 B1.size D3⟩
set_option maxHeartbeats 4000000 in
set_option maxRecDepth 100000 in
theorem holds_calls (y : Rd) (key : ByteArray) (W : World) : Calls Tryz.prog 90 #[.agg #[.string y.t, .int .i64 y.k, .string y.f, .string y.u], .string key] W fun e w' => e = .returned (.bool (holdB y key)) ∧ Below W.heap.size W w' := by
  have B1 := fun o => (Below.refl _ W).alloc (Nat.le_refl _) o
  unfold holdB
  by_cases k1 : y.k = 1
  · rw [if_pos k1]
    go_enter Tryz.func90, Tryz.ntmps90
    go_wp2
    all_goals
      go_ret
      exact ⟨by simp_all, B1 _⟩
  by_cases k2 : y.k = 2
  · rw [if_neg k1, if_pos k2]
    have hl := leq_less y.f.toList key.toList
    go_enter Tryz.func90, Tryz.ntmps90
    go_wp2
    all_goals
      go_ret
      refine ⟨?_, B1 _⟩
      clear B1
      simp_all [leq_less, leq_iff]
  · rw [if_neg k1, if_neg k2]
    go_enter Tryz.func90, Tryz.ntmps90
    go_wp2
    go_ret
    exact ⟨rfl, B1 _⟩
set_option maxHeartbeats 4000000 in
set_option maxRecDepth 100000 in
theorem pred35 (x : Rd) (bx : Nat) (xs : List Rd) : PredB bx (boxR x) 89 (fun y => holdB y x.f) xs := by
  intro W y hy h
  obtain ⟨w1, hw1⟩ : ∃ w1, w1 = W.alloc (.cells #[.string y.t, .int .i64 y.k, .string y.f, .string y.u] 108) := ⟨_, rfl⟩
  have B1 : Below W.heap.size W w1 := by rw [hw1]; exact boxed W y
  have oy : w1.heap[W.heap.size]? = some (boxR y) := by rw [hw1]; exact heap_alloc_new W _
  have ox := (B1.block bx (Array.getElem?_eq_some_iff.1 h).1).trans h
  obtain ⟨y0, y1, y2, y3⟩ := rd_cells oy
  obtain ⟨x0, x1, x2, x3⟩ := rd_cells ox
  have C := holds_calls y x.f w1
  show Calls Tryz.prog 89 #[.agg #[.string y.t, .int .i64 y.k, .string y.f, .string y.u], .pointer (some ⟨bx, 0, none⟩)] W fun e w' => e = .returned (.bool (holdB y x.f)) ∧ Below W.heap.size W w'
  generalize holdB y x.f = r at C ⊢
  clear oy ox h
  go_enter Tryz.func89, Tryz.ntmps89
  go_upto_region 1 with (fail)
  rw [← hw1]
  clear hw1
  go_wp2_with fail
  refine C.mono ?_
  rintro e w3 ⟨rfl, D3⟩
  go_wp2
  go_ret
  exact ⟨rfl, below_then B1 B1.size D3⟩
end Go.Proofs.YthaoedfalkebbaaGreat
namespace Go.Proofs.YthaoedfalkebbaaGreat
open Go.RowKit Go.Maps Go.Sort Go.Lib Go.Proofs.YthaoedfalkebbaaGreatW.PrintWords Go.Proofs.YthaoedfalkebbaaGreatW.PrintLast Go.Proofs.YthaoedfalkebbaaGreatW.PrintMore
set_option linter.unusedVariables false
set_option linter.unusedSimpArgs false
set_option linter.unusedSectionVars false
/-! ### a row of notes: an element stored, a rest cleared -/
def set4 (l : List Value) (i : Nat) (x : Rd) : List Value := (((l.set (i * 4) (.string x.t)).set (i * 4 + 1) (.int .i64 x.k)).set (i * 4 + 2) (.string x.f)).set (i * 4 + 3) (.string x.u)
theorem reps_set4 {xs : List Rd} {inner : List Value} (h : Reps (fun x cs => cs = cellsR x) 4 xs inner) (i : Nat) (hi : i < xs.length) (x : Rd) : Reps (fun x cs => cs = cellsR x) 4 (xs.set i x) (set4 inner i x) := by
  refine ⟨by simp [set4, h.1], fun j y hy => ?_⟩
  have hlen := h.1
  rw [List.getElem?_set] at hy
  by_cases e : i = j
  · subst e
    rw [if_pos rfl, if_pos hi] at hy
    injection hy with hy
    subst hy
    apply List.ext_getElem?
    intro t
    rw [List.getElem?_take, List.getElem?_drop]
    unfold set4 cellsR
    simp only [List.getElem?_set, List.length_set]
    match t with
    | 0 => rw [if_pos (by omega), if_neg (by omega), if_neg (by omega), if_neg (by omega), if_pos (by omega), if_pos (by omega)]; rfl
    | 1 => rw [if_pos (by omega), if_neg (by omega), if_neg (by omega), if_pos (by omega), if_pos (by omega)]; rfl
    | 2 => rw [if_pos (by omega), if_neg (by omega), if_pos (by omega), if_pos (by omega)]; rfl
    | 3 => rw [if_pos (by omega), if_pos (by omega), if_pos (by omega)]; rfl
    | t + 4 => rw [if_neg (by omega)]; rfl
  · rw [if_neg e] at hy
    have h2 : (inner.drop (j * 4)).take 4 = cellsR y := h.2 j y hy
    show ((set4 inner i x).drop (j * 4)).take 4 = cellsR y
    rw [← h2]
    apply List.ext_getElem?
    intro t
    rw [List.getElem?_take, List.getElem?_take, List.getElem?_drop, List.getElem?_drop]
    unfold set4
    simp only [List.getElem?_set, List.length_set]
    by_cases ht : t < 4
    · rw [if_pos ht, if_pos ht, if_neg (by omega), if_neg (by omega), if_neg (by omega), if_neg (by omega)]
    · rw [if_neg ht, if_neg ht]
def put4 (w : World) (g i : Nat) (x : Rd) : World := (((w.setCell ⟨g, i * 4, none⟩ (.string x.t)).setCell ⟨g, i * 4 + 1, none⟩ (.int .i64 x.k)).setCell ⟨g, i * 4 + 2, none⟩ (.string x.f)).setCell ⟨g, i * 4 + 3, none⟩ (.string x.u)
theorem put4_grown (w : World) (g i : Nat) (x : Rd) : w.grownBy (put4 w g i x) (some g) := trans_grown (trans_grown (trans_grown (grown_set w g _ _) (grown_set _ g _ _)) (grown_set _ g _ _)) (grown_set _ g _ _)
theorem RowR.put {w : World} {base g n c : Nat} {xs : List Rd} (h : RowR w base (.slice (some ⟨g, 0, none⟩) n c) xs) (i : Nat) (hi : i < xs.length) (x : Rd) : RowR (put4 w g i x) base (.slice (some ⟨g, 0, none⟩) n c) (xs.set i x) := by
  obtain ⟨inner, ⟨hl, hr⟩, hp⟩ := h
  refine ⟨set4 inner i x, ⟨by simp [set4, hl], ?_⟩, reps_set4 hp i hi x⟩
  rcases hr with ⟨h1, _⟩ | ⟨g', cap, cur, hv, hb, hh, hnc, hcm, hcs, ht⟩
  · cases h1
  · injection hv with e1 e2 e3
    injection e1 with e1
    injection e1 with e1
    subst e1
    subst e3
    refine .inr ⟨g, c, _, by rw [List.length_set, e2], hb, blk_set (blk_set (blk_set (blk_set hh _ _) _ _) _ _) _ _, by rw [List.length_set]; exact hnc, hcm, by simpa using hcs, ?_⟩
    rw [← ht, List.length_set]
    simp only [set4, Array.toList_setIfInBounds, List.take_set]
theorem zeros_len (z : Array Value) (n : Nat) : (Builtin.zeroCells z n).toList.length = n * z.size := by simp [Builtin.zeroCells]
theorem clear_row {w : World} {base g n c : Nat} {xs : List Rd} (h : RowR w base (.slice (some ⟨g, 0, none⟩) n c) xs) (i : Nat) (hi : i < n) (ty : TypeId) :
    ∃ w', (Builtin.clear_ #[118] ty #[.slice (some ⟨g, i * 4, none⟩) (n - i) (c - i)]).run Tryz.prog w = .ok (.tuple #[]) w' ∧ RowR w' base (.slice (some ⟨g, 0, none⟩) i c) (xs.take i) ∧ w.grownBy w' (some g) := by
  obtain ⟨inner, ⟨hl, hr⟩, hp⟩ := h
  rcases hr with ⟨h1, _⟩ | ⟨g', cap, cur, hv, hb, hh, hnc, hcm, hcs, ht⟩
  · cases h1
  · injection hv with e1 e2 e3
    injection e1 with e1
    injection e1 with e1
    subst e1
    subst e3
    subst e2
    obtain ⟨m, hm⟩ : ∃ m, xs.length - i = m + 1 := ⟨xs.length - i - 1, by omega⟩
    have hz := Tryz.zeroValue108
    obtain ⟨Z, hZ⟩ : ∃ Z, Z = (Builtin.zeroCells #[.string ⟨#[]⟩, .int .i64 0, .string ⟨#[]⟩, .string ⟨#[]⟩] (m + 1)).toList := ⟨_, rfl⟩
    have hZl : Z.length = (m + 1) * 4 := by rw [hZ, zeros_len]; rfl
    have hZ1 : ∀ v ∈ Z, v.oneCell' = true := by
      intro v hv
      rw [hZ] at hv
      simp only [Builtin.zeroCells, Array.mem_toList_iff, Array.mem_map] at hv
      obtain ⟨a, _, rfl⟩ := hv
      have : a % 4 < 4 := Nat.mod_lt _ (by omega)
      show (#[Value.string ⟨#[]⟩, .int .i64 0, .string ⟨#[]⟩, .string ⟨#[]⟩][a % 4]!).oneCell' = true
      generalize a % 4 = b at this
      match b, this with
      | 0, _ => rfl
      | 1, _ => rfl
      | 2, _ => rfl
      | 3, _ => rfl
    have hst := run_storeCells_at Tryz.prog g (i * 4) 108 Z 0 cur w hh (by omega) hZ1
    refine ⟨w.setRow g (cur.toList.take (i * 4 + 0) ++ Z ++ cur.toList.drop (i * 4 + 0 + Z.length)).toArray, ?_, ?_, ?_⟩
    · rw [hm]
      simp only [Builtin.clear_]
      simp only [List.getElem?_toArray, Nat.add_zero, List.append_assoc] at hst
      simp [run_underlying Tryz.underlying118, hz]
      rw [show (Value.agg #[Value.string ⟨#[]⟩, .int .i64 0, .string ⟨#[]⟩, .string ⟨#[]⟩]).cells = #[Value.string ⟨#[]⟩, .int .i64 0, .string ⟨#[]⟩, .string ⟨#[]⟩] from rfl, ← hZ, hst]
      rfl
    · refine ⟨inner.take (i * 4), ⟨by simp [hl] <;> omega, 
        .inr ⟨g, c, _, by rw [List.length_take, Nat.min_eq_left (by omega)], hb, setRow_heap w g cur _ 108 (0, 0) hh, by simp; omega, hcm, ?_, ?_⟩⟩, Kd.reps_take hp (by omega)⟩
      · simp [hZl]; omega
      · rw [← ht]
        simp only [List.length_take]
        rw [show min i xs.length = i by omega, Nat.add_zero, List.append_assoc, List.take_append_of_le_length (by simp; omega), List.take_take, List.take_take, show min (i * 4) (i * 4) = i * 4 by omega, show min (i * 4) (xs.length * 4) = i * 4 by omega]
    · exact ⟨rfl, rfl, rfl, by simp [World.setRow], fun j hj hne => by
        simp only [World.setRow]
        rw [Array.getElem?_modify, if_neg (fun e => hne (by rw [e]))]⟩
end Go.Proofs.YthaoedfalkebbaaGreat
namespace Go.Proofs.YthaoedfalkebbaaGreat
open Go.RowKit Go.Maps Go.Sort Go.Lib Go.Proofs.YthaoedfalkebbaaGreatW.PrintWords Go.Proofs.YthaoedfalkebbaaGreatW.PrintLast Go.Proofs.YthaoedfalkebbaaGreatW.PrintMore
set_option linter.unusedVariables false
set_option linter.unusedSimpArgs false
set_option linter.unusedSectionVars false
/-! ### DeleteFunc over a row of notes -/
instance : Inhabited Rd := ⟨⟨⟨#[]⟩, 0, ⟨#[]⟩, ⟨#[]⟩⟩⟩
theorem idx_cases (p : Rd → Bool) (xs : List Rd) : (xs.filter (fun y => !p y) = xs ∧ idxP p xs = -1) ∨ (∃ k, k < xs.length ∧ idxP p xs = (k : Int) ∧ p xs[k]! = true ∧ ∀ j, j < k → p xs[j]! = false) := by
  by_cases h : xs.findIdx p < xs.length
  · refine .inr ⟨xs.findIdx p, h, by rw [idxP, if_pos h], ?_, fun j hj => ?_⟩
    · rw [getElem!_pos xs _ h]
      exact List.findIdx_getElem
    · rw [getElem!_pos xs j (by omega)]
      have := List.not_of_lt_findIdx hj
      simpa using this
  · refine .inl ⟨?_, by rw [idxP, if_neg h]⟩
    rw [List.filter_eq_self]
    intro y hy
    have : xs.findIdx p = xs.length := Nat.le_antisymm List.findIdx_le_length (by omega)
    rw [List.findIdx_eq_length] at this
    rw [this y hy]; rfl
/-- what holds in the loop -/
structure DI (w : World) (base g c bx : Nat) (o : Obj) (p : Rd → Bool) (xs : List Rd) (j i : Nat) (ys : List Rd) (wr : World) : Prop where
  row : RowR wr base (.slice (some ⟨g, 0, none⟩) xs.length c) ys
  chg : w.grownBy wr (some g)
  kept : KeptInv (fun j => !p xs.toArray[j]!) xs.toArray j i ys.toArray
  box : wr.heap[bx]? = some o
theorem DI.len {w : World} {base g c bx : Nat} {o : Obj} {p : Rd → Bool} {xs : List Rd} {j i : Nat} {ys : List Rd} {wr : World} (h : DI w base g c bx o p xs j i ys wr) : ys.length = xs.length := by simpa using h.kept.size
theorem RowR.frozen {w : World} {base g n c : Nat} {xs : List Rd} (h : RowR w base (.slice (some ⟨g, 0, none⟩) n c) xs) (j : Nat) : w.frozen? ⟨g, j, none⟩ = false := by
  obtain ⟨_, _, cells, hc⟩ := h.typed g rfl
  exact blk_frozen hc j
set_option maxHeartbeats 8000000 in
set_option maxRecDepth 100000 in
theorem DeleteFunc_calls (base : Nat) (v : Value) (xs : List Rd) (p : Rd → Bool) (g : Nat) (bx : Nat) (o : Obj) (eg : ∀ args w, (callFunc g args).run Tryz.prog w = .ok (.enter g args) w) (w : World) (h : RowR w base v xs) (hl : xs.length ≤ 9223372036854775806) (hbx : w.heap[bx]? = some o) (hne : v.ownBlock ≠ some bx) (hp : PredB bx o g p xs) :
    Calls Tryz.prog 111 #[v, .func (.func g) #[] #[.pointer (some ⟨bx, 0, none⟩)]] w fun e w' => ∃ v', e = .returned v' ∧ RowR w' base v' (xs.filter fun y => !p y) ∧ w.grownBy w' v.ownBlock ∧ v'.ownBlock = v.ownBlock := by
  have C := IndexFunc_calls base v xs p g _ eg w h hl (hp.preds hbx)
  rcases idx_cases p xs with ⟨hf, hi⟩ | ⟨k0, hk0, hi, hp1, hp0⟩
  · rw [hi] at C
    rw [hf]
    go_enter Tryz.func111, Tryz.ntmps111
    go_wp2_with (go_at_call 135; refine C.mono ?_; rintro e w' ⟨rfl, hb⟩)
    go_ret
    exact ⟨_, rfl, h.grown (grown_of_below hb none) (by simp), grown_of_below hb _, rfl⟩
  · rw [hi] at C
    obtain ⟨A, c, rfl, hlc, hA⟩ := h.slice
    obtain ⟨gg, rfl, hgb⟩ := hA (by omega)
    have hgne : gg ≠ bx := fun e => hne (by rw [← e]; rfl)
    have hk0' : ¬ (k0 : Int) = -1 := by omega
    have hne1 : ((k0 : Int) == -1) = false := beq_eq_false_iff_ne.2 hk0'
    replace hp0 := Aside0.mk hp0
    go_enter Tryz.func111, Tryz.ntmps111
    go_wp2_with (go_at_call 135; refine C.mono ?_; rintro e w' ⟨rfl, hb⟩)
    go_loopw [5, 6, 7] (fun iv jv _ wr => ∃ (i j : Nat) (ys : List Rd), iv = .int .i64 i ∧ jv = .int .i64 j ∧ j ≤ xs.length ∧ DI w base gg c bx o p xs j i ys wr) (fun _ jv _ _ => xs.length - (intOf jv).toNat)
    case atStart =>
      refine ⟨k0, k0 + 1, xs, rfl, by go_num, by omega, h.grown (grown_of_below hb none) (by simp), grown_of_below hb _, KeptInv.start (fun j hj => ?_) ?_, (hb.block bx (Array.getElem?_eq_some_iff.1 hbx).1).trans hbx⟩
      · have := hp0.out j hj
        simpa using this
      · simpa using hp1
    case round =>
      clear C h hbx
      obtain ⟨i, j, ys, rfl, rfl, hj, I⟩ := hrel
      have hyl := I.len
      by_cases hjl : j < xs.length
      · have hjz : (j : Int) < (xs.length : Int) := by omega
        have hij := I.kept.lt
        obtain ⟨x, hx⟩ : ∃ x, x = xs[j] := ⟨_, rfl⟩
        have hyj : ys[j]? = some x := by
          have := I.kept.high j (by omega)
          rw [List.getElem?_eq_getElem (by omega), hx]
          have e1 : ys.toArray[j]! = ys[j]'(by omega) := by rw [getElem!_pos ys.toArray j (by simpa using (by omega : j < ys.length))]; simp
          have e2 : xs.toArray[j]! = xs[j] := by rw [getElem!_pos xs.toArray j (by simpa using hjl)]; simp
          rw [e1, e2] at this
          rw [this]
        obtain ⟨y0, y1, y2, y3⟩ := RowR.at I.row j x hyj
        obtain ⟨w1, hw1⟩ : ∃ w1, w1 = wr.alloc (.cells #[.string x.t, .int .i64 x.k, .string x.f, .string x.u] 108) := ⟨_, rfl⟩
        have B1 : Below wr.heap.size wr w1 := by rw [hw1]; exact boxed wr x
        have ob : w1.heap[wr.heap.size]? = some (boxR x) := by rw [hw1]; exact heap_alloc_new wr _
        have hcall := hp w1 x (by rw [hx]; exact List.getElem_mem hjl) ((B1.block bx (Array.getElem?_eq_some_iff.1 I.box).1).trans I.box)
        replace hx := Aside0.mk hx
        go_wp2_with fail
        rw [← hw1]
        clear hw1
        obtain ⟨b0, b1, b2, b3⟩ := rd_cells ob
        cases hq : p x with
        | true =>
          rw [hq] at hcall
          go_wp2_with fail
          refine hcall.mono ?_
          rintro e w2 ⟨rfl, hb'⟩
          have B2 := below_then B1 B1.size hb'
          go_wp2_with fail
          go_roundw
          case rel =>
            refine ⟨i, j + 1, ys, rfl, by go_num, by omega, I.row.grown (grown_of_below B2 none) (by simp), trans_grown I.chg (grown_of_below B2 _), I.kept.skip ?_, (B2.block bx (Array.getElem?_eq_some_iff.1 I.box).1).trans I.box⟩
            simp only [List.getElem!_toArray]
            rw [getElem!_pos xs j hjl, ← hx.out, hq]
            rfl
          case measure => simp [intOf]; omega
        | false =>
          rw [hq] at hcall
          go_wp2_with fail
          refine hcall.mono ?_
          rintro e w2 ⟨rfl, hb'⟩
          have B2 := below_then B1 B1.size hb'
          have R2 := I.row.grown (grown_of_below B2 none) (by simp)
          obtain ⟨z0, z1, z2, z3⟩ := RowR.at R2 i (ys[i]'(by omega)) (List.getElem?_eq_getElem (by omega))
          have fz := RowR.frozen R2
          obtain ⟨b0, b1, b2, b3⟩ := rd_cells ((hb'.block _ (Array.getElem?_eq_some_iff.1 ob).1).trans ob)
          have hin : i < xs.length := by omega
          have hinz : (i : Int) < (xs.length : Int) := by omega
          go_wp2_with fail
          go_roundw
          case rel =>
            refine ⟨i + 1, j + 1, ys.set i x, by go_num, by go_num, by omega, RowR.put R2 i (by omega) x, trans_grown (trans_grown I.chg (grown_of_below B2 _)) (put4_grown w2 gg i x), ?_, ?_⟩
            · have := I.kept.keep (by simpa using hjl) (by
                simp only [List.getElem!_toArray]
                rw [getElem!_pos xs j hjl, ← hx.out, hq]
                rfl)
              simp only [List.getElem!_toArray] at this
              rw [getElem!_pos xs j hjl, ← hx.out] at this
              simpa using this
            · show (put4 w2 gg i x).heap[bx]? = some o
              rw [(put4_grown w2 gg i x).block bx (Array.getElem?_eq_some_iff.1 ((B2.block bx (Array.getElem?_eq_some_iff.1 I.box).1).trans I.box)).1 (by simp; exact fun e => hgne e.symm)]
              exact (B2.block bx (Array.getElem?_eq_some_iff.1 I.box).1).trans I.box
          case measure => simp [intOf]; omega
      · obtain rfl : j = xs.length := by omega
        have hjz : ¬ (xs.length : Int) < (xs.length : Int) := by omega
        have hij := I.kept.lt
        have hci : ¬ c = i := by omega
        have hin : i ≤ xs.length := by omega
        obtain ⟨w3, hrun, R3, G3⟩ := clear_row I.row i hij 0
        have hfin : xs.filter (fun y => !p y) = ys.take i := by
          have h1 := keptUpTo_filter (fun y => !p y) xs.toArray
          have h2 := I.kept
          simp only [List.size_toArray] at h1
          have h3 : (keptUpTo (fun j => !p xs.toArray[j]!) xs.toArray xs.length).length = i := h2.len
          rw [show xs.filter (fun y => !p y) = keptUpTo (fun j => !p xs.toArray[j]!) xs.toArray xs.length from h1.symm]
          apply List.ext_getElem?
          intro t
          by_cases ht : t < i
          · rw [h2.low t ht, List.getElem?_take, if_pos ht, List.getElem!_toArray, getElem!_pos ys t (by omega), List.getElem?_eq_getElem]
          · rw [List.getElem?_eq_none (by omega), List.getElem?_eq_none (by simp; omega)]
        go_wp2
        go_ret
        exact ⟨_, rfl, R3, trans_grown I.chg G3, rfl⟩
end Go.Proofs.YthaoedfalkebbaaGreat
