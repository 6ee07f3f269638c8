import Derived.Test.YteikmnokmcnmcaaGD
import Derived.Shelf.SlSorted.Search
namespace Go.Proofs.Yteikmnokmcnmcaa
open Go.RowKit Go.Maps Go.Sort Go.Lib Go.Proofs.YteikmnokmcnmcaaW.PrintWords Go.Proofs.YteikmnokmcnmcaaW.PrintLast Go.Proofs.YteikmnokmcnmcaaW.PrintMore
set_option linter.unusedVariables false
set_option linter.unusedSimpArgs false
set_option linter.unusedSectionVars false
/-- a note of a read -/
structure Rd where
  t : ByteArray
  k : Int
  f : ByteArray
  u : ByteArray
def Rd.cells (x : Rd) : List Value := [.string x.t, .int .i64 x.k, .string x.f, .string x.u]
structure Rd.OK (x : Rd) : Prop where
  t : x.t.size ≤ reachBytes
  k : (Lit.int .i64 x.k).wf = true
  f : x.f.size ≤ reachBytes
  u : x.u.size ≤ reachBytes
def mayB (x : Rd) : Bool := if x.k = 3 then x.f.toList.isEmpty && x.u.toList.isEmpty else if x.k = 1 then x.u.toList.isEmpty else if x.k = 2 then x.u.toList.isEmpty || Op.bytesLess x.f.toList x.u.toList else false
theorem gtr_less (a b : List UInt8) : (!Op.bytesLess a b && !a == b) = Op.bytesLess b a := by
  rw [bytesLess_eq, bytesLess_eq, Bool.eq_iff_iff]
  simp only [Bool.and_eq_true, Bool.not_eq_true', decide_eq_false_iff_not, decide_eq_true_eq, beq_eq_false_iff_ne]
  constructor
  · rintro ⟨h1, h2⟩
    rcases Classical.em (b < a) with h3 | h3
    · exact h3
    · exact absurd (List.le_antisymm (List.not_lt.1 h3) (List.not_lt.1 h1)) h2
  · intro h
    refine ⟨fun h2 => List.lt_irrefl _ (List.lt_trans h h2), ?_⟩
    rintro rfl
    exact List.lt_irrefl _ h
theorem add_zero_byte (f : ByteArray) (hf : f.size ≤ reachBytes) (W : World) : (Op.stringOp .add f ⟨#[0]⟩).run Try.prog W = .ok (.string (f ++ ⟨#[0]⟩)) W := by
  refine run_string_add_sum W f ⟨#[0]⟩ ?_
  have : reachBytes ≤ 140737488355328 := by decide
  have h2 : (⟨#[0]⟩ : ByteArray).size = 1 := rfl
  omega
set_option maxHeartbeats 1000000 in
set_option maxRecDepth 100000 in
theorem may_calls (x : Rd) (w : World) : Calls Try.prog 24 #[.agg #[.string x.t, .int .i64 x.k, .string x.f, .string x.u]] w fun e w' => e = .returned (.bool (mayB x)) ∧ Below w.heap.size w w' := by
  have hB : Below w.heap.size w (w.alloc (.cells #[.string x.t, .int .i64 x.k, .string x.f, .string x.u] 23)) := (Below.refl _ w).alloc (Nat.le_refl _) _
  obtain ⟨t, k, f, u⟩ := x
  dsimp only at hB ⊢
  by_cases h3 : k = 3
  · subst h3
    go_enter Try.func24, Try.ntmps24
    go_wp2
    all_goals
      go_ret
      exact ⟨by unfold mayB; simp_all [gtr_less], hB⟩
  by_cases h1 : k = 1
  · subst h1
    go_enter Try.func24, Try.ntmps24
    go_wp2
    all_goals
      go_ret
      exact ⟨by unfold mayB; simp_all [gtr_less], hB⟩
  by_cases h2 : k = 2
  · subst h2
    go_enter Try.func24, Try.ntmps24
    go_wp2
    all_goals
      go_ret
      exact ⟨by unfold mayB; simp_all [gtr_less], hB⟩
  have e3 : (k == 3) = false := by simpa using h3
  have e1 : (k == 1) = false := by simpa using h1
  have e2 : (k == 2) = false := by simpa using h2
  go_enter Try.func24, Try.ntmps24
  go_wp2
  go_ret
  exact ⟨by unfold mayB; simp_all [gtr_less], hB⟩
set_option maxHeartbeats 1000000 in
set_option maxRecDepth 100000 in
theorem May_calls (x : Rd) (w : World) : Calls Try.prog 16 #[.agg #[.string x.t, .int .i64 x.k, .string x.f, .string x.u]] w fun e w' => e = .returned (.bool (mayB x)) ∧ Below w.heap.size w w' := by
  have hB : Below w.heap.size w (w.alloc (.cells #[.string x.t, .int .i64 x.k, .string x.f, .string x.u] 23)) := (Below.refl _ w).alloc (Nat.le_refl _) _
  obtain ⟨t, k, f, u⟩ := x
  dsimp only at hB ⊢
  by_cases h3 : k = 3
  · subst h3
    go_enter Try.func16, Try.ntmps16
    go_wp2
    all_goals
      go_ret
      exact ⟨by unfold mayB; simp_all [gtr_less], hB⟩
  by_cases h1 : k = 1
  · subst h1
    go_enter Try.func16, Try.ntmps16
    go_wp2
    all_goals
      go_ret
      exact ⟨by unfold mayB; simp_all [gtr_less], hB⟩
  by_cases h2 : k = 2
  · subst h2
    go_enter Try.func16, Try.ntmps16
    go_wp2
    all_goals
      go_ret
      exact ⟨by unfold mayB; simp_all [gtr_less], hB⟩
  have e3 : (k == 3) = false := by simpa using h3
  have e1 : (k == 1) = false := by simpa using h1
  have e2 : (k == 2) = false := by simpa using h2
  go_enter Try.func16, Try.ntmps16
  go_wp2
  go_ret
  exact ⟨by unfold mayB; simp_all [gtr_less], hB⟩
/-- a note's keys, as a range -/
def spn (x : Rd) : ByteArray × ByteArray × Bool := if x.k = 1 then (x.f, x.f ++ ⟨#[0]⟩, true) else if x.k = 2 then (x.f, x.u, !x.u.toList.isEmpty) else (⟨#[]⟩, ⟨#[]⟩, false)
set_option maxHeartbeats 1000000 in
set_option maxRecDepth 100000 in
theorem span_calls (x : Rd) (hx : x.OK) (w : World) : Calls Try.prog 47 #[.agg #[.string x.t, .int .i64 x.k, .string x.f, .string x.u]] w fun e w' => e = .returned (.tuple #[.string (spn x).1, .string (spn x).2.1, .bool (spn x).2.2]) ∧ Below w.heap.size w w' := by
  obtain ⟨w1, hw1⟩ : ∃ w1, w1 = w.alloc (.cells #[.string x.t, .int .i64 x.k, .string x.f, .string x.u] 23) := ⟨_, rfl⟩
  have hB : Below w.heap.size w w1 := by rw [hw1]; exact (Below.refl _ w).alloc (Nat.le_refl _) _
  have c1 : w1.cell? ⟨w.heap.size, 1, none⟩ = some (.int .i64 x.k) := by rw [hw1]; simp [go_sem]
  have c2 : w1.cell? ⟨w.heap.size, 2, none⟩ = some (.string x.f) := by rw [hw1]; simp [go_sem]
  have c3 : w1.cell? ⟨w.heap.size, 3, none⟩ = some (.string x.u) := by rw [hw1]; simp [go_sem]
  have hf := hx.f
  have hfs : x.f.size ≤ 9223372036854775806 := Nat.le_trans hf (by decide)
  have hadd : ∀ W, (Op.stringOp .add x.f ⟨#[0]⟩).run Try.prog W = .ok (.string (x.f ++ ⟨#[0]⟩)) W := add_zero_byte x.f hf
  clear hx hf
  obtain ⟨t, k, f, u⟩ := x
  dsimp only at hw1 c1 c2 c3 hfs hadd ⊢
  by_cases h1 : k = 1
  · subst h1
    go_enter Try.func47, Try.ntmps47
    go_upto_region 1 with (fail)
    rw [← hw1]
    clear hw1
    go_wp2_with fail
    go_region_held3 (fun W => W.cell? ⟨w.heap.size, 1, none⟩ = some (.int .i64 1) ∧ W.cell? ⟨w.heap.size, 2, none⟩ = some (.string f) ∧ W.cell? ⟨w.heap.size, 3, none⟩ = some (.string u)) (exact ⟨c1, c2, c3⟩) (fail)
    go_wp2
    exact bodyPost_ret (v := .tuple #[.string f, .string (f ++ ⟨#[0]⟩), .bool true]) (by simp [results, Try.results47, go_sem]) rfl ⟨rfl, hB.os, hB.tape, hB.output, hB.size, hB.block⟩
  by_cases h2 : k = 2
  · subst h2
    go_enter Try.func47, Try.ntmps47
    go_upto_region 1 with (fail)
    rw [← hw1]
    clear hw1
    go_wp2_with fail
    go_region_held3 (fun W => W.cell? ⟨w.heap.size, 1, none⟩ = some (.int .i64 2) ∧ W.cell? ⟨w.heap.size, 2, none⟩ = some (.string f) ∧ W.cell? ⟨w.heap.size, 3, none⟩ = some (.string u)) (exact ⟨c1, c2, c3⟩) (fail)
    go_wp2
    exact bodyPost_ret (v := .tuple #[.string f, .string u, .bool (!u.toList.isEmpty)]) (by simp [results, Try.results47, go_sem]) rfl ⟨rfl, hB.os, hB.tape, hB.output, hB.size, hB.block⟩
  have e1 : (k == 1) = false := by simpa using h1
  have e2 : (k == 2) = false := by simpa using h2
  have es : spn ⟨t, k, f, u⟩ = (⟨#[]⟩, ⟨#[]⟩, false) := by simp [spn, h1, h2]
  rw [es]
  go_enter Try.func47, Try.ntmps47
  go_upto_region 1 with (fail)
  rw [← hw1]
  clear hw1
  go_wp2
  exact bodyPost_ret (v := .tuple #[.string ⟨#[]⟩, .string ⟨#[]⟩, .bool false]) (by simp [results, Try.results47, go_sem]) rfl ⟨rfl, hB⟩
set_option maxHeartbeats 1000000 in
set_option maxRecDepth 100000 in
theorem ends_calls (x : Rd) (hx : x.OK) (w : World) : Calls Try.prog 26 #[.agg #[.string x.t, .int .i64 x.k, .string x.f, .string x.u]] w fun e w' => e = .returned (.tuple #[.string (spn x).1, .string (spn x).2.1, .bool (spn x).2.2]) ∧ Below w.heap.size w w' := by
  obtain ⟨w1, hw1⟩ : ∃ w1, w1 = w.alloc (.cells #[.string x.t, .int .i64 x.k, .string x.f, .string x.u] 23) := ⟨_, rfl⟩
  have hB : Below w.heap.size w w1 := by rw [hw1]; exact (Below.refl _ w).alloc (Nat.le_refl _) _
  have c1 : w1.cell? ⟨w.heap.size, 1, none⟩ = some (.int .i64 x.k) := by rw [hw1]; simp [go_sem]
  have c2 : w1.cell? ⟨w.heap.size, 2, none⟩ = some (.string x.f) := by rw [hw1]; simp [go_sem]
  have c3 : w1.cell? ⟨w.heap.size, 3, none⟩ = some (.string x.u) := by rw [hw1]; simp [go_sem]
  have hf := hx.f
  have hfs : x.f.size ≤ 9223372036854775806 := Nat.le_trans hf (by decide)
  have hadd : ∀ W, (Op.stringOp .add x.f ⟨#[0]⟩).run Try.prog W = .ok (.string (x.f ++ ⟨#[0]⟩)) W := add_zero_byte x.f hf
  clear hx hf
  obtain ⟨t, k, f, u⟩ := x
  dsimp only at hw1 c1 c2 c3 hfs hadd ⊢
  by_cases h1 : k = 1
  · subst h1
    go_enter Try.func26, Try.ntmps26
    go_upto_region 1 with (fail)
    rw [← hw1]
    clear hw1
    go_wp2_with fail
    go_region_held3 (fun W => W.cell? ⟨w.heap.size, 1, none⟩ = some (.int .i64 1) ∧ W.cell? ⟨w.heap.size, 2, none⟩ = some (.string f) ∧ W.cell? ⟨w.heap.size, 3, none⟩ = some (.string u)) (exact ⟨c1, c2, c3⟩) (fail)
    go_wp2
    exact bodyPost_ret (v := .tuple #[.string f, .string (f ++ ⟨#[0]⟩), .bool true]) (by simp [results, Try.results26, go_sem]) rfl ⟨rfl, hB.os, hB.tape, hB.output, hB.size, hB.block⟩
  by_cases h2 : k = 2
  · subst h2
    go_enter Try.func26, Try.ntmps26
    go_upto_region 1 with (fail)
    rw [← hw1]
    clear hw1
    go_wp2_with fail
    go_region_held3 (fun W => W.cell? ⟨w.heap.size, 1, none⟩ = some (.int .i64 2) ∧ W.cell? ⟨w.heap.size, 2, none⟩ = some (.string f) ∧ W.cell? ⟨w.heap.size, 3, none⟩ = some (.string u)) (exact ⟨c1, c2, c3⟩) (fail)
    go_wp2
    exact bodyPost_ret (v := .tuple #[.string f, .string u, .bool (!u.toList.isEmpty)]) (by simp [results, Try.results26, go_sem]) rfl ⟨rfl, hB.os, hB.tape, hB.output, hB.size, hB.block⟩
  have e1 : (k == 1) = false := by simpa using h1
  have e2 : (k == 2) = false := by simpa using h2
  have es : spn ⟨t, k, f, u⟩ = (⟨#[]⟩, ⟨#[]⟩, false) := by simp [spn, h1, h2]
  rw [es]
  go_enter Try.func26, Try.ntmps26
  go_upto_region 1 with (fail)
  rw [← hw1]
  clear hw1
  go_wp2
  exact bodyPost_ret (v := .tuple #[.string ⟨#[]⟩, .string ⟨#[]⟩, .bool false]) (by simp [results, Try.results26, go_sem]) rfl ⟨rfl, hB⟩
end Go.Proofs.Yteikmnokmcnmcaa
