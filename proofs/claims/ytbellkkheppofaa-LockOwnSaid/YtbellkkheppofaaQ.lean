import Derived.Test.YtbellkkheppofaaP
namespace Go.Proofs.Ytbellkkheppofaa
open Go.RowKit Go.Maps Go.Sort Go.Proofs.YtbellkkheppofaaW.PrintWords Go.Proofs.YtbellkkheppofaaW.PrintLast Go.Proofs.YtbellkkheppofaaW.PrintMore
set_option linter.unusedVariables false
set_option linter.unusedSimpArgs false
set_option linter.unusedSectionVars false
set_option maxHeartbeats 4000000 in
set_option maxRecDepth 100000 in
theorem Holder_calls (p b : Nat) (most : Int) (L : List (Lk × Int)) (a : Lk) (w : World) (h : Mg w p b most L) (ha : okL a) :
    Calls Try.prog 13 #[.pointer (some ⟨p, 0, none⟩), .agg #[.string a.1, .string a.2]] w fun e w' => e = .returned (.tuple #[.int .i64 ((got L a).getD 0), .bool (got L a).isSome]) ∧ Below w.heap.size w w' := by
  obtain ⟨w1, hw1⟩ : ∃ w1, w1 = w.alloc (.cells #[.string a.1, .string a.2] 23) := ⟨_, rfl⟩
  have hB : Below w.heap.size w w1 := by rw [hw1]; exact (Below.refl _ w).alloc (Nat.le_refl _) _
  have hm1 : w1.cell? ⟨p, 1, none⟩ = some (.map (some b)) := (hB.cell (World.block_lt_of_cell? _ _ h.map)).trans h.map
  have ht1 : TabL w1 b L.length L := h.tab.kept (row := none) (by rw [hw1]; exact World.grownBy_alloc _ _ _) (by simp)
  have hc1 : w1.cell? ⟨w.heap.size, 0, none⟩ = some (.string a.1) := by rw [hw1]; simp [go_sem]
  have hc2 : w1.cell? ⟨w.heap.size, 1, none⟩ = some (.string a.2) := by rw [hw1]; simp [go_sem]
  have N := none_calls p b w1 hm1
  have hlook := Tab.look (w := w1.drew) (t := 54) keyL Try.underlying54 Try.underlying2 (show TabL w1.drew b L.length L from ht1) (by kernel_rfl) ha
  unfold mkL at hlook
  generalize (got L a).getD 0 = r1 at hlook ⊢
  generalize (got L a).isSome = r2 at hlook ⊢
  clear h ht1
  go_enter Try.func13, Try.ntmps13
  go_wp2_with fail
  rw [← hw1]
  clear hw1
  refine N.mono ?_
  rintro e w' ⟨rfl, rfl⟩
  go_wp2
  go_region_held3 (fun W => W.cell? ⟨p, 1, none⟩ = some (.map (some b)) ∧ W.cell? ⟨w.heap.size, 0, none⟩ = some (.string a.1) ∧ W.cell? ⟨w.heap.size, 1, none⟩ = some (.string a.2)) (first | exact ⟨hm1, hc1, hc2⟩) (fail)
  go_wp2
  go_ret2
  exact ⟨rfl, hB.os, hB.tape, hB.output, hB.size, hB.block⟩
/-! ### LockOne: plain -/
def fsts (L : List (Lk × Int)) : List Lk := L.map (·.1)
def snds (L : List (Lk × Int)) : List Int := L.map (·.2)
/-- the release by the lists: of M the first i have been gone through -/
structure Gone (L : List (Lk × Int)) (tx : Int) (M : List (Lk × Int)) (i n : Nat) : Prop where
  ex : ∃ pre post, L = pre ++ post ∧ M = pre.filter (fun p => decide (p.2 ≠ tx)) ++ post ∧ i = (pre.filter (fun p => decide (p.2 ≠ tx))).length ∧ n = (pre.filter (fun p => decide (p.2 = tx))).length
theorem Gone.start (L : List (Lk × Int)) (tx : Int) : Gone L tx L 0 0 := ⟨[], L, rfl, rfl, rfl, rfl⟩
theorem Gone.le {L M : List (Lk × Int)} {tx : Int} {i n : Nat} (h : Gone L tx M i n) : i ≤ M.length ∧ M.length ≤ L.length ∧ n ≤ L.length := by
  obtain ⟨pre, post, rfl, rfl, rfl, rfl⟩ := h
  have h1 := List.length_filter_le (fun p : Lk × Int => decide (p.2 ≠ tx)) pre
  have h2 := List.length_filter_le (fun p : Lk × Int => decide (p.2 = tx)) pre
  simp only [List.length_append]
  omega
theorem Gone.keep {L M : List (Lk × Int)} {tx : Int} {i n : Nat} (h : Gone L tx M i n) (hi : i < M.length) (hne : (M[i]).2 ≠ tx) : Gone L tx M (i + 1) n := by
  obtain ⟨pre, post, rfl, rfl, rfl, rfl⟩ := h
  cases post with
  | nil => simp at hi
  | cons q post =>
    have e : q.2 ≠ tx := by simpa using hne
    exact ⟨pre ++ [q], post, by simp, by simp [List.filter_append, e], by simp [List.filter_append, e], by simp [List.filter_append, e]⟩
theorem Gone.drop {L M : List (Lk × Int)} {tx : Int} {i n : Nat} (h : Gone L tx M i n) (hi : i < M.length) (he : (M[i]).2 = tx) : Gone L tx (M.eraseIdx i) i (n + 1) := by
  obtain ⟨pre, post, rfl, rfl, rfl, rfl⟩ := h
  cases post with
  | nil => simp at hi
  | cons q post =>
    have e : q.2 = tx := by simpa using he
    refine ⟨pre ++ [q], post, by simp, ?_, by simp [List.filter_append, e], by simp [List.filter_append, e]⟩
    rw [List.eraseIdx_append_of_length_le (Nat.le_refl _)]
    simp [List.filter_append, e]
theorem Gone.done {L M : List (Lk × Int)} {tx : Int} {n : Nat} (h : Gone L tx M M.length n) : M = L.filter (fun p => decide (p.2 ≠ tx)) ∧ n = (L.filter (fun p => decide (p.2 = tx))).length := by
  obtain ⟨pre, post, rfl, rfl, h1, rfl⟩ := h
  have hp : post = [] := by
    rw [List.length_append] at h1
    exact List.eq_nil_of_length_eq_zero (by omega)
  subst hp
  simp
/-- who holds it among the first so many -/
def hold (L : List (Lk × Int)) (a : Lk) (k : Nat) : Int := (got (L.take k) a).getD 0
theorem hold_succ {L : List (Lk × Int)} (hL : L.Pairwise (fun p p' => p.1 ≠ p'.1)) (a : Lk) {k : Nat} (hk : k < L.length) : hold L a (k + 1) = if (L[k]).1 = a then (L[k]).2 else hold L a k := by
  have hL' : (L.take (k + 1)).Pairwise (fun p p' => p.1 ≠ p'.1) := hL.sublist (List.take_sublist _ _)
  unfold hold
  by_cases e : (L[k]).1 = a
  · rw [if_pos e]
    have hm : (a, (L[k]).2) ∈ L.take (k + 1) := by
      rw [List.take_succ_eq_append_getElem hk]
      exact List.mem_append_right _ (by rw [← e]; exact List.mem_singleton.2 rfl)
    rw [mem_got hL' hm]
    rfl
  · rw [if_neg e, List.take_succ_eq_append_getElem hk]
    congr 1
    unfold got
    rw [List.find?_append]
    simp [e]
theorem hold_all (L : List (Lk × Int)) (a : Lk) : hold L a L.length = (got L a).getD 0 := by
  unfold hold
  rw [List.take_length]
end Go.Proofs.Ytbellkkheppofaa
