import Derived.Test.YtedcnpaomphffaaGC
import Derived.Lib.SlicesCompact
namespace Go.Proofs.Ytedcnpaomphffaa
open Go.RowKit Go.Maps Go.Sort Go.Lib Go.Proofs.YtedcnpaomphffaaW.PrintWords Go.Proofs.YtedcnpaomphffaaW.PrintLast Go.Proofs.YtedcnpaomphffaaW.PrintMore
set_option linter.unusedVariables false
set_option linter.unusedSimpArgs false
set_option linter.unusedSectionVars false
/-! ### numbers, rising, each once -/
theorem strict_unique : ∀ {xs ys : List Int}, xs.Pairwise (· < ·) → ys.Pairwise (· < ·) → (∀ x, x ∈ xs ↔ x ∈ ys) → xs = ys
  | [], [], _, _, _ => rfl
  | [], y :: ys, _, _, h => by have := (h y).2 List.mem_cons_self; cases this
  | x :: xs, [], _, _, h => by have := (h x).1 List.mem_cons_self; cases this
  | x :: xs, y :: ys, hx, hy, h => by
    rw [List.pairwise_cons] at hx hy
    have hxy : x = y := by
      rcases List.mem_cons.1 ((h x).1 List.mem_cons_self) with e | e
      · exact e
      · rcases List.mem_cons.1 ((h y).2 List.mem_cons_self) with f | f
        · exact f.symm
        · have := hx.1 y f
          have := hy.1 x e
          omega
    subst hxy
    rw [strict_unique hx.2 hy.2 (fun z => ?_)]
    constructor
    · intro hz
      rcases List.mem_cons.1 ((h z).1 (List.mem_cons_of_mem _ hz)) with e | e
      · have := hx.1 z hz; omega
      · exact e
    · intro hz
      rcases List.mem_cons.1 ((h z).2 (List.mem_cons_of_mem _ hz)) with e | e
      · have := hy.1 z hz; omega
      · exact e
theorem compact_rises (zs : List Int) (hz : zs.Pairwise (· ≤ ·)) : ∀ m, m ≤ zs.length → (compactUpTo zs.toArray m).Pairwise (· < ·) ∧ ∀ x, x ∈ compactUpTo zs.toArray m ↔ x ∈ zs.take m
  | 0, _ => by simp [compactUpTo]
  | m + 1, hm => by
    obtain ⟨h1, h2⟩ := compact_rises zs hz m (by omega)
    have hg : ∀ j (hj : j < zs.length), zs.toArray[j]! = zs[j] := fun j hj => by rw [getElem!_pos _ _ (by simpa using hj)]; simp
    have hle : ∀ x ∈ zs.take m, x ≤ zs[m] := by
      intro x hx
      obtain ⟨j, hj, rfl⟩ := List.mem_iff_getElem.1 hx
      rw [List.getElem_take]
      rw [List.length_take] at hj
      exact List.pairwise_iff_getElem.1 hz j m (by omega) (by omega) (by omega)
    rw [compactUpTo_succ, List.take_succ_eq_append_getElem hm, hg m hm]
    by_cases hk : keeps zs.toArray m = true
    · rw [if_pos hk]
      refine ⟨?_, fun x => by simp only [List.mem_append, List.mem_singleton, h2]⟩
      rw [List.pairwise_append]
      refine ⟨h1, List.pairwise_singleton _ _, fun x hx y hy => ?_⟩
      rw [List.mem_singleton.1 hy]
      have hx' := (h2 x).1 hx
      have := hle x hx'
      rcases Int.lt_or_eq_of_le this with h | h
      · exact h
      · exfalso
        simp only [keeps, decide_eq_true_eq] at hk
        rcases hk with hk | hk
        · subst hk; simp at hx'
        · have hm0 : 0 < m := by
            rcases Nat.eq_zero_or_pos m with h0 | h0
            · subst h0; simp at hx'
            · exact h0
          rw [hg m hm, hg (m - 1) (by omega)] at hk
          obtain ⟨j, hj, rfl⟩ := List.mem_iff_getElem.1 hx'
          rw [List.getElem_take] at h
          rw [List.length_take] at hj
          have a1 : zs[j] ≤ zs[m - 1] := by
            rcases Nat.lt_or_ge j (m - 1) with h3 | h3
            · exact List.pairwise_iff_getElem.1 hz j (m - 1) (by omega) (by omega) h3
            · have : j = m - 1 := by omega
              subst this
              exact Int.le_refl _
          have a2 : zs[m - 1] ≤ zs[m] := List.pairwise_iff_getElem.1 hz (m - 1) m (by omega) (by omega) (by omega)
          exact hk (by omega)
    · rw [if_neg hk, List.append_nil]
      refine ⟨h1, fun x => ?_⟩
      rw [h2, List.mem_append, List.mem_singleton]
      constructor
      · exact .inl
      · rintro (h | rfl)
        · exact h
        · simp only [keeps, decide_eq_true_eq] at hk
          have hm0 : m ≠ 0 := fun e => hk (.inl e)
          have he : zs.toArray[m]! = zs.toArray[m - 1]! := Classical.byContradiction fun e => hk (.inr e)
          rw [hg m hm, hg (m - 1) (by omega)] at he
          rw [he]
          exact List.mem_iff_getElem.2 ⟨m - 1, by rw [List.length_take]; omega, by rw [List.getElem_take]⟩
def rise (xs : List Int) : List Int := compactUpTo (xs.mergeSort fun x y => decide (x ≤ y)).toArray xs.length
theorem sorted_le (xs : List Int) : (xs.mergeSort fun x y => decide (x ≤ y)).Pairwise (· ≤ ·) := by
  have := List.pairwise_mergeSort (le := fun x y : Int => decide (x ≤ y)) (fun a b c h k => by simp at *; omega) (fun a b => by simp; omega) xs
  exact this.imp (fun h => by simpa using h)
theorem rise_spec (xs : List Int) : (rise xs).Pairwise (· < ·) ∧ ∀ x, x ∈ rise xs ↔ x ∈ xs := by
  have hl : (xs.mergeSort fun x y => decide (x ≤ y)).length = xs.length := by simp
  obtain ⟨h1, h2⟩ := compact_rises _ (sorted_le xs) xs.length (by omega)
  refine ⟨h1, fun x => ?_⟩
  unfold rise
  rw [h2, ← hl, List.take_length, List.mem_mergeSort]
theorem rise_eq {xs ys : List Int} (h : ys.Pairwise (· < ·)) (hm : ∀ x, x ∈ ys ↔ x ∈ xs) : ys = rise xs :=
  strict_unique h (rise_spec xs).1 (fun x => by rw [hm, (rise_spec xs).2])
theorem rise_congr {xs ys : List Int} (hm : ∀ x, x ∈ xs ↔ x ∈ ys) : rise xs = rise ys := rise_eq (rise_spec xs).1 (fun x => by rw [(rise_spec xs).2, hm])
theorem rise_length (xs : List Int) : (rise xs).length ≤ xs.length := by
  unfold rise compactUpTo
  rw [List.length_map]
  exact Nat.le_trans (List.length_filter_le _ _) (by simp)
theorem insert_rises {xs : List Int} (h : xs.Pairwise (· < ·)) (x : Int) (i : Nat) (hi : i ≤ xs.length) (h1 : ∀ j (hj : j < xs.length), j < i → xs[j] < x) (h2 : ∀ hj : i < xs.length, x < xs[i]) : (xs.take i ++ [x] ++ xs.drop i).Pairwise (· < ·) := by
  have hd : ∀ y ∈ xs.drop i, x < y := by
    intro y hy
    obtain ⟨j, hj, rfl⟩ := List.mem_iff_getElem.1 hy
    rw [List.length_drop] at hj
    rw [List.getElem_drop]
    have h3 := h2 (by omega)
    rcases Nat.eq_zero_or_pos j with h0 | h0
    · subst h0; exact h3
    · have := List.pairwise_iff_getElem.1 h i (i + j) (by omega) (by omega) (by omega)
      omega
  have ht : ∀ y ∈ xs.take i, y < x := by
    intro y hy
    obtain ⟨j, hj, rfl⟩ := List.mem_iff_getElem.1 hy
    rw [List.length_take] at hj
    rw [List.getElem_take]
    exact h1 j (by omega) (by omega)
  have h3 : (xs.take i ++ xs.drop i).Pairwise (· < ·) := by rw [List.take_append_drop]; exact h
  rw [List.pairwise_append] at h3
  rw [List.append_assoc, List.pairwise_append]
  refine ⟨h3.1, ?_, ?_⟩
  · rw [List.singleton_append, List.pairwise_cons]
    exact ⟨hd, h3.2.1⟩
  · intro y hy z hz
    rw [List.singleton_append] at hz
    rcases List.mem_cons.1 hz with rfl | hz
    · exact ht y hy
    · exact h3.2.2 y hy z hz
theorem insert_mem (xs : List Int) (x : Int) (i : Nat) : ∀ z, z ∈ xs.take i ++ [x] ++ xs.drop i ↔ z ∈ xs ∨ z = x := by
  intro z
  have e : z ∈ xs ↔ z ∈ xs.take i ∨ z ∈ xs.drop i := by
    rw [← List.mem_append, List.take_append_drop]
  rw [e]
  simp only [List.mem_append, List.mem_singleton]
  constructor
  · rintro ((h | h) | h)
    · exact .inl (.inl h)
    · exact .inr h
    · exact .inl (.inr h)
  · rintro ((h | h) | h)
    · exact .inl (.inl h)
    · exact .inr h
    · exact .inl (.inr h)
theorem take_mem {xs : List Int} {j : Nat} (hj : j < xs.length) : ∀ z, z ∈ xs.take (j + 1) ↔ z ∈ xs.take j ∨ z = xs[j] := by
  intro z
  rw [List.take_succ_eq_append_getElem hj, List.mem_append, List.mem_singleton]
end Go.Proofs.Ytedcnpaomphffaa
