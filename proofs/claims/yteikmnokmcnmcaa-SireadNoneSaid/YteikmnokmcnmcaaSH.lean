import Derived.Test.YteikmnokmcnmcaaSG
import Derived.Lib.SlKept
namespace Go.Proofs.Yteikmnokmcnmcaa
open Go.RowKit Go.Maps Go.Sort Go.Lib Go.Proofs.YteikmnokmcnmcaaW.PrintWords Go.Proofs.YteikmnokmcnmcaaW.PrintLast Go.Proofs.YteikmnokmcnmcaaW.PrintMore
set_option linter.unusedVariables false
set_option linter.unusedSimpArgs false
set_option linter.unusedSectionVars false
/-! ### a row of notes: an element stored, a rest cleared -/
def set4 (l : List Value) (i : Nat) (x : Rd) : List Value := (((l.set (i * 4) (.string x.t)).set (i * 4 + 1) (.int .i64 x.k)).set (i * 4 + 2) (.string x.f)).set (i * 4 + 3) (.string x.u)
theorem reps_set4 {xs : List Rd} {inner : List Value} (h : Reps (fun x cs => cs = cellsR x) 4 xs inner) (i : Nat) (hi : i < xs.length) (x : Rd) : Reps (fun x cs => cs = cellsR x) 4 (xs.set i x) (set4 inner i x) := by
  refine ⟨by simp [set4, h.1], fun j y hy => ?_⟩
  have hlen := h.1
  rw [List.getElem?_set] at hy
  by_cases e : i = j
  · subst e
    rw [if_pos rfl, if_pos hi] at hy
    injection hy with hy
    subst hy
    apply List.ext_getElem?
    intro t
    rw [List.getElem?_take, List.getElem?_drop]
    unfold set4 cellsR
    simp only [List.getElem?_set, List.length_set]
    match t with
    | 0 => rw [if_pos (by omega), if_neg (by omega), if_neg (by omega), if_neg (by omega), if_pos (by omega), if_pos (by omega)]; rfl
    | 1 => rw [if_pos (by omega), if_neg (by omega), if_neg (by omega), if_pos (by omega), if_pos (by omega)]; rfl
    | 2 => rw [if_pos (by omega), if_neg (by omega), if_pos (by omega), if_pos (by omega)]; rfl
    | 3 => rw [if_pos (by omega), if_pos (by omega), if_pos (by omega)]; rfl
    | t + 4 => rw [if_neg (by omega)]; rfl
  · rw [if_neg e] at hy
    have h2 : (inner.drop (j * 4)).take 4 = cellsR y := h.2 j y hy
    show ((set4 inner i x).drop (j * 4)).take 4 = cellsR y
    rw [← h2]
    apply List.ext_getElem?
    intro t
    rw [List.getElem?_take, List.getElem?_take, List.getElem?_drop, List.getElem?_drop]
    unfold set4
    simp only [List.getElem?_set, List.length_set]
    by_cases ht : t < 4
    · rw [if_pos ht, if_pos ht, if_neg (by omega), if_neg (by omega), if_neg (by omega), if_neg (by omega)]
    · rw [if_neg ht, if_neg ht]
def put4 (w : World) (g i : Nat) (x : Rd) : World := (((w.setCell ⟨g, i * 4, none⟩ (.string x.t)).setCell ⟨g, i * 4 + 1, none⟩ (.int .i64 x.k)).setCell ⟨g, i * 4 + 2, none⟩ (.string x.f)).setCell ⟨g, i * 4 + 3, none⟩ (.string x.u)
theorem put4_grown (w : World) (g i : Nat) (x : Rd) : w.grownBy (put4 w g i x) (some g) := trans_grown (trans_grown (trans_grown (grown_set w g _ _) (grown_set _ g _ _)) (grown_set _ g _ _)) (grown_set _ g _ _)
theorem RowR.put {w : World} {base g n c : Nat} {xs : List Rd} (h : RowR w base (.slice (some ⟨g, 0, none⟩) n c) xs) (i : Nat) (hi : i < xs.length) (x : Rd) : RowR (put4 w g i x) base (.slice (some ⟨g, 0, none⟩) n c) (xs.set i x) := by
  obtain ⟨inner, ⟨hl, hr⟩, hp⟩ := h
  refine ⟨set4 inner i x, ⟨by simp [set4, hl], ?_⟩, reps_set4 hp i hi x⟩
  rcases hr with ⟨h1, _⟩ | ⟨g', cap, cur, hv, hb, hh, hnc, hcm, hcs, ht⟩
  · cases h1
  · injection hv with e1 e2 e3
    injection e1 with e1
    injection e1 with e1
    subst e1
    subst e3
    refine .inr ⟨g, c, _, by rw [List.length_set, e2], hb, blk_set (blk_set (blk_set (blk_set hh _ _) _ _) _ _) _ _, by rw [List.length_set]; exact hnc, hcm, by simpa using hcs, ?_⟩
    rw [← ht, List.length_set]
    simp only [set4, Array.toList_setIfInBounds, List.take_set]
theorem zeros_len (z : Array Value) (n : Nat) : (Builtin.zeroCells z n).toList.length = n * z.size := by simp [Builtin.zeroCells]
theorem clear_row {w : World} {base g n c : Nat} {xs : List Rd} (h : RowR w base (.slice (some ⟨g, 0, none⟩) n c) xs) (i : Nat) (hi : i < n) (ty : TypeId) :
    ∃ w', (Builtin.clear_ #[42] ty #[.slice (some ⟨g, i * 4, none⟩) (n - i) (c - i)]).run Try.prog w = .ok (.tuple #[]) w' ∧ RowR w' base (.slice (some ⟨g, 0, none⟩) i c) (xs.take i) ∧ w.grownBy w' (some g) := by
  obtain ⟨inner, ⟨hl, hr⟩, hp⟩ := h
  rcases hr with ⟨h1, _⟩ | ⟨g', cap, cur, hv, hb, hh, hnc, hcm, hcs, ht⟩
  · cases h1
  · injection hv with e1 e2 e3
    injection e1 with e1
    injection e1 with e1
    subst e1
    subst e3
    subst e2
    obtain ⟨m, hm⟩ : ∃ m, xs.length - i = m + 1 := ⟨xs.length - i - 1, by omega⟩
    have hz := Try.zeroValue23
    obtain ⟨Z, hZ⟩ : ∃ Z, Z = (Builtin.zeroCells #[.string ⟨#[]⟩, .int .i64 0, .string ⟨#[]⟩, .string ⟨#[]⟩] (m + 1)).toList := ⟨_, rfl⟩
    have hZl : Z.length = (m + 1) * 4 := by rw [hZ, zeros_len]; rfl
    have hZ1 : ∀ v ∈ Z, v.oneCell' = true := by
      intro v hv
      rw [hZ] at hv
      simp only [Builtin.zeroCells, Array.mem_toList_iff, Array.mem_map] at hv
      obtain ⟨a, _, rfl⟩ := hv
      have : a % 4 < 4 := Nat.mod_lt _ (by omega)
      show (#[Value.string ⟨#[]⟩, .int .i64 0, .string ⟨#[]⟩, .string ⟨#[]⟩][a % 4]!).oneCell' = true
      generalize a % 4 = b at this
      match b, this with
      | 0, _ => rfl
      | 1, _ => rfl
      | 2, _ => rfl
      | 3, _ => rfl
    have hst := run_storeCells_at Try.prog g (i * 4) 23 Z 0 cur w hh (by omega) hZ1
    refine ⟨w.setRow g (cur.toList.take (i * 4 + 0) ++ Z ++ cur.toList.drop (i * 4 + 0 + Z.length)).toArray, ?_, ?_, ?_⟩
    · rw [hm]
      simp only [Builtin.clear_]
      simp only [List.getElem?_toArray, Nat.add_zero, List.append_assoc] at hst
      simp [run_underlying Try.underlying42, hz]
      rw [show (Value.agg #[Value.string ⟨#[]⟩, .int .i64 0, .string ⟨#[]⟩, .string ⟨#[]⟩]).cells = #[Value.string ⟨#[]⟩, .int .i64 0, .string ⟨#[]⟩, .string ⟨#[]⟩] from rfl, ← hZ, hst]
      rfl
    · refine ⟨inner.take (i * 4), ⟨by simp [hl] <;> omega, 
        .inr ⟨g, c, _, by rw [List.length_take, Nat.min_eq_left (by omega)], hb, setRow_heap w g cur _ 23 (0, 0) hh, by simp; omega, hcm, ?_, ?_⟩⟩, Kd.reps_take hp (by omega)⟩
      · simp [hZl]; omega
      · rw [← ht]
        simp only [List.length_take]
        rw [show min i xs.length = i by omega, Nat.add_zero, List.append_assoc, List.take_append_of_le_length (by simp; omega), List.take_take, List.take_take, show min (i * 4) (i * 4) = i * 4 by omega, show min (i * 4) (xs.length * 4) = i * 4 by omega]
    · exact ⟨rfl, rfl, rfl, by simp [World.setRow], fun j hj hne => by
        simp only [World.setRow]
        rw [Array.getElem?_modify, if_neg (fun e => hne (by rw [e]))]⟩
end Go.Proofs.Yteikmnokmcnmcaa
