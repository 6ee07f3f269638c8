import Derived.Test.YtbellkkheppofaaI
import Derived.Test.YtbellkkheppofaaSh
namespace Go.Proofs.Ytbellkkheppofaa
open Go.RowKit Go.Maps Go.Sort Go.Lib Go.Proofs.YtbellkkheppofaaW.PrintWords Go.Proofs.YtbellkkheppofaaW.PrintLast Go.Proofs.YtbellkkheppofaaW.PrintMore
set_option linter.unusedVariables false
set_option linter.unusedSimpArgs false
set_option linter.unusedSectionVars false
/-! ### a row of plain cells, sorted in its place -/
section
variable {α : Type} [Inhabited α] {enc : α → List Value} {k : Nat} {hn : ∀ x, (enc x).length = k} {h1 : ∀ x, ∀ u ∈ enc x, u.oneCell' = true}
theorem flat_at (hn : ∀ x, (enc x).length = k) (d : Array α) (j i : Nat) (hj : j < d.size) (hi : i < k) : (flatK enc k d)[j * k + i]! = (enc d[j]!)[i]! := by
  have hlt : j * k + i < d.size * k := by
    have : (j + 1) * k ≤ d.size * k := Nat.mul_le_mul_right k hj
    rw [Nat.add_mul, Nat.one_mul] at this
    omega
  rw [get_flatK _ _ _ _ hlt]
  have e1 : (j * k + i) / k = j := by rw [Nat.mul_comm, Nat.mul_add_div (by omega), Nat.div_eq_of_lt hi]; omega
  have e2 : (j * k + i) % k = i := by rw [Nat.mul_comm, Nat.mul_add_mod, Nat.mod_eq_of_lt hi]
  rw [e1, e2]
theorem flat_reps (hn : ∀ x, (enc x).length = k) (xs : List α) : Reps (fun x cs => cs = enc x) k xs (flatK enc k xs.toArray).toList := by
  refine ⟨by simp, fun j p hp => ?_⟩
  obtain ⟨hj, rfl⟩ := List.getElem?_eq_some_iff.1 hp
  have hle : j * k + k ≤ xs.length * k := by
    have : (j + 1) * k ≤ xs.length * k := Nat.mul_le_mul_right k hj
    rwa [Nat.add_mul, Nat.one_mul] at this
  refine List.ext_getElem (by simp [hn]; omega) fun i h1 h2 => ?_
  have hi : i < k := by rw [hn] at h2; exact h2
  have := flat_at hn xs.toArray j i (by simpa using hj) hi
  rw [getElem!_pos _ _ (by simp; omega), getElem!_pos (enc _) i (by rw [hn]; exact hi)] at this
  simpa [hj] using this
theorem flat_holds {w : World} {base e g cap : Nat} {ok : Nat → Prop} {xs : List α} (h : (Kd.flat enc k hn h1).R e w base ok (.slice (some ⟨g, 0, none⟩) xs.length cap) xs) : HoldsK enc k w g 0 xs.toArray := by
  obtain ⟨_, inner, ho, hr⟩ := h
  intro j hj
  have hj' : j < xs.length * k := by simpa using hj
  refine ⟨?_, ?_⟩
  · rw [Nat.zero_add, ho.cellAt j hj']
    have hk : 0 < k := by
      rcases Nat.eq_zero_or_pos k with h | h
      · rw [h, Nat.mul_zero] at hj'; omega
      · exact h
    have hd : j / k < xs.length := by rw [Nat.div_lt_iff_lt_mul hk]; exact hj'
    have hm := Nat.mod_lt j hk
    have e : j / k * k + j % k = j := Nat.div_add_mod' j k
    have h2 : (inner.drop (j / k * k)).take k = enc xs[j / k] := hr.2 (j / k) _ (List.getElem?_eq_getElem hd)
    have h3 := flat_at hn xs.toArray (j / k) (j % k) (by simpa using hd) hm
    rw [e] at h3
    rw [h3]
    have h4 : ((inner.drop (j / k * k)).take k)[j % k]? = inner[j]? := by
      rw [List.getElem?_take, if_pos hm, List.getElem?_drop, e]
    have h5 : xs.toArray[j / k]! = xs[j / k] := by rw [getElem!_pos _ _ (by simpa using hd)]; simp
    rw [← h4, h2, h5]
    rw [getElem!_pos (enc _) _ (by rw [hn]; exact hm), List.getElem?_eq_getElem (by rw [hn]; exact hm)]
    rfl
  · rw [Nat.zero_add]; exact ho.frozenAt j
theorem flat_sorted {w : World} {base e g cap : Nat} {ok : Nat → Prop} {xs ys : List α} (h : (Kd.flat enc k hn h1).R e w base ok (.slice (some ⟨g, 0, none⟩) xs.length cap) xs) (hl : ys.length = xs.length) (m : Nat) (os : Array Obj) :
    (Kd.flat enc k hn h1).R e (sortWorldK enc k w g 0 m ys.toArray os) base ok (.slice (some ⟨g, 0, none⟩) ys.length cap) ys ∧ w.grownBy (sortWorldK enc k w g 0 m ys.toArray os) (some g) := by
  obtain ⟨h0, inner, ⟨hil, ho⟩, hr⟩ := h
  rcases ho with ⟨he, _⟩ | ⟨g', cap', cur, he, hb, hh, hc1, hc2, hcs, htk⟩
  · cases he
  injection he with e1 e2 e3
  injection e1 with e1
  injection e1 with e1
  subst e1 e3
  have hlt : g < w.heap.size := (Array.getElem?_eq_some_iff.1 hh).1
  have hheap : (sortWorldK enc k w g 0 m ys.toArray os).heap = (w.heap.modify g (onCells (putCells id 0 (flatK enc k ys.toArray)))) ++ os := rfl
  have hnew : (sortWorldK enc k w g 0 m ys.toArray os).heap[g]? = some (.cells (putCells id 0 (flatK enc k ys.toArray) cur) e (0, 0)) := by
    rw [hheap, Array.getElem?_append_left (by simpa using hlt), Array.getElem?_modify, if_pos rfl, hh]
    rfl
  refine ⟨⟨h0, (flatK enc k ys.toArray).toList, ⟨by simp [Kd.flat], .inr ⟨g, cap, _, by rw [hl], hb, hnew, by omega, hc2, ?_, ?_⟩⟩, flat_reps hn ys⟩, ⟨rfl, rfl, rfl, ?_, ?_⟩⟩
  · simp [putCells, hcs]
  · refine List.ext_getElem? fun t => ?_
    rw [List.getElem?_take]
    simp only [Kd.flat] at hcs ⊢
    have hle : ys.length * k ≤ cap * k := Nat.mul_le_mul_right k (by omega)
    by_cases ht : t < ys.length * k
    · simp only [ht, ↓reduceIte]
      simp only [putCells, Array.toList_mapIdx, List.getElem?_mapIdx, Array.getElem?_toList]
      rw [Array.getElem?_eq_getElem (show t < cur.size by omega), Array.getElem?_eq_getElem (show t < (flatK enc k ys.toArray).size by simpa using ht)]
      rw [Option.map_some, if_pos ⟨by omega, by simpa using ht⟩]
      rw [Nat.sub_zero, getElem!_pos _ _ (by simpa using ht)]
      rfl
    · simp only [ht, ↓reduceIte]
      rw [List.getElem?_eq_none (by simpa using ht)]
  · rw [hheap]; simp
  · intro i hi hne
    have : g ≠ i := fun e => hne (by rw [e])
    rw [hheap, Array.getElem?_append_left (by simpa using hi), Array.getElem?_modify, if_neg this]
end
/-! ### the sort of locks -/
theorem ltOf_cmpL (x y : Lk) : ltOf cmpL x y = true ↔ ltL x y := by
  unfold ltOf
  rw [decide_eq_true_iff]
  exact (cmpL_lt x y).1
theorem ltOf_cmpL_false (x y : Lk) : ltOf cmpL x y = false ↔ ¬ ltL x y := by
  rw [← ltOf_cmpL, Bool.not_eq_true]
theorem swoL : SWO (ltOf cmpL) where
  irrefl x := (ltOf_cmpL_false _ _).2 (ltL_irrefl x)
  trans x y z h k := (ltOf_cmpL _ _).2 (ltL_trans ((ltOf_cmpL _ _).1 h) ((ltOf_cmpL _ _).1 k))
  ntrans x y z h k := by
    rw [ltOf_cmpL_false] at *
    intro hz
    rcases ltL_total x y with e | e | e
    · exact h e
    · subst e; exact k hz
    · rcases ltL_total y z with f | f | f
      · exact k f
      · subst f; exact h hz
      · exact ltL_irrefl _ (ltL_trans (ltL_trans hz f) e)
theorem totL (x y : Lk) (h : ltOf cmpL x y = false) (k : ltOf cmpL y x = false) : x = y := by
  rw [ltOf_cmpL_false] at *
  rcases ltL_total x y with e | e | e
  · exact absurd e h
  · exact e
  · exact absurd e k
def srt (xs : List Lk) : List Lk := xs.mergeSort fun x y => !(ltOf cmpL) y x
theorem srt_length (xs : List Lk) : (srt xs).length = xs.length := by simp [srt]
set_option maxRecDepth 100000 in
theorem sort_calls (W : World) (base : Nat) (ok : Nat → Prop) (v : Value) (xs : List Lk) (h : dL.R 23 W base ok v xs) (hl : xs.length < 4611686018427387904) :
    Calls Try.prog 27 #[v, .func (.func 28) #[] #[]] W fun e w' => e = .returned (.tuple #[]) ∧ dL.R 23 w' base ok v (srt xs) ∧ W.grownBy w' v.ownBlock := by
  obtain ⟨inner, ho⟩ := Kd.R_own h
  rcases ho.2 with ⟨rfl, hn⟩ | ⟨g, cap, cur, rfl, hb, hh, _⟩
  · obtain rfl : xs = [] := List.eq_nil_of_length_eq_zero hn
    refine (AnyF.slices_SortFunc_none Try.sortLk none 0 _ W).mono ?_
    rintro e w' ⟨rfl, rfl⟩
    exact ⟨rfl, by rw [show srt [] = [] by simp [srt]]; exact Kd.R_nil _ _ _ _ _, ⟨rfl, rfl, rfl, Nat.le_refl _, fun _ _ _ => rfl⟩⟩
  · have eg : ∀ args w, (callFunc 28 args).run Try.prog w = .ok (.enter 28 args) w := enters_of Try.func28 (by kernel_rfl) rfl
    have hlt : g < W.heap.size := (Array.getElem?_eq_some_iff.1 hh).1
    have hc : CmpLays Try.prog 28 #[] cellsL 2 cmpL g 0 xs.toArray.size W := fun m os dk _ x y => closure_calls x y _
    have hcon := AnyQ.slices_SortFunc_total Try.sortLk 2 Try.isAgg23 Try.sizeOf23 cellsL (fun _ => rfl) (fun x u hu => by simp [cellsL] at hu; rcases hu with rfl | rfl <;> rfl) cmpL swoL 28 #[] g 0 cap xs.toArray W eg hc (flat_holds h) hlt (by simpa using hl) totL
    rw [show xs.toArray.size = xs.length from rfl] at hcon
    refine Calls.mono hcon ?_
    rintro e w' ⟨rfl, n, os, rfl⟩
    obtain ⟨h2, h3⟩ := flat_sorted h (srt_length xs) n os
    rw [srt_length] at h2
    exact ⟨rfl, h2, h3⟩
end Go.Proofs.Ytbellkkheppofaa
