import Derived.Test.YteikmnokmcnmcaaSI
import Derived.Test.YteikmnokmcnmcaaK0
namespace Go.Proofs.Yteikmnokmcnmcaa
open Go.RowKit Go.Maps Go.Sort Go.Lib Go.Proofs.YteikmnokmcnmcaaW.PrintWords Go.Proofs.YteikmnokmcnmcaaW.PrintLast Go.Proofs.YteikmnokmcnmcaaW.PrintMore
set_option linter.unusedVariables false
set_option linter.unusedSimpArgs false
set_option linter.unusedSectionVars false
/-! ### Sort, Compact, the clones -/
theorem info2 : (Try.prog.info? 2).map (fun i => (i.zero, i.size, i.bytes)) = some (some (.int .i64 0), 1, 8) := by kernel_rfl
theorem info23 : (Try.prog.info? 23).map (fun i => (i.zero, i.size, i.bytes)) = some (some (.agg #[.string ⟨#[]⟩, .int .i64 0, .string ⟨#[]⟩, .string ⟨#[]⟩]), 4, 56) := by kernel_rfl
def encI (x : Int) : List Value := [.int .i64 x]
theorem encI_one (x : Int) : ∀ u ∈ encI x, u.oneCell' = true := fun u hu => by simp [encI] at hu; rw [hu]; rfl
def dI : Kd Int := Kd.flat encI 1 (fun _ => rfl) encI_one
set_option maxRecDepth 100000 in
theorem sortI_calls (W : World) (base : Nat) (ok : Nat → Prop) (v : Value) (xs : List Int) (h : dI.R 2 W base ok v xs) (hl : xs.length < 4611686018427387904) :
    Calls Try.prog 53 #[v] W fun e w' => e = .returned (.tuple #[]) ∧ dI.R 2 w' base ok v (xs.mergeSort fun x y => decide (x ≤ y)) ∧ W.grownBy w' v.ownBlock := by
  obtain ⟨inner, ho⟩ := Kd.R_own h
  rcases ho.2 with ⟨rfl, hn⟩ | ⟨g, cap, cur, rfl, hb, hh, _⟩
  · obtain rfl : xs = [] := List.eq_nil_of_length_eq_zero hn
    refine (AnyM.slices_Sort_int_none Try.sortI none 0 W).mono ?_
    rintro e w' ⟨rfl, rfl⟩
    exact ⟨rfl, by rw [List.mergeSort_nil]; exact Kd.R_nil _ _ _ _ _, ⟨rfl, rfl, rfl, Nat.le_refl _, fun _ _ _ => rfl⟩⟩
  · have hlt : g < W.heap.size := (Array.getElem?_eq_some_iff.1 hh).1
    have hcon := AnyM.slices_Sort_int Try.sortI g 0 cap xs W (one_holds (enc := Value.int .i64) h) hlt hl
    refine Calls.mono hcon ?_
    rintro e w' ⟨rfl, n, os, rfl⟩
    have hl2 : (xs.mergeSort fun x y => decide (x ≤ y)).length = xs.length := by simp
    obtain ⟨h2, h3⟩ := one_put (enc := Value.int .i64) h hl2 n os
    rw [hl2] at h2
    exact ⟨rfl, h2, h3⟩
set_option maxRecDepth 100000 in
theorem compactI_none (W : World) : Calls Try.prog 54 #[.slice none 0 0] W fun e w' => e = .returned (.slice none 0 0) ∧ W = w' := by
  go_enter Try.func54, Try.ntmps54
  go_wp2
  go_ret
  exact ⟨rfl, rfl⟩
set_option maxRecDepth 100000 in
theorem compactI_calls (W : World) (base : Nat) (ok : Nat → Prop) (v : Value) (xs : List Int) (h : dI.R 2 W base ok v xs) (hl : xs.length < 4611686018427387904) :
    Calls Try.prog 54 #[v] W fun e w' => ∃ v', e = .returned v' ∧ dI.R 2 w' base ok v' (compactUpTo xs.toArray xs.length) ∧ W.grownBy w' v.ownBlock ∧ v'.ownBlock = v.ownBlock := by
  obtain ⟨inner, ho⟩ := Kd.R_own h
  rcases ho.2 with ⟨rfl, hn⟩ | ⟨g, cap, cur, rfl, hb, hh, hnc, _⟩
  · obtain rfl : xs = [] := List.eq_nil_of_length_eq_zero hn
    refine (compactI_none W).mono ?_
    rintro e w' ⟨rfl, rfl⟩
    exact ⟨_, rfl, by rw [show compactUpTo ([] : List Int).toArray ([] : List Int).length = [] from rfl]; exact Kd.R_nil _ _ _ _ _, ⟨rfl, rfl, rfl, Nat.le_refl _, fun _ _ _ => rfl⟩, rfl⟩
  · have hcon := AnyE.slices_Compact Try.compactI (Value.int .i64) (fun _ => rfl) (EqlAt.intD _ _ _) (NeqAt.intD _ _ _) 0 Try.zeroValue2 g 0 cap xs.toArray W (one_holds (enc := Value.int .i64) h) (by simp; omega) (by simpa using hnc)
    refine Calls.mono hcon ?_
    rintro e w' ⟨rfl, q, rfl⟩
    have hcl : (compactUpTo xs.toArray xs.length).length ≤ xs.length := by
      unfold compactUpTo
      rw [List.length_map]
      exact Nat.le_trans (List.length_filter_le _ _) (by simp)
    have hl2 : (compactUpTo xs.toArray xs.toArray.size ++ List.replicate (xs.toArray.size - (compactUpTo xs.toArray xs.toArray.size).length) (0 : Int)).length = xs.length := by
      have e0 : xs.toArray.size = xs.length := by simp
      rw [List.length_append, List.length_replicate, e0]
      omega
    obtain ⟨h2, h3⟩ := one_put (enc := Value.int .i64) h hl2 q #[]
    rw [grow_empty] at h2 h3
    refine ⟨_, rfl, ?_, h3, rfl⟩
    have h4 := Kd.R_take h2 (m := (compactUpTo xs.toArray xs.toArray.size).length) (by rw [List.length_append]; omega)
    rw [List.take_left] at h4
    exact h4
section
variable {ops : Array Oper} {rest : List Oper} {o : Oper} {a : Act} {Q : Exit → Act → World → Prop}
theorem appI {w W : World} {z : Nat} {s x : Operand} {v : Value} {xs : List Int} {y : Int} {ok : Nat → Prop} (hgd : o.guard = none) (ho : o.op = .call { callee := .builtin .append, args := #[s, x], argTypes := #[31, 31] })
    (hs : a.eval s = v) (hx : a.eval x = .slice (some ⟨z, 0, none⟩) 1 1) (HO : dI.R 2 W w.heap.size ok v xs) (HB : Below w.heap.size w W) (hl : xs.length ≤ 65536) (hz : W.heap.size = z) (hfresh : ∀ k, W.heap.size ≤ k → ok k)
    (h : ∀ v1 w1, dI.R 2 w1 w.heap.size ok v1 (xs ++ [y]) → Below w.heap.size w w1 → W.grownBy w1 v.ownBlock → wpList Try.prog ops Q rest (a.put o.dst v1) w1) : wpList Try.prog ops Q (o :: rest) a (W.alloc (.cells #[.int .i64 y] 2)) := by
  subst hz
  refine Kd.R_append dI (w0 := w) w.heap.size hgd s x 31 2 _ 8 ho Try.underlying31 info2 rfl (by decide) (by decide) v xs y [.int .i64 y] ok (fun _ => False) hs hx rfl (fun _ hk => hk.elim) hfresh HO HB HB.size (by omega) ?_
  intro v1 w1 h1 h2 h3 _
  exact h v1 w1 h1 h2 h3
end
set_option maxHeartbeats 1000000 in
set_option maxRecDepth 100000 in
theorem rising_calls (W : World) (base : Nat) (ok : Nat → Prop) (v : Value) (xs : List Int) (h : dI.R 2 W base ok v xs) (hl : xs.length < 4611686018427387904) :
    Calls Try.prog 37 #[v] W fun e w' => ∃ v', e = .returned v' ∧ dI.R 2 w' base ok v' (rise xs) ∧ W.grownBy w' v.ownBlock ∧ v'.ownBlock = v.ownBlock := by
  have S := sortI_calls W base ok v xs h hl
  go_enter Try.func37, Try.ntmps37
  go_wp2_with fail
  refine S.mono ?_
  rintro e w1 ⟨rfl, h1, g1⟩
  have C := compactI_calls w1 base ok v _ h1 (by rw [List.length_mergeSort]; exact hl)
  go_wp2_with fail
  refine C.mono ?_
  rintro e w2 ⟨v', rfl, h2, g2, h3⟩
  go_wp2
  go_ret
  rw [List.length_mergeSort] at h2
  exact ⟨_, rfl, h2, trans_grown g1 g2, h3⟩
theorem cellsR_one (x : Rd) : ∀ u ∈ cellsR x, u.oneCell' = true := fun u hu => by
  simp [cellsR] at hu
  rcases hu with rfl | rfl | rfl | rfl <;> rfl
set_option maxRecDepth 100000 in
theorem cloneR_calls (W : World) (base : Nat) (v : Value) (xs : List Rd) (h : RowR W base v xs) (hl : xs.length * 56 ≤ 140737488355328) :
    Calls Try.prog 31 #[v] W fun e w' => ∃ v', e = .returned v' ∧ RowR w' W.heap.size v' xs ∧ Below W.heap.size W w' := by
  obtain ⟨inner, ho, hr⟩ := h
  obtain ⟨i0, hi0, hzz⟩ := Option.map_eq_some_iff.1 info23
  simp only [Prod.mk.injEq] at hzz
  obtain ⟨hz0, hz1, hz2⟩ := hzz
  have ho' := ho
  rcases ho'.2 with ⟨rfl, hn⟩ | ⟨g, cap, cur, rfl, hb, hh, hnc, _⟩
  · obtain rfl : xs = [] := List.eq_nil_of_length_eq_zero hn
    refine (AnyE.slices_Clone_nil Try.cloneR 0 0 W).mono ?_
    rintro e w' ⟨rfl, rfl⟩
    exact ⟨_, rfl, Lo.nil _ _, Below.refl _ _⟩
  · have hcon := AnyE.slices_Clone Try.cloneR i0 _ 4 56 hi0 hz0 hz1 hz2 rfl (by omega) Try.sizeOf23 g 0 xs.length cap inner W ho.1 (by simp only [maxLen]; omega) hl
      (fun j u hu => by
        rw [Nat.zero_add]
        exact l_cells ho j u hu) (fun u hu => by
        obtain ⟨j, hj⟩ := List.mem_iff_getElem?.1 hu
        have hjl : j < xs.length * 4 := by rw [← ho.1]; exact (List.getElem?_eq_some_iff.1 hj).1
        have hd : j / 4 < xs.length := by omega
        have h3 : (inner.drop (j / 4 * 4)).take 4 = cellsR xs[j / 4] := hr.2 (j / 4) _ (List.getElem?_eq_getElem hd)
        have h4 : ((inner.drop (j / 4 * 4)).take 4)[j % 4]? = inner[j]? := by rw [List.getElem?_take, if_pos (by omega), List.getElem?_drop, show j / 4 * 4 + j % 4 = j by omega]
        rw [h3, hj] at h4
        exact cellsR_one _ u (List.mem_of_getElem? h4))
    refine Calls.mono hcon ?_
    rintro e w' ⟨v', rfl, h1, _, h3⟩
    exact ⟨v', rfl, ⟨inner, l_of_own h1, hr⟩, h3⟩
theorem cloneMap_calls (W : World) (b n : Nat) (L : List (Pl × Sv)) (h : TabN W b n L) : Calls Try.prog 33 #[.map (some b)] W fun e w' => e = .returned (.map (some W.heap.size)) ∧ TabN w' W.heap.size n L ∧ TabN w' b n L ∧ Below W.heap.size W w' := by
  obtain ⟨D, h1, h2⟩ := h
  refine Calls.mono (AnyW.maps_Clone_owns Try.cloneMap 62 rS b n D W h1) ?_
  rintro e w' ⟨rfl, h3, h4, h5⟩
  exact ⟨rfl, ⟨D, h3, h2⟩, ⟨D, h4, h2⟩, h5⟩
end Go.Proofs.Yteikmnokmcnmcaa
