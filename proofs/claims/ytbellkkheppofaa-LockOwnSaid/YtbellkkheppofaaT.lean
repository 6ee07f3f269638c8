import Derived.Test.YtbellkkheppofaaS
namespace Go.Proofs.Ytbellkkheppofaa
open Go.RowKit Go.Maps Go.Sort Go.Lib Go.Proofs.YtbellkkheppofaaW.PrintWords Go.Proofs.YtbellkkheppofaaW.PrintLast Go.Proofs.YtbellkkheppofaaW.PrintMore
set_option linter.unusedVariables false
set_option linter.unusedSimpArgs false
set_option linter.unusedSectionVars false
/-! ### rows of one cell an element -/
section
variable {α : Type} [Inhabited α] {enc : α → Value}
theorem flat_one (d : Array α) : flatK (fun x => [enc x]) 1 d = d.map enc := by
  refine Array.ext (by simp) fun t h1 h2 => ?_
  have ht : t < d.size := by simpa using h2
  have := get_flatK (fun x => [enc x]) 1 d t (by simpa using ht)
  rw [getElem!_pos (flatK (fun x => [enc x]) 1 d) t h1] at this
  rw [this, Nat.mod_one, Nat.div_one, getElem!_pos d t ht, Array.getElem_map]
  rfl
theorem putRow_one (w : World) (g : Nat) (d : Array α) : putRow enc w g 0 d = putRow id w g 0 (d.map enc) := by
  unfold putRow
  refine mapBlock_congr _ _ _ _ fun c e fr _ => ?_
  unfold putCells
  congr 1
  funext k x
  rw [Array.size_map]
  split
  · rename_i h
    have hk : k - 0 < d.size := by omega
    rw [getElem!_pos (d.map enc) (k - 0) (by simpa using hk), Array.getElem_map, getElem!_pos d (k - 0) hk]
    rfl
  · rfl
variable {hn : ∀ x : α, [enc x].length = 1} {h1 : ∀ x, ∀ u ∈ [enc x], u.oneCell' = true}
theorem one_holds {w : World} {base e g cap : Nat} {ok : Nat → Prop} {xs : List α} (h : (Kd.flat (fun x => [enc x]) 1 hn h1).R e w base ok (.slice (some ⟨g, 0, none⟩) xs.length cap) xs) : Holds enc w g 0 xs.toArray := by
  have h2 := flat_holds h
  unfold HoldsK at h2
  rw [flat_one] at h2
  intro j hj
  obtain ⟨h3, h4⟩ := h2 j (by simpa using hj)
  refine ⟨?_, h4⟩
  rw [h3, getElem!_pos _ _ (by simpa using hj), Array.getElem_map, getElem!_pos xs.toArray j hj]
  rfl
theorem one_put {w : World} {base e g cap : Nat} {ok : Nat → Prop} {xs ys : List α} (h : (Kd.flat (fun x => [enc x]) 1 hn h1).R e w base ok (.slice (some ⟨g, 0, none⟩) xs.length cap) xs) (hl : ys.length = xs.length) (m : Nat) (os : Array Obj) :
    (Kd.flat (fun x => [enc x]) 1 hn h1).R e (grow (putRow enc (Sort.ahead w m) g 0 ys.toArray) os) base ok (.slice (some ⟨g, 0, none⟩) ys.length cap) ys ∧ w.grownBy (grow (putRow enc (Sort.ahead w m) g 0 ys.toArray) os) (some g) := by
  have := flat_sorted h hl m os
  unfold sortWorldK putRowK at this
  rw [flat_one, ← putRow_one] at this
  exact this
end
theorem encI_one (x : Int) : ∀ u ∈ encI x, u.oneCell' = true := fun u hu => by simp [encI] at hu; rw [hu]; rfl
def dI : Kd Int := Kd.flat encI 1 (fun _ => rfl) encI_one
set_option maxRecDepth 100000 in
theorem sortI_calls (W : World) (base : Nat) (ok : Nat → Prop) (v : Value) (xs : List Int) (h : dI.R 2 W base ok v xs) (hl : xs.length < 4611686018427387904) :
    Calls Try.prog 32 #[v] W fun e w' => e = .returned (.tuple #[]) ∧ dI.R 2 w' base ok v (xs.mergeSort fun x y => decide (x ≤ y)) ∧ W.grownBy w' v.ownBlock := by
  obtain ⟨inner, ho⟩ := Kd.R_own h
  rcases ho.2 with ⟨rfl, hn⟩ | ⟨g, cap, cur, rfl, hb, hh, _⟩
  · obtain rfl : xs = [] := List.eq_nil_of_length_eq_zero hn
    refine (AnyM.slices_Sort_int_none Try.sortI none 0 W).mono ?_
    rintro e w' ⟨rfl, rfl⟩
    exact ⟨rfl, by rw [List.mergeSort_nil]; exact Kd.R_nil _ _ _ _ _, ⟨rfl, rfl, rfl, Nat.le_refl _, fun _ _ _ => rfl⟩⟩
  · have hlt : g < W.heap.size := (Array.getElem?_eq_some_iff.1 hh).1
    have hcon := AnyM.slices_Sort_int Try.sortI g 0 cap xs W (one_holds (enc := Value.int .i64) h) hlt hl
    refine Calls.mono hcon ?_
    rintro e w' ⟨rfl, n, os, rfl⟩
    have hl2 : (xs.mergeSort fun x y => decide (x ≤ y)).length = xs.length := by simp
    obtain ⟨h2, h3⟩ := one_put (enc := Value.int .i64) h hl2 n os
    rw [hl2] at h2
    exact ⟨rfl, h2, h3⟩
set_option maxRecDepth 100000 in
theorem compactI_none (W : World) : Calls Try.prog 34 #[.slice none 0 0] W fun e w' => e = .returned (.slice none 0 0) ∧ W = w' := by
  go_enter Try.func34, Try.ntmps34
  go_wp2
  go_ret
  exact ⟨rfl, rfl⟩
set_option maxRecDepth 100000 in
theorem compactI_calls (W : World) (base : Nat) (ok : Nat → Prop) (v : Value) (xs : List Int) (h : dI.R 2 W base ok v xs) (hl : xs.length < 4611686018427387904) :
    Calls Try.prog 34 #[v] W fun e w' => ∃ v', e = .returned v' ∧ dI.R 2 w' base ok v' (compactUpTo xs.toArray xs.length) ∧ W.grownBy w' v.ownBlock ∧ v'.ownBlock = v.ownBlock := by
  obtain ⟨inner, ho⟩ := Kd.R_own h
  rcases ho.2 with ⟨rfl, hn⟩ | ⟨g, cap, cur, rfl, hb, hh, hnc, _⟩
  · obtain rfl : xs = [] := List.eq_nil_of_length_eq_zero hn
    refine (compactI_none W).mono ?_
    rintro e w' ⟨rfl, rfl⟩
    exact ⟨_, rfl, by rw [show compactUpTo ([] : List Int).toArray ([] : List Int).length = [] from rfl]; exact Kd.R_nil _ _ _ _ _, ⟨rfl, rfl, rfl, Nat.le_refl _, fun _ _ _ => rfl⟩, rfl⟩
  · have hcon := AnyE.slices_Compact Try.compactI (Value.int .i64) (fun _ => rfl) (EqlAt.intD _ _ _) (NeqAt.intD _ _ _) 0 Try.zeroValue2 g 0 cap xs.toArray W (one_holds (enc := Value.int .i64) h) (by simp; omega) (by simpa using hnc)
    refine Calls.mono hcon ?_
    rintro e w' ⟨rfl, q, rfl⟩
    have hcl : (compactUpTo xs.toArray xs.length).length ≤ xs.length := by
      unfold compactUpTo
      rw [List.length_map]
      exact Nat.le_trans (List.length_filter_le _ _) (by simp)
    have hl2 : (compactUpTo xs.toArray xs.toArray.size ++ List.replicate (xs.toArray.size - (compactUpTo xs.toArray xs.toArray.size).length) (0 : Int)).length = xs.length := by
      have e0 : xs.toArray.size = xs.length := by simp
      rw [List.length_append, List.length_replicate, e0]
      omega
    obtain ⟨h2, h3⟩ := one_put (enc := Value.int .i64) h hl2 q #[]
    rw [grow_empty] at h2 h3
    refine ⟨_, rfl, ?_, h3, rfl⟩
    have h4 := Kd.R_take h2 (m := (compactUpTo xs.toArray xs.toArray.size).length) (by rw [List.length_append]; omega)
    rw [List.take_left] at h4
    exact h4
set_option maxRecDepth 100000 in
theorem cloneI_calls (W : World) (base : Nat) (ok : Nat → Prop) (v : Value) (xs : List Int) (h : dI.R 2 W base ok v xs) (hl : xs.length * 8 ≤ 140737488355328) :
    Calls Try.prog 33 #[v] W fun e w' => ∃ v', e = .returned v' ∧ dI.R 2 w' W.heap.size (fun _ => True) v' xs ∧ Below W.heap.size W w' := by
  have hh := h
  obtain ⟨_, inner, ho, hr⟩ := hh
  obtain ⟨i0, hi0, hzz⟩ := Option.map_eq_some_iff.1 info2
  simp only [Prod.mk.injEq] at hzz
  obtain ⟨hz0, hz1, hz2⟩ := hzz
  have ho' := ho
  rcases ho'.2 with ⟨rfl, hn⟩ | ⟨g, cap, cur, rfl, hb, hh, hnc, _⟩
  · obtain rfl : xs = [] := List.eq_nil_of_length_eq_zero hn
    refine (AnyE.slices_Clone_nil Try.cloneI 0 0 W).mono ?_
    rintro e w' ⟨rfl, rfl⟩
    exact ⟨_, rfl, Kd.R_nil _ _ _ _ _, Below.refl _ _⟩
  · have hcon := AnyE.slices_Clone Try.cloneI i0 (.int .i64 0) 1 8 hi0 hz0 hz1 hz2 rfl (by omega) Try.sizeOf2 g 0 xs.length cap inner W ho.1 (by simp only [maxLen]; omega) hl
      (fun j u hu => by
        have := ho.cells (g := g) rfl j u hu
        rw [add_plain] at this
        rw [Nat.zero_add]; exact this) (fun u hu => by
        obtain ⟨j, hj⟩ := List.mem_iff_getElem?.1 hu
        have hjl : j < xs.length := by
          have := (List.getElem?_eq_some_iff.1 hj).1
          have e := ho.1
          simp only [dI, Kd.flat, Nat.mul_one] at e
          omega
        have h3 : (inner.drop (j * 1)).take 1 = encI xs[j] := hr.2 j _ (List.getElem?_eq_getElem hjl)
        rw [Nat.mul_one] at h3
        have h4 : ((inner.drop j).take 1)[0]? = inner[j]? := by rw [List.getElem?_take, if_pos (by omega), List.getElem?_drop, Nat.add_zero]
        rw [h3, hj] at h4
        injection h4 with h4
        rw [← h4]
        rfl)
    refine Calls.mono hcon ?_
    rintro e w' ⟨v', rfl, h1, _, h3⟩
    exact ⟨v', rfl, ⟨fun _ _ => trivial, inner, h1, hr⟩, h3⟩
section
variable {ops : Array Oper} {rest : List Oper} {o : Oper} {a : Act} {Q : Exit → Act → World → Prop}
theorem appI {w W : World} {z : Nat} {s x : Operand} {v : Value} {xs : List Int} {y : Int} {ok : Nat → Prop} (hgd : o.guard = none) (ho : o.op = .call { callee := .builtin .append, args := #[s, x], argTypes := #[36, 36] })
    (hs : a.eval s = v) (hx : a.eval x = .slice (some ⟨z, 0, none⟩) 1 1) (HO : dI.R 2 W w.heap.size ok v xs) (HB : Below w.heap.size w W) (hl : xs.length ≤ 4096) (hz : W.heap.size = z) (hfresh : ∀ k, W.heap.size ≤ k → ok k)
    (h : ∀ v1 w1, dI.R 2 w1 w.heap.size ok v1 (xs ++ [y]) → Below w.heap.size w w1 → W.grownBy w1 v.ownBlock → wpList Try.prog ops Q rest (a.put o.dst v1) w1) : wpList Try.prog ops Q (o :: rest) a (W.alloc (.cells #[.int .i64 y] 2)) := by
  subst hz
  refine Kd.R_append dI (w0 := w) w.heap.size hgd s x 36 2 _ 8 ho Try.underlying36 info2 rfl (by decide) (by decide) v xs y [.int .i64 y] ok (fun _ => False) hs hx rfl (fun _ hk => hk.elim) hfresh HO HB HB.size (by omega) ?_
  intro v1 w1 h1 h2 h3 _
  exact h v1 w1 h1 h2 h3
end
/-! ### who holds a lock of a range -/
def inR (t f u : ByteArray) (a : Lk) : Bool := (a.1.toList == t.toList) && (!Op.bytesLess a.2.toList f.toList && (u.toList.isEmpty || Op.bytesLess a.2.toList u.toList))
theorem inR_true {t f u : ByteArray} {a : Lk} (h1 : a.1.toList = t.toList) (h2 : ¬ Op.bytesLess a.2.toList f.toList = true) (h3 : u.toList.isEmpty = true ∨ Op.bytesLess a.2.toList u.toList = true) : inR t f u a = true := by
  unfold inR
  rw [Bool.not_eq_true] at h2
  rcases h3 with h3 | h3 <;> simp [h1, h2, h3]
def holdersOf (L : List (Lk × Int)) (t f u : ByteArray) : List Int := rise ((L.filter (fun p => inR t f u p.1)).map (·.2))
def HJ (w : World) (b r : Nat) (L : List (Lk × Int)) (t f u : ByteArray) (v : Value) (wr : World) : Prop :=
  ∃ vis rem : List (Lk × Int), (vis ++ rem).Perm L ∧ RngL wr b r L.length L rem ∧ w.heap.size ≤ r ∧ dI.R 2 wr w.heap.size (fun k => k ≠ r) v ((vis.filter (fun p => inR t f u p.1)).map (·.2)) ∧ Below w.heap.size w wr
set_option maxHeartbeats 4000000 in
set_option maxRecDepth 100000 in
theorem Holders_calls (p b : Nat) (most : Int) (L : List (Lk × Int)) (t f u : ByteArray) (w : World) (h : Mg w p b most L) (hL : L.length ≤ 4096) :
    Calls Try.prog 19 #[.pointer (some ⟨p, 0, none⟩), .string t, .string f, .string u] w fun e w' => ∃ v, e = .returned v ∧ dI.R 2 w' w.heap.size (fun _ => True) v (holdersOf L t f u) ∧ Below w.heap.size w w' := by
  have N := none_calls p b w h.map
  have hm := h.map
  obtain ⟨w1, hrun, hR, hg1, hs1⟩ := Tab.range (t := 54) keyL Try.underlying54 h.tab
  go_enter Try.func19, Try.ntmps19
  go_wp2_with fail
  refine N.mono ?_
  rintro e w' ⟨rfl, rfl⟩
  go_wp2_with fail
  go_loopw [9] (fun v wr => HJ w b w.heap.size L t f u v wr) (fun _ wr => wr.rangeLeft b w.heap.size)
  case atStart =>
    exact ⟨[], L, List.Perm.refl _, hR, Nat.le_refl _, Kd.R_nil _ _ _ _ _, ⟨hg1.os, hg1.tape, hg1.output, hg1.size, fun i hi => hg1.block i hi (by simp)⟩⟩
  case round =>
    obtain ⟨vis, rem, hp, hr, hle, hv, hB⟩ := hrel
    rcases hr.next keyL Try.underlying2 0 with ⟨hnil, hrun1⟩ | ⟨a, x, w2, hmem, hok, hwf, hrun1, hr2, hlt, hg2, hs2, hent⟩
    · subst hnil
      rw [List.append_nil] at hp
      have hlen : ((vis.filter (fun p => inR t f u p.1)).map (·.2)).length ≤ 4096 := by
        rw [List.length_map]
        have h1 := List.length_filter_le (fun p : Lk × Int => inR t f u p.1) vis
        have h2 := hp.length_eq
        omega
      have S := sortI_calls wr w.heap.size _ u9 _ hv (by omega)
      have hz := hB.size
      have hbase0 := Kd.R_base hv
      go_wp2_with fail
      refine S.mono ?_
      rintro e w3 ⟨rfl, H3, G3⟩
      have B3 := hB.grown G3 hB.size (fun k hk => hbase0 k hk)
      have C := compactI_calls w3 w.heap.size _ u9 _ H3 (by rw [List.length_mergeSort]; omega)
      go_wp2_with fail
      refine C.mono ?_
      rintro e w4 ⟨v4, rfl, H4, G4, e4⟩
      have B4 := B3.grown G4 B3.size (fun k hk => hbase0 k hk)
      have hcl : (compactUpTo (((vis.filter (fun p => inR t f u p.1)).map (·.2)).mergeSort fun x y => decide (x ≤ y)).toArray (((vis.filter (fun p => inR t f u p.1)).map (·.2)).mergeSort fun x y => decide (x ≤ y)).length) = holdersOf L t f u := by
        rw [List.length_mergeSort]
        exact rise_congr (fun x => ((hp.filter _).map _).mem_iff)
      rw [hcl] at H4
      have hcl2 : (holdersOf L t f u).length ≤ 4096 := by
        refine Nat.le_trans (rise_length _) ?_
        rw [List.length_map]
        exact Nat.le_trans (List.length_filter_le _ _) hL
      have D := cloneI_calls w4 w.heap.size _ v4 _ H4 (by omega)
      clear hcl e4 S C H3 H4 G3 G4 hlen
      go_wp2_with fail
      refine D.mono ?_
      rintro e w5 ⟨v5, rfl, H5, B5⟩
      go_wp2
      go_ret
      exact ⟨_, rfl, Kd.R_lower H5 B4.size, below_then B4 B4.size B5⟩
    · unfold mkL at hrun1 hent
      have hsz : w.heap.size ≤ w2.heap.size := by have := hB.size; omega
      have hv2 : dI.R 2 w2 w.heap.size (fun k => k ≠ w.heap.size) u9 ((vis.filter (fun p => inR t f u p.1)).map (·.2)) := Kd.R_grown hv hg2 (fun k hk e => hk (by injection e))
      have hB2 : Below w.heap.size w w2 := hB.grown hg2 hB.size (fun k e => by cases e; exact Nat.le_refl _)
      have hlen : ((vis.filter (fun p => inR t f u p.1)).map (·.2)).length ≤ 4096 := by
        rw [List.length_map]
        have h1 := List.length_filter_le (fun p : Lk × Int => inR t f u p.1) vis
        have h2 := hp.length_eq
        rw [List.length_append] at h2
        omega
      have hv3 := fun o => Kd.R_below hv2 (below_alloc (Below.refl _ w2) o)
      have hB3 := fun o => below_alloc hB2 o
      have hrl : w.heap.size < wr.heap.size := by
        obtain ⟨D, left, h1, _⟩ := hr
        exact h1.lt
      have hbl := h.tab.lt
      have hob : ∀ k, u9.ownBlock = some k → k ≠ w.heap.size ∧ w.heap.size ≤ k := fun k hk => ⟨hv.1 k hk, Kd.R_base hv k hk⟩
      obtain ⟨hr4, el⟩ := hr2.kept (World.grownBy_alloc w2 (.cells #[.string a.1, .string a.2] 23) none) (by simp) (by simp)
      have out : inR t f u a = false → HJ w b w.heap.size L t f u u9 (w2.alloc (.cells #[.string a.1, .string a.2] 23)) ∧ (w2.alloc (.cells #[.string a.1, .string a.2] 23)).rangeLeft b w.heap.size < wr.rangeLeft b w.heap.size := fun hno =>
        ⟨⟨vis ++ [(a, x)], _, perm_next (rng_apart hr) hp hmem, hr4, Nat.le_refl _, by
          rw [List.filter_append, List.map_append]
          simpa [hno] using hv3 _, hB3 _⟩, by rw [el]; exact hlt⟩
      have inn : inR t f u a = true → ∀ v1 w3, dI.R 2 w3 w.heap.size (fun k => k ≠ w.heap.size) v1 ((vis.filter (fun p => inR t f u p.1)).map (·.2) ++ [x]) → Below w.heap.size w w3 → (w2.alloc (.cells #[.string a.1, .string a.2] 23)).grownBy w3 u9.ownBlock → HJ w b w.heap.size L t f u v1 w3 ∧ w3.rangeLeft b w.heap.size < wr.rangeLeft b w.heap.size := by
        intro hyes v1 w3 H3 B3 G3
        obtain ⟨hr6, el3⟩ := hr4.kept G3 (fun e => by have := (hob _ e.symm).2; omega) (fun e => (hob _ e.symm).1 rfl)
        refine ⟨⟨vis ++ [(a, x)], _, perm_next (rng_apart hr) hp hmem, hr6, Nat.le_refl _, ?_, B3⟩, by rw [el3, el]; exact hlt⟩
        rw [List.filter_append, List.map_append]
        simpa [hyes] using H3
      go_wp2_with (at_builtin; refine appI (v := u9) rfl rfl rfl rfl (hv3 _) (hB3 _) hlen (by simp; omega) (fun k hk e => by simp at hk; omega) ?_; intro v1 w3 H3 B3 G3)
      all_goals first
        | (refine out ?_; simp [inR, *]; done)
        | (refine inn ?_ _ _ H3 B3 G3; (refine inR_true ?_ ?_ ?_ <;> assumption))
        | (refine inn ?_ _ _ H3 B3 G3; simp [inR, *]; done)
end Go.Proofs.Ytbellkkheppofaa
