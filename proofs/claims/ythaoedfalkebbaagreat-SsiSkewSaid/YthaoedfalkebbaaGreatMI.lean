import Derived.Test.YthaoedfalkebbaaGreatMH
import Derived.Test.YthaoedfalkebbaaGreatQSh
import Derived.Laws.StructEq
namespace Go.Proofs.YthaoedfalkebbaaGreat.Lck
open Go.RowKit Go.Maps Go.Sort Go.Lib Go.Proofs.YthaoedfalkebbaaGreatW.PrintWords Go.Proofs.YthaoedfalkebbaaGreatW.PrintLast Go.Proofs.YthaoedfalkebbaaGreatW.PrintMore
set_option linter.unusedVariables false
set_option linter.unusedSimpArgs false
set_option linter.unusedSectionVars false
/-! ### a row of plain cells, sorted in its place -/
section
variable {α : Type} [Inhabited α] {enc : α → List Value} {k : Nat} {hn : ∀ x, (enc x).length = k} {h1 : ∀ x, ∀ u ∈ enc x, u.oneCell' = true}
end
/-! ### the sort of locks -/
theorem ltOf_cmpL (x y : Lk) : ltOf cmpL x y = true ↔ ltL x y := by
  unfold ltOf
  rw [decide_eq_true_iff]
  exact (cmpL_lt x y).1
theorem ltOf_cmpL_false (x y : Lk) : ltOf cmpL x y = false ↔ ¬ ltL x y := by
  rw [← ltOf_cmpL, Bool.not_eq_true]
theorem swoL : SWO (ltOf cmpL) where
  irrefl x := (ltOf_cmpL_false _ _).2 (ltL_irrefl x)
  trans x y z h k := (ltOf_cmpL _ _).2 (ltL_trans ((ltOf_cmpL _ _).1 h) ((ltOf_cmpL _ _).1 k))
  ntrans x y z h k := by
    rw [ltOf_cmpL_false] at *
    intro hz
    rcases ltL_total x y with e | e | e
    · exact h e
    · subst e; exact k hz
    · rcases ltL_total y z with f | f | f
      · exact k f
      · subst f; exact h hz
      · exact ltL_irrefl _ (ltL_trans (ltL_trans hz f) e)
theorem totL (x y : Lk) (h : ltOf cmpL x y = false) (k : ltOf cmpL y x = false) : x = y := by
  rw [ltOf_cmpL_false] at *
  rcases ltL_total x y with e | e | e
  · exact absurd e h
  · exact e
  · exact absurd e k
def srt (xs : List Lk) : List Lk := xs.mergeSort fun x y => !(ltOf cmpL) y x
theorem srt_length (xs : List Lk) : (srt xs).length = xs.length := by simp [srt]
set_option maxRecDepth 100000 in
theorem sort_calls (W : World) (base : Nat) (ok : Nat → Prop) (v : Value) (xs : List Lk) (h : dL.R 23 W base ok v xs) (hl : xs.length < 4611686018427387904) :
    Calls Tryz.prog 95 #[v, .func (.func 96) #[] #[]] W fun e w' => e = .returned (.tuple #[]) ∧ dL.R 23 w' base ok v (srt xs) ∧ W.grownBy w' v.ownBlock := by
  obtain ⟨inner, ho⟩ := Kd.R_own h
  rcases ho.2 with ⟨rfl, hn⟩ | ⟨g, cap, cur, rfl, hb, hh, _⟩
  · obtain rfl : xs = [] := List.eq_nil_of_length_eq_zero hn
    refine (AnyF.slices_SortFunc_none Tryz.sortLk none 0 _ W).mono ?_
    rintro e w' ⟨rfl, rfl⟩
    exact ⟨rfl, by rw [show srt [] = [] by simp [srt]]; exact Kd.R_nil _ _ _ _ _, ⟨rfl, rfl, rfl, Nat.le_refl _, fun _ _ _ => rfl⟩⟩
  · have eg : ∀ args w, (callFunc 96 args).run Tryz.prog w = .ok (.enter 96 args) w := enters_of Tryz.func96 (by kernel_rfl) rfl
    have hlt : g < W.heap.size := (Array.getElem?_eq_some_iff.1 hh).1
    have hc : CmpLays Tryz.prog 96 #[] cellsL 2 cmpL g 0 xs.toArray.size W := fun m os dk _ x y => closure_calls x y _
    have hcon := AnyQ.slices_SortFunc_total Tryz.sortLk 2 Tryz.isAgg23 Tryz.sizeOf23 cellsL (fun _ => rfl) (fun x u hu => by simp [cellsL] at hu; rcases hu with rfl | rfl <;> rfl) cmpL swoL 96 #[] g 0 cap xs.toArray W eg hc (flat_holds h) hlt (by simpa using hl) totL
    rw [show xs.toArray.size = xs.length from rfl] at hcon
    refine Calls.mono hcon ?_
    rintro e w' ⟨rfl, n, os, rfl⟩
    obtain ⟨h2, h3⟩ := flat_sorted h (srt_length xs) n os
    rw [srt_length] at h2
    exact ⟨rfl, h2, h3⟩
end Go.Proofs.YthaoedfalkebbaaGreat.Lck
namespace Go.Proofs.YthaoedfalkebbaaGreat.Lck
open Go.RowKit Go.Maps Go.Proofs.YthaoedfalkebbaaGreatW.PrintWords Go.Proofs.YthaoedfalkebbaaGreatW.PrintLast Go.Proofs.YthaoedfalkebbaaGreatW.PrintMore
set_option linter.unusedVariables false
set_option linter.unusedSimpArgs false
set_option linter.unusedSectionVars false
section
variable {ops : Array Oper} {rest : List Oper} {o : Oper} {a : Act} {Q : Exit → Act → World → Prop}
theorem appL {w W : World} {z : Nat} {s x : Operand} {v : Value} {xs : List Lk} {y : Lk} {ok : Nat → Prop} (hgd : o.guard = none) (ho : o.op = .call { callee := .builtin .append, args := #[s, x], argTypes := #[46, 46] })
    (hs : a.eval s = v) (hx : a.eval x = .slice (some ⟨z, 0, none⟩) 1 1) (HO : dL.R 23 W w.heap.size ok v xs) (HB : Below w.heap.size w W) (hl : xs.length ≤ 4096) (hz : W.heap.size = z) (hfresh : ∀ k, W.heap.size ≤ k → ok k)
    (h : ∀ v1 w1, dL.R 23 w1 w.heap.size ok v1 (xs ++ [y]) → Below w.heap.size w w1 → W.grownBy w1 v.ownBlock → wpList Tryz.prog ops Q rest (a.put o.dst v1) w1) : wpList Tryz.prog ops Q (o :: rest) a (W.alloc (.cells #[.string y.1, .string y.2] 23)) := by
  subst hz
  refine Kd.R_append dL (w0 := w) w.heap.size hgd s x 46 23 _ 32 ho Tryz.underlying46 info23 rfl (by decide) (by decide) v xs y [.string y.1, .string y.2] ok (fun _ => False) hs hx rfl (fun _ hk => hk.elim) hfresh HO HB HB.size (by omega) ?_
  intro v1 w1 h1 h2 h3 _
  exact h v1 w1 h1 h2 h3
end
theorem rng_apart {w : World} {b r n : Nat} {L rem : List (Lk × Int)} (h : RngL w b r n L rem) : rem.Pairwise (fun p p' => p.1 ≠ p'.1) := by
  obtain ⟨D, left, _, _, h3, _⟩ := h
  exact h3
/-- under way: what has been seen, what is to come, what has been gathered -/
def HI (w : World) (b r : Nat) (L : List (Lk × Int)) (tx : Int) (v : Value) (wr : World) : Prop :=
  ∃ vis rem : List (Lk × Int), (vis ++ rem).Perm L ∧ RngL wr b r L.length L rem ∧ w.heap.size ≤ r ∧ dL.R 23 wr w.heap.size (fun k => k ≠ r) v ((vis.filter (fun p => p.2 = tx)).map (·.1)) ∧ Below w.heap.size w wr
theorem srt_perm {xs ys : List Lk} (h : xs.Perm ys) : srt xs = srt ys := by
  have ps : ∀ zs : List Lk, (srt zs).Pairwise (fun x y => ¬ ltL y x) := fun zs => by
    have := List.pairwise_mergeSort (le := fun x y => !(ltOf cmpL) y x) (fun a b c h k => by
      simp only [Bool.not_eq_true', ltOf_cmpL_false] at *
      intro e
      rcases ltL_total a b with f | f | f
      · exact k (ltL_trans e f)
      · subst f; exact k e
      · exact h f) (fun a b => by
      by_cases e : ltL b a
      · have : ltOf cmpL a b = false := (ltOf_cmpL_false _ _).2 (fun f => ltL_irrefl _ (ltL_trans e f))
        simp [this]
      · simp [(ltOf_cmpL_false _ _).2 e]) zs
    refine this.imp ?_
    intro a b hab
    simpa [ltOf_cmpL_false] using hab
  refine List.Perm.eq_of_pairwise (fun a b _ _ h1 h2 => ?_) (ps xs) (ps ys) ((List.mergeSort_perm ..).trans (h.trans (List.mergeSort_perm ..).symm))
  rcases ltL_total a b with e | e | e
  · exact absurd e h2
  · exact e
  · exact absurd e h1
/-- a transaction's locks -/
def heldOf (L : List (Lk × Int)) (tx : Int) : List Lk := srt ((L.filter (fun p => p.2 = tx)).map (·.1))
set_option maxHeartbeats 4000000 in
set_option maxRecDepth 100000 in
theorem Held_calls (p b : Nat) (most : Int) (L : List (Lk × Int)) (tx : Int) (w : World) (h : Mg w p b most L) (hL : L.length ≤ 4096) :
    Calls Tryz.prog 51 #[.pointer (some ⟨p, 0, none⟩), .int .i64 tx] w fun e w' => ∃ v, e = .returned v ∧ dL.R 23 w' w.heap.size (fun _ => True) v (heldOf L tx) ∧ Below w.heap.size w w' := by
  have N := none_calls p b w h.map
  have hm := h.map
  obtain ⟨w1, hrun, hR, hg1, hs1⟩ := Tab.range (t := 145) keyL Tryz.underlying145 h.tab
  go_enter Tryz.func51, Tryz.ntmps51
  go_wp2_with fail
  refine N.mono ?_
  rintro e w' ⟨rfl, rfl⟩
  go_wp2_with fail
  go_loopw [5] (fun v wr => HI w b w.heap.size L tx v wr) (fun _ wr => wr.rangeLeft b w.heap.size)
  case atStart =>
    refine ⟨[], L, List.Perm.refl _, hR, Nat.le_refl _, Kd.R_nil _ _ _ _ _, ⟨hg1.os, hg1.tape, hg1.output, hg1.size, fun i hi => hg1.block i hi (by simp)⟩⟩
  case round =>
    obtain ⟨vis, rem, hp, hr, hle, hv, hB⟩ := hrel
    rcases hr.next keyL Tryz.underlying2 0 with ⟨hnil, hrun1⟩ | ⟨a, x, w2, hmem, hok, hwf, hrun1, hr2, hlt, hg2, hs2, hent⟩
    · subst hnil
      rw [List.append_nil] at hp
      have hlen : ((vis.filter (fun p => p.2 = tx)).map (·.1)).length < 4611686018427387904 := by
        rw [List.length_map]
        have h1 := List.length_filter_le (fun p : Lk × Int => decide (p.2 = tx)) vis
        have h2 := hp.length_eq
        omega
      have S := sort_calls wr w.heap.size _ u5 _ hv hlen
      go_wp2_with fail
      refine S.mono ?_
      rintro e w3 ⟨rfl, H3, G3⟩
      go_wp2
      go_ret
      refine ⟨_, rfl, ?_, ?_⟩
      · have e1 : srt ((vis.filter (fun p => p.2 = tx)).map (·.1)) = heldOf L tx := srt_perm ((hp.filter _).map _)
        rw [← e1]
        exact Kd.R_mono H3 (fun _ _ => trivial)
      · exact hB.grown G3 hB.size (fun k hk => Kd.R_base hv k hk)
    · unfold mkL at hrun1 hent
      by_cases hx : x = tx
      · subst hx
        have hv2 : dL.R 23 w2 w.heap.size (fun k => k ≠ w.heap.size) u5 ((vis.filter (fun p => p.2 = x)).map (·.1)) := Kd.R_grown hv hg2 (fun k hk e => hk (by injection e))
        have hB2 : Below w.heap.size w w2 := hB.grown hg2 hB.size (fun k e => by cases e; exact Nat.le_refl _)
        have hlen : ((vis.filter (fun p => p.2 = x)).map (·.1)).length ≤ 4096 := by
          rw [List.length_map]
          have h1 := List.length_filter_le (fun p : Lk × Int => decide (p.2 = x)) vis
          have h2 := hp.length_eq
          rw [List.length_append] at h2
          omega
        have hv3 := fun o => Kd.R_below hv2 (below_alloc (Below.refl _ w2) o)
        have hB3 := fun o => below_alloc hB2 o
        have hr3 := w.heap.size
        have hsz : w.heap.size ≤ w2.heap.size := hB2.size
        have hrl : w.heap.size < wr.heap.size := by
          obtain ⟨D, left, h1, _⟩ := hr
          exact h1.lt
        go_wp2_with (at_builtin; refine appL (v := u5) rfl rfl rfl rfl (hv3 _) (hB3 _) hlen (by simp; omega) (fun k hk e => by simp at hk; omega) ?_; intro v1 w3 H3 B3 G3)
        have hbl := h.tab.lt
        have hob : ∀ k, u5.ownBlock = some k → k ≠ w.heap.size ∧ w.heap.size ≤ k := fun k hk => ⟨hv.1 k hk, Kd.R_base hv k hk⟩
        obtain ⟨hr4, el⟩ := hr2.kept (World.grownBy_alloc w2 (.cells #[.string a.1, .string a.2] 23) none) (by simp) (by simp)
        obtain ⟨hr6, el3⟩ := hr4.kept G3 (fun e => by have := (hob _ e.symm).2; omega) (fun e => (hob _ e.symm).1 rfl)
        refine ⟨⟨vis ++ [(a, x)], _, perm_next (rng_apart hr) hp hmem, hr6, Nat.le_refl _, ?_, B3⟩, by rw [el3, el]; exact hlt⟩
        rw [List.filter_append, List.map_append]
        simpa using H3
      · have hx' : (x == tx) = false := by simpa using hx
        go_wp2_with fail
        obtain ⟨hr4, el⟩ := hr2.kept (World.grownBy_alloc w2 (.cells #[.string a.1, .string a.2] 23) none) (by simp) (by simp)
        refine ⟨⟨vis ++ [(a, x)], _, perm_next (rng_apart hr) hp hmem, hr4, Nat.le_refl _, ?_, ?_⟩, by rw [el]; exact hlt⟩
        · rw [List.filter_append, List.map_append]
          have hv2 := Kd.R_below (Kd.R_grown hv hg2 (fun k hk e => hk (by injection e))) (below_alloc (Below.refl _ w2) (.cells #[.string a.1, .string a.2] 23))
          simpa [hx] using hv2
        · exact below_alloc (hB.grown hg2 hB.size (fun k e => by cases e; exact Nat.le_refl _)) _
end Go.Proofs.YthaoedfalkebbaaGreat.Lck
namespace Go.Proofs.YthaoedfalkebbaaGreat.Lck
open Go.RowKit Go.Maps Go.Sort Go.Proofs.YthaoedfalkebbaaGreatW.PrintWords Go.Proofs.YthaoedfalkebbaaGreatW.PrintLast Go.Proofs.YthaoedfalkebbaaGreatW.PrintMore
set_option linter.unusedVariables false
set_option linter.unusedSimpArgs false
set_option linter.unusedSectionVars false
/-- the release under way -/
def RI (w w1 : World) (b : Nat) (L : List (Lk × Int)) (xs : List Lk) (v i : Value) (wr : World) : Prop :=
  ∃ k : Nat, k ≤ xs.length ∧ i = .int .i64 k ∧ TabL wr b L.length (L.filter (fun p => (xs.take k).all (fun a => decide (p.1 ≠ a)))) ∧ dL.R 23 wr w.heap.size (fun k => k ≠ b) v xs ∧ w1.grownBy wr (some b)
theorem Mg.good {w : World} {p b : Nat} {most : Int} {L : List (Lk × Int)} (h : Mg w p b most L) : ∀ q ∈ L, okL q.1 := by
  obtain ⟨D, _, h2⟩ := h.tab
  exact h2.good
theorem heldOf_length (L : List (Lk × Int)) (tx : Int) : (heldOf L tx).length = (L.filter (fun p => p.2 = tx)).length := by simp [heldOf, srt_length]
theorem heldOf_mem {L : List (Lk × Int)} {tx : Int} {a : Lk} : a ∈ heldOf L tx ↔ (a, tx) ∈ L := by
  unfold heldOf srt
  rw [List.mem_mergeSort]
  simp only [List.mem_map, List.mem_filter, decide_eq_true_eq]
  constructor
  · rintro ⟨⟨x, y⟩, ⟨h1, h2⟩, rfl⟩
    simp only at h2
    subst h2
    exact h1
  · intro h
    exact ⟨_, ⟨h, rfl⟩, rfl⟩
theorem without_step {L : List (Lk × Int)} {xs : List Lk} {k : Nat} (hk : k < xs.length) {a : Lk} (ha : xs.getD k (ByteArray.empty, ByteArray.empty) = a) :
    L.filter (fun p => (xs.take (k + 1)).all (fun a => decide (p.1 ≠ a))) = (L.filter (fun p => (xs.take k).all (fun a => decide (p.1 ≠ a)))).filter (fun p => p.1 ≠ a) := by
  have e : xs[k] = a := by rw [← ha, List.getD_eq_getElem?_getD, List.getElem?_eq_getElem hk]; rfl
  rw [List.filter_filter, List.take_succ_eq_append_getElem hk, e]
  congr 1
  funext p
  rw [List.all_append]
  simp [Bool.and_comm]
theorem without_all {L : List (Lk × Int)} (hL : L.Pairwise (fun p p' => p.1 ≠ p'.1)) (tx : Int) : L.filter (fun p => (heldOf L tx).all (fun a => decide (p.1 ≠ a))) = L.filter (fun p => p.2 ≠ tx) := by
  refine List.filter_congr fun p hp => ?_
  rw [Bool.eq_iff_iff]
  simp only [List.all_eq_true, decide_eq_true_eq]
  constructor
  · rintro h rfl
    exact h p.1 (heldOf_mem.2 hp) rfl
  · rintro h a ha rfl
    have h1 := mem_got hL (heldOf_mem.1 ha)
    have h2 := mem_got hL (show (p.1, p.2) ∈ L from hp)
    rw [h1] at h2
    exact h (Option.some.inj h2).symm
set_option maxHeartbeats 4000000 in
set_option maxRecDepth 100000 in
theorem Release_calls (p b : Nat) (most : Int) (L : List (Lk × Int)) (tx : Int) (w : World) (h : Mg w p b most L) (hL : L.length ≤ 4096) :
    Calls Tryz.prog 53 #[.pointer (some ⟨p, 0, none⟩), .int .i64 tx] w fun e w' => e = .returned (.int .i64 ((L.filter (fun p => p.2 = tx)).length : Nat)) ∧ Mg w' p b most (L.filter (fun p => p.2 ≠ tx)) ∧ w.grownBy w' (some b) := by
  have N := none_calls p b w h.map
  have hm := h.map
  have hH := Held_calls p b most L tx w h hL
  go_enter Tryz.func53, Tryz.ntmps53
  go_wp2_with fail
  refine N.mono ?_
  rintro e w' ⟨rfl, rfl⟩
  go_wp2_with fail
  refine hH.mono ?_
  rintro e w1 ⟨v, rfl, H1, B1⟩
  obtain ⟨A, c, rfl, hle, hC⟩ := Kd.R_reads H1
  go_wp2_with fail
  have hs1 := B1.size
  have hb0 := h.tab.lt
  have hp0 := World.block_lt_of_cell? _ _ hm
  have hne := h.ne
  have hlen : (heldOf L tx).length ≤ 4096 := by
    rw [heldOf_length]
    exact Nat.le_trans (List.length_filter_le _ _) hL
  go_loopw [15] (fun i wr => RI w w1 b L (heldOf L tx) (.slice A (heldOf L tx).length c) i wr) (fun i _ => (heldOf L tx).length - (intOf i).toNat)
  case atStart =>
    refine ⟨0, Nat.zero_le _, rfl, ?_, ?_, ?_⟩
    · have : L.filter (fun p => ((heldOf L tx).take 0).all (fun a => decide (p.1 ≠ a))) = L := List.filter_eq_self.2 (fun _ _ => rfl)
      rw [this]
      exact (h.below B1).tab
    · exact Kd.R_mono (Kd.R_bound H1) (fun k hk e => by have := hk.2.1; omega)
    · exact ⟨rfl, rfl, rfl, Nat.le_refl _, fun _ _ _ => rfl⟩
  case round =>
    obtain ⟨k, hk, rfl, hT, hR, hG⟩ := hrel
    by_cases hlt : k < (heldOf L tx).length
    · obtain ⟨ad, cs, rfl, hcl, hcs, hcc⟩ := Kd.C_get (Kd.R_reads' hR).2.2 (ByteArray.empty, ByteArray.empty) (k : Int) (by omega) (by omega)
      generalize haa : (heldOf L tx).getD (k : Int).toNat (ByteArray.empty, ByteArray.empty) = a at hcs
      obtain rfl : cs = cellsL a := hcs
      have q0 : wr.cell? (ad.add (k * 2)) = some (.string a.1) := hcc 0 _ rfl
      have q1 : wr.cell? (ad.add (k * 2 + 1)) = some (.string a.2) := hcc 1 _ rfl
      obtain ⟨g, rfl⟩ := Kd.R_head hR
      rw [add_plain] at q0 q1
      clear hcc hcl
      obtain ⟨w2, hw2⟩ : ∃ w2, w2 = wr.alloc (.cells #[.string a.1, .string a.2] 23) := ⟨_, rfl⟩
      have hg2 : wr.grownBy w2 none := by rw [hw2]; exact World.grownBy_alloc _ _ _
      have hmr : wr.cell? ⟨p, 1, none⟩ = some (.map (some b)) := hG.cell (B1.cell hp0 |>.trans hm) (fun e => by injection e with e; exact hne e)
      have hm2 : w2.cell? ⟨p, 1, none⟩ = some (.map (some b)) := hg2.cell hmr (by simp)
      have c0 : w2.cell? ⟨wr.heap.size, 0, none⟩ = some (.string a.1) := by rw [hw2]; simp [go_sem]
      have c1 : w2.cell? ⟨wr.heap.size, 1, none⟩ = some (.string a.2) := by rw [hw2]; simp [go_sem]
      have hka : (heldOf L tx).getD k (ByteArray.empty, ByteArray.empty) = a := haa
      have hok : okL a := by
        have hm : a ∈ heldOf L tx := by
          rw [← hka, List.getD_eq_getElem?_getD, List.getElem?_eq_getElem hlt]
          exact List.getElem_mem hlt
        exact h.good _ (heldOf_mem.1 hm)
      have hbr : b < wr.heap.size := Nat.lt_of_lt_of_le (Nat.lt_of_lt_of_le hb0 hs1) hG.size
      have ht2 : TabL w2 b L.length _ := hT.kept hg2 (by simp)
      obtain ⟨w3, hst, ht3, hturn⟩ := Tab.drop (w := w2.drew) (t := 145) keyL Tryz.underlying145 (show TabL w2.drew b L.length _ from ht2) hok 0
      unfold mkL at hst
      have hg3 := turned_grown hturn
      have hb3 : ∀ q j v, w2.cell? ⟨q, j, none⟩ = some v → q ≠ b → w3.cell? ⟨q, j, none⟩ = some v := fun q j v hv hq => hg3.cell (show w2.drew.cell? _ = _ from hv) (fun e => by injection e with e; exact hq e)
      have hm3 := hb3 _ _ _ hm2 hne
      have d0 := hb3 _ _ _ c0 (by omega)
      have d1 := hb3 _ _ _ c1 (by omega)
      clear hb3 hmr
      go_wp2_with fail
      rw [← hw2]
      clear hw2
      go_region_held3 (fun W => W.cell? ⟨p, 1, none⟩ = some (.map (some b)) ∧ W.cell? ⟨wr.heap.size, 0, none⟩ = some (.string a.1) ∧ W.cell? ⟨wr.heap.size, 1, none⟩ = some (.string a.2)) (first | exact ⟨hm2, c0, c1⟩ | exact ⟨hm3, d0, d1⟩) (fail)
      go_wp2
      go_roundw
      case rel =>
        refine ⟨k + 1, by omega, by go_num, ?_, ?_, ?_⟩
        · rw [without_step hlt hka]; exact ht3
        · have hR2 := Kd.R_grown hR hg2 (fun _ _ => by simp)
          exact Kd.R_grown (w := w2.drew) hR2 hg3 (fun k hk e => hk (by injection e))
        · exact ⟨hg3.os.trans (hg2.os.trans hG.os), hg3.tape.trans (hg2.tape.trans hG.tape), hg3.output.trans (hg2.output.trans hG.output), Nat.le_trans hG.size (Nat.le_trans hg2.size hg3.size), fun i hi hne => (hg3.block i (Nat.lt_of_lt_of_le hi (Nat.le_trans hG.size hg2.size)) hne).trans ((hg2.block i (Nat.lt_of_lt_of_le hi hG.size) (by simp)).trans (hG.block i hi hne))⟩
      case measure => simp [intOf]; omega
    · obtain rfl : k = (heldOf L tx).length := by omega
      go_wp2
      go_ret
      refine ⟨by rw [heldOf_length]; rfl, ⟨?_, ?_, ?_⟩, ?_⟩
      · exact hG.cell (B1.cell hp0 |>.trans h.most) (fun e => by injection e with e; exact hne e)
      · exact hG.cell (B1.cell hp0 |>.trans hm) (fun e => by injection e with e; exact hne e)
      · rw [List.take_length, without_all h.tab.tidy] at hT
        have hE := hT.exact
        simpa using hE
      · exact ⟨hG.os.trans B1.os, hG.tape.trans B1.tape, hG.output.trans B1.output, Nat.le_trans B1.size hG.size, fun i hi hne => (hG.block i (Nat.lt_of_lt_of_le hi B1.size) hne).trans (B1.block i hi)⟩
end Go.Proofs.YthaoedfalkebbaaGreat.Lck
namespace Go.Proofs.YthaoedfalkebbaaGreat.Lck
open Go.RowKit Go.Maps Go.Sort Go.Proofs.YthaoedfalkebbaaGreatW.PrintWords Go.Proofs.YthaoedfalkebbaaGreatW.PrintLast Go.Proofs.YthaoedfalkebbaaGreatW.PrintMore
set_option linter.unusedVariables false
set_option linter.unusedSimpArgs false
set_option linter.unusedSectionVars false
/-! ### locks compared -/
theorem eqLk (x y : Lk) (w : World) : (binOp .eql 23 (.agg #[.string x.1, .string x.2]) (.agg #[.string y.1, .string y.2])).run Tryz.prog w = .ok (.bool (decide (x = y))) w := by
  have u9 := Tryz.underlying9
  have a9 := Tryz.isAgg9
  have z9 := Tryz.sizeOf9
  have hS : Tryz.prog.underlying 23 = some (.struct (Tryz.prog.fieldsOf 23)) := by kernel_rfl
  have hp : Tryz.prog.stoodInHeld 23 = false := by kernel_rfl
  rw [run_eql_struct, show (10000 : Nat) = 9999 + 1 from rfl, run_equalIn_agg w 9999 23 _ _ hS hp]
  simp only [Program.fieldsOf, Tryz.underlying23]
  go_simp
  obtain ⟨a, b⟩ := x
  obtain ⟨c, d⟩ := y
  simp only [Prod.mk.injEq, toList_iff]
  by_cases h1 : a = c <;> by_cases h2 : b = d <;> simp [h1, h2]
theorem neLk (x y : Lk) (w : World) : (binOp .neq 23 (.agg #[.string x.1, .string x.2]) (.agg #[.string y.1, .string y.2])).run Tryz.prog w = .ok (.bool (!decide (x = y))) w := by
  have u9 := Tryz.underlying9
  have a9 := Tryz.isAgg9
  have z9 := Tryz.sizeOf9
  have hS : Tryz.prog.underlying 23 = some (.struct (Tryz.prog.fieldsOf 23)) := by kernel_rfl
  have hp : Tryz.prog.stoodInHeld 23 = false := by kernel_rfl
  rw [run_neq_struct, show (10000 : Nat) = 9999 + 1 from rfl, run_equalIn_agg w 9999 23 _ _ hS hp]
  simp only [Program.fieldsOf, Tryz.underlying23]
  go_simp
  obtain ⟨a, b⟩ := x
  obtain ⟨c, d⟩ := y
  simp only [Prod.mk.injEq, toList_iff]
  by_cases h1 : a = c <;> by_cases h2 : b = d <;> simp [h1, h2]
/-! ### Take, whatever it is called with -/
theorem Take_any (p b : Nat) (most : Int) (L : List (Lk × Int)) (tx snap last : Int) (a : Lk) (w : World) (h : Mg w p b most L) (ha : okL a) (hwf : (Lit.int .i64 tx).wf = true) (hL : L.length < maxLen) :
    Calls Tryz.prog 42 #[.pointer (some ⟨p, 0, none⟩), .int .i64 tx, .int .i64 snap, .int .i64 last, .agg #[.string a.1, .string a.2]] w fun e w' => e = .returned (.int .i64 (tk most L tx snap last a).2) ∧ Mg w' p b most (tk most L tx snap last a).1 ∧ w.grownBy w' (some b) := by
  by_cases hx : tx < 1 ∨ snap < 0 ∨ last < 0
  · refine (Take_bad p b most L tx snap last a w h ha hx).mono ?_
    rintro e w' ⟨rfl, B⟩
    unfold tk
    rw [if_pos hx]
    exact ⟨rfl, h.below B, ⟨B.os, B.tape, B.output, B.size, fun i hi _ => B.block i hi⟩⟩
  · exact Take_calls p b most L tx snap last a w h ha hwf hL hx
theorem tk_length (most : Int) (L : List (Lk × Int)) (tx snap last : Int) (a : Lk) (h : (L.length : Int) ≤ most) : ((tk most L tx snap last a).1.length : Int) ≤ most := by
  unfold tk
  split
  · exact h
  · split
    · split <;> exact h
    · split
      · exact h
      · split
        · exact h
        · simp; omega
/-! ### LockFirst -/
structure FirstOK (L : List (Lk × Int)) (at_ : Lk) : Prop where
  len : L.length ≤ 4096
  mine : got L at_ = some 1
  rest : ∀ q ∈ L, q.1 ≠ at_ → 2 < q.2
theorem FirstOK.take {L : List (Lk × Int)} {at_ a : Lk} (h : FirstOK L at_) (tx snap last : Int) (ht : 2 < tx) (hne : a ≠ at_) : FirstOK (tk 4096 L tx snap last a).1 at_ := by
  have hl := tk_length 4096 L tx snap last a (by have := h.len; omega)
  refine ⟨by omega, ?_, ?_⟩
  · unfold tk
    split
    · exact h.mine
    · split
      · split <;> exact h.mine
      · split
        · exact h.mine
        · split
          · exact h.mine
          · have := h.mine
            unfold got at this ⊢
            rw [List.find?_append]
            cases hf : L.find? (fun p => decide (p.1 = at_)) with
            | none => rw [hf] at this; cases this
            | some y => rw [hf] at this; exact this
  · intro q hq hne'
    unfold tk at hq
    split at hq
    · exact h.rest q hq hne'
    · split at hq
      · split at hq <;> exact h.rest q hq hne'
      · split at hq
        · exact h.rest q hq hne'
        · split at hq
          · exact h.rest q hq hne'
          · rcases List.mem_append.1 hq with hq | hq
            · exact h.rest q hq hne'
            · rw [List.mem_singleton.1 hq]; exact ht
theorem FirstOK.release {L : List (Lk × Int)} {at_ : Lk} (h : FirstOK L at_) (tx : Int) (ht : 2 < tx) : FirstOK (L.filter (fun p => decide (p.2 ≠ tx))) at_ := by
  refine ⟨Nat.le_trans (List.length_filter_le _ _) h.len, ?_, fun q hq hne => h.rest q (List.mem_filter.1 hq).1 hne⟩
  have hg := h.mine
  clear h
  induction L with
  | nil => cases hg
  | cons p L ih =>
    by_cases e : p.1 = at_
    · have e2 : p.2 = 1 := by simpa [got, e] using hg
      rw [List.filter_cons, if_pos (by simp [e2]; omega)]
      simp [got, e, e2]
    · have e3 : got L at_ = some 1 := by
        have : got (p :: L) at_ = got L at_ := by simp [got, e]
        rw [this] at hg
        exact hg
      rw [List.filter_cons]
      split
      · have : got (p :: L.filter (fun p => decide (p.2 ≠ tx))) at_ = got (L.filter (fun p => decide (p.2 ≠ tx))) at_ := by simp [got, e]
        rw [this]
        exact ih e3
      · exact ih e3
theorem FirstOK.only {L : List (Lk × Int)} {at_ : Lk} (h : FirstOK L at_) (hL : L.Pairwise (fun p p' => p.1 ≠ p'.1)) : ∀ q ∈ L, (q.2 = 1 ↔ q = (at_, 1)) := by
  intro q hq
  constructor
  · intro e
    by_cases e2 : q.1 = at_
    · exact Prod.ext e2 e
    · have := h.rest q hq e2
      omega
  · rintro rfl; rfl
theorem FirstOK.one {L : List (Lk × Int)} {at_ : Lk} (h : FirstOK L at_) (hL : L.Pairwise (fun p p' => p.1 ≠ p'.1)) : (L.filter (fun p => decide (p.2 = 1))).length = 1 := by
  have h1 := h.only hL
  have hm := got_mem h.mine
  clear h
  induction L with
  | nil => cases hm
  | cons p L ih =>
    rw [List.pairwise_cons] at hL
    have h2 : ∀ q ∈ L, (q.2 = 1 ↔ q = (at_, 1)) := fun q hq => h1 q (List.mem_cons_of_mem _ hq)
    by_cases e : p = (at_, 1)
    · have hn : L.filter (fun p => decide (p.2 = 1)) = [] := by
        rw [List.filter_eq_nil_iff]
        intro q hq
        simp only [decide_eq_true_eq]
        intro e2
        have := (h2 q hq).1 e2
        exact hL.1 q hq (by rw [e, this])
      rw [List.filter_cons, if_pos (by rw [e]; rfl), hn]
      rfl
    · have h3 : ¬ p.2 = 1 := fun e2 => e ((h1 p List.mem_cons_self).1 e2)
      rw [List.filter_cons, if_neg (by simpa using h3)]
      refine ih hL.2 h2 ?_
      rcases List.mem_cons.1 hm with hm | hm
      · exact absurd hm.symm e
      · exact hm
theorem FirstOK.gone {L : List (Lk × Int)} {at_ : Lk} (h : FirstOK L at_) (hL : L.Pairwise (fun p p' => p.1 ≠ p'.1)) : (L.filter (fun p => decide (p.2 ≠ 1))).length < 4096 ∧ got (L.filter (fun p => decide (p.2 ≠ 1))) at_ = none := by
  have h1 := h.one hL
  have h2 : (L.filter (fun p => decide (p.2 = 1))).length + (L.filter (fun p => decide (p.2 ≠ 1))).length = L.length := by
    clear h h1 hL
    induction L with
    | nil => rfl
    | cons p L ih =>
      by_cases e : p.2 = 1
      · simp [e] at ih ⊢; omega
      · simp [e] at ih ⊢; omega
  have h3 := h.len
  refine ⟨by omega, ?_⟩
  cases hg : got (L.filter (fun p => decide (p.2 ≠ 1))) at_ with
  | none => rfl
  | some v =>
    have hm := List.mem_filter.1 (got_mem hg)
    have e1 := mem_got hL hm.1
    rw [h.mine] at e1
    injection e1 with e1
    simp [← e1] at hm
structure FI (w : World) (p b bx n : Nat) (at_ : Lk) (i : Value) (wr : World) : Prop where
  ex : ∃ k : Nat, k ≤ n ∧ i = .int .i64 k
  mg : ∃ L, Mg wr p b 4096 L ∧ FirstOK L at_
  b0 : wr.cell? ⟨bx, 0, none⟩ = some (.string at_.1)
  b1 : wr.cell? ⟨bx, 1, none⟩ = some (.string at_.2)
  bel : Below w.heap.size w wr
end Go.Proofs.YthaoedfalkebbaaGreat.Lck
namespace Go.Proofs.YthaoedfalkebbaaGreat.Lck
open Go.RowKit Go.Maps Go.Sort Go.Proofs.YthaoedfalkebbaaGreatW.PrintWords Go.Proofs.YthaoedfalkebbaaGreatW.PrintLast Go.Proofs.YthaoedfalkebbaaGreatW.PrintMore
set_option linter.unusedVariables false
set_option linter.unusedSimpArgs false
set_option linter.unusedSectionVars false
/-! ### a row whose block may be larger than its capacity (cut by three indexes) -/
section
variable {P : Program} {w w1 : World} {base n size : Nat} {e : TypeId} {v : Value} {xs : List Value}
end
/-! ### the same, by what the elements are -/
section
variable {α : Type} {enc : α → List Value} {k : Nat} {e base : Nat} {w w1 : World} {v : Value} {xs : List α}
end
end Go.Proofs.YthaoedfalkebbaaGreat.Lck
namespace Go.Proofs.YthaoedfalkebbaaGreat.Lck
open Go.RowKit Go.Maps Go.Sort Go.Proofs.YthaoedfalkebbaaGreatW.PrintWords Go.Proofs.YthaoedfalkebbaaGreatW.PrintLast Go.Proofs.YthaoedfalkebbaaGreatW.PrintMore
set_option linter.unusedVariables false
set_option linter.unusedSimpArgs false
set_option linter.unusedSectionVars false
set_option maxHeartbeats 4000000 in
set_option maxRecDepth 100000 in
theorem Holder_calls (p b : Nat) (most : Int) (L : List (Lk × Int)) (a : Lk) (w : World) (h : Mg w p b most L) (ha : okL a) :
    Calls Tryz.prog 40 #[.pointer (some ⟨p, 0, none⟩), .agg #[.string a.1, .string a.2]] w fun e w' => e = .returned (.tuple #[.int .i64 ((got L a).getD 0), .bool (got L a).isSome]) ∧ Below w.heap.size w w' := by
  obtain ⟨w1, hw1⟩ : ∃ w1, w1 = w.alloc (.cells #[.string a.1, .string a.2] 23) := ⟨_, rfl⟩
  have hB : Below w.heap.size w w1 := by rw [hw1]; exact (Below.refl _ w).alloc (Nat.le_refl _) _
  have hm1 : w1.cell? ⟨p, 1, none⟩ = some (.map (some b)) := (hB.cell (World.block_lt_of_cell? _ _ h.map)).trans h.map
  have ht1 : TabL w1 b L.length L := h.tab.kept (row := none) (by rw [hw1]; exact World.grownBy_alloc _ _ _) (by simp)
  have hc1 : w1.cell? ⟨w.heap.size, 0, none⟩ = some (.string a.1) := by rw [hw1]; simp [go_sem]
  have hc2 : w1.cell? ⟨w.heap.size, 1, none⟩ = some (.string a.2) := by rw [hw1]; simp [go_sem]
  have N := none_calls p b w1 hm1
  have hlook := Tab.look (w := w1.drew) (t := 145) keyL Tryz.underlying145 Tryz.underlying2 (show TabL w1.drew b L.length L from ht1) (by kernel_rfl) ha
  unfold mkL at hlook
  generalize (got L a).getD 0 = r1 at hlook ⊢
  generalize (got L a).isSome = r2 at hlook ⊢
  clear h ht1
  go_enter Tryz.func40, Tryz.ntmps40
  go_wp2_with fail
  rw [← hw1]
  clear hw1
  refine N.mono ?_
  rintro e w' ⟨rfl, rfl⟩
  go_wp2
  go_region_held3 (fun W => W.cell? ⟨p, 1, none⟩ = some (.map (some b)) ∧ W.cell? ⟨w.heap.size, 0, none⟩ = some (.string a.1) ∧ W.cell? ⟨w.heap.size, 1, none⟩ = some (.string a.2)) (first | exact ⟨hm1, hc1, hc2⟩) (fail)
  go_wp2
  go_ret2
  exact ⟨rfl, hB.os, hB.tape, hB.output, hB.size, hB.block⟩
/-! ### LockOne: plain -/
def fsts (L : List (Lk × Int)) : List Lk := L.map (·.1)
def snds (L : List (Lk × Int)) : List Int := L.map (·.2)
/-- the release by the lists: of M the first i have been gone through -/
structure Gone (L : List (Lk × Int)) (tx : Int) (M : List (Lk × Int)) (i n : Nat) : Prop where
  ex : ∃ pre post, L = pre ++ post ∧ M = pre.filter (fun p => decide (p.2 ≠ tx)) ++ post ∧ i = (pre.filter (fun p => decide (p.2 ≠ tx))).length ∧ n = (pre.filter (fun p => decide (p.2 = tx))).length
theorem Gone.start (L : List (Lk × Int)) (tx : Int) : Gone L tx L 0 0 := ⟨[], L, rfl, rfl, rfl, rfl⟩
theorem Gone.le {L M : List (Lk × Int)} {tx : Int} {i n : Nat} (h : Gone L tx M i n) : i ≤ M.length ∧ M.length ≤ L.length ∧ n ≤ L.length := by
  obtain ⟨pre, post, rfl, rfl, rfl, rfl⟩ := h
  have h1 := List.length_filter_le (fun p : Lk × Int => decide (p.2 ≠ tx)) pre
  have h2 := List.length_filter_le (fun p : Lk × Int => decide (p.2 = tx)) pre
  simp only [List.length_append]
  omega
theorem Gone.keep {L M : List (Lk × Int)} {tx : Int} {i n : Nat} (h : Gone L tx M i n) (hi : i < M.length) (hne : (M[i]).2 ≠ tx) : Gone L tx M (i + 1) n := by
  obtain ⟨pre, post, rfl, rfl, rfl, rfl⟩ := h
  cases post with
  | nil => simp at hi
  | cons q post =>
    have e : q.2 ≠ tx := by simpa using hne
    exact ⟨pre ++ [q], post, by simp, by simp [List.filter_append, e], by simp [List.filter_append, e], by simp [List.filter_append, e]⟩
theorem Gone.drop {L M : List (Lk × Int)} {tx : Int} {i n : Nat} (h : Gone L tx M i n) (hi : i < M.length) (he : (M[i]).2 = tx) : Gone L tx (M.eraseIdx i) i (n + 1) := by
  obtain ⟨pre, post, rfl, rfl, rfl, rfl⟩ := h
  cases post with
  | nil => simp at hi
  | cons q post =>
    have e : q.2 = tx := by simpa using he
    refine ⟨pre ++ [q], post, by simp, ?_, by simp [List.filter_append, e], by simp [List.filter_append, e]⟩
    rw [List.eraseIdx_append_of_length_le (Nat.le_refl _)]
    simp [List.filter_append, e]
theorem Gone.done {L M : List (Lk × Int)} {tx : Int} {n : Nat} (h : Gone L tx M M.length n) : M = L.filter (fun p => decide (p.2 ≠ tx)) ∧ n = (L.filter (fun p => decide (p.2 = tx))).length := by
  obtain ⟨pre, post, rfl, rfl, h1, rfl⟩ := h
  have hp : post = [] := by
    rw [List.length_append] at h1
    exact List.eq_nil_of_length_eq_zero (by omega)
  subst hp
  simp
/-- who holds it among the first so many -/
def hold (L : List (Lk × Int)) (a : Lk) (k : Nat) : Int := (got (L.take k) a).getD 0
theorem hold_succ {L : List (Lk × Int)} (hL : L.Pairwise (fun p p' => p.1 ≠ p'.1)) (a : Lk) {k : Nat} (hk : k < L.length) : hold L a (k + 1) = if (L[k]).1 = a then (L[k]).2 else hold L a k := by
  have hL' : (L.take (k + 1)).Pairwise (fun p p' => p.1 ≠ p'.1) := hL.sublist (List.take_sublist _ _)
  unfold hold
  by_cases e : (L[k]).1 = a
  · rw [if_pos e]
    have hm : (a, (L[k]).2) ∈ L.take (k + 1) := by
      rw [List.take_succ_eq_append_getElem hk]
      exact List.mem_append_right _ (by rw [← e]; exact List.mem_singleton.2 rfl)
    rw [mem_got hL' hm]
    rfl
  · rw [if_neg e, List.take_succ_eq_append_getElem hk]
    congr 1
    unfold got
    rw [List.find?_append]
    simp [e]
theorem hold_all (L : List (Lk × Int)) (a : Lk) : hold L a L.length = (got L a).getD 0 := by
  unfold hold
  rw [List.take_length]
end Go.Proofs.YthaoedfalkebbaaGreat.Lck
