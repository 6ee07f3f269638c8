import Derived.Test.YtbellkkheppofaaJ
namespace Go.Proofs.Ytbellkkheppofaa
open Go.RowKit Go.Maps Go.Proofs.YtbellkkheppofaaW.PrintWords Go.Proofs.YtbellkkheppofaaW.PrintLast Go.Proofs.YtbellkkheppofaaW.PrintMore
set_option linter.unusedVariables false
set_option linter.unusedSimpArgs false
set_option linter.unusedSectionVars false
section
variable {ops : Array Oper} {rest : List Oper} {o : Oper} {a : Act} {Q : Exit → Act → World → Prop}
theorem appL {w W : World} {z : Nat} {s x : Operand} {v : Value} {xs : List Lk} {y : Lk} {ok : Nat → Prop} (hgd : o.guard = none) (ho : o.op = .call { callee := .builtin .append, args := #[s, x], argTypes := #[35, 35] })
    (hs : a.eval s = v) (hx : a.eval x = .slice (some ⟨z, 0, none⟩) 1 1) (HO : dL.R 23 W w.heap.size ok v xs) (HB : Below w.heap.size w W) (hl : xs.length ≤ 4096) (hz : W.heap.size = z) (hfresh : ∀ k, W.heap.size ≤ k → ok k)
    (h : ∀ v1 w1, dL.R 23 w1 w.heap.size ok v1 (xs ++ [y]) → Below w.heap.size w w1 → W.grownBy w1 v.ownBlock → wpList Try.prog ops Q rest (a.put o.dst v1) w1) : wpList Try.prog ops Q (o :: rest) a (W.alloc (.cells #[.string y.1, .string y.2] 23)) := by
  subst hz
  refine Kd.R_append dL (w0 := w) w.heap.size hgd s x 35 23 _ 32 ho Try.underlying35 info23 rfl (by decide) (by decide) v xs y [.string y.1, .string y.2] ok (fun _ => False) hs hx rfl (fun _ hk => hk.elim) hfresh HO HB HB.size (by omega) ?_
  intro v1 w1 h1 h2 h3 _
  exact h v1 w1 h1 h2 h3
end
theorem rng_apart {w : World} {b r n : Nat} {L rem : List (Lk × Int)} (h : RngL w b r n L rem) : rem.Pairwise (fun p p' => p.1 ≠ p'.1) := by
  obtain ⟨D, left, _, _, h3, _⟩ := h
  exact h3
/-- under way: what has been seen, what is to come, what has been gathered -/
def HI (w : World) (b r : Nat) (L : List (Lk × Int)) (tx : Int) (v : Value) (wr : World) : Prop :=
  ∃ vis rem : List (Lk × Int), (vis ++ rem).Perm L ∧ RngL wr b r L.length L rem ∧ w.heap.size ≤ r ∧ dL.R 23 wr w.heap.size (fun k => k ≠ r) v ((vis.filter (fun p => p.2 = tx)).map (·.1)) ∧ Below w.heap.size w wr
theorem srt_perm {xs ys : List Lk} (h : xs.Perm ys) : srt xs = srt ys := by
  have ps : ∀ zs : List Lk, (srt zs).Pairwise (fun x y => ¬ ltL y x) := fun zs => by
    have := List.pairwise_mergeSort (le := fun x y => !(ltOf cmpL) y x) (fun a b c h k => by
      simp only [Bool.not_eq_true', ltOf_cmpL_false] at *
      intro e
      rcases ltL_total a b with f | f | f
      · exact k (ltL_trans e f)
      · subst f; exact k e
      · exact h f) (fun a b => by
      by_cases e : ltL b a
      · have : ltOf cmpL a b = false := (ltOf_cmpL_false _ _).2 (fun f => ltL_irrefl _ (ltL_trans e f))
        simp [this]
      · simp [(ltOf_cmpL_false _ _).2 e]) zs
    refine this.imp ?_
    intro a b hab
    simpa [ltOf_cmpL_false] using hab
  refine List.Perm.eq_of_pairwise (fun a b _ _ h1 h2 => ?_) (ps xs) (ps ys) ((List.mergeSort_perm ..).trans (h.trans (List.mergeSort_perm ..).symm))
  rcases ltL_total a b with e | e | e
  · exact absurd e h2
  · exact e
  · exact absurd e h1
/-- a transaction's locks -/
def heldOf (L : List (Lk × Int)) (tx : Int) : List Lk := srt ((L.filter (fun p => p.2 = tx)).map (·.1))
set_option maxHeartbeats 4000000 in
set_option maxRecDepth 100000 in
theorem Held_calls (p b : Nat) (most : Int) (L : List (Lk × Int)) (tx : Int) (w : World) (h : Mg w p b most L) (hL : L.length ≤ 4096) :
    Calls Try.prog 16 #[.pointer (some ⟨p, 0, none⟩), .int .i64 tx] w fun e w' => ∃ v, e = .returned v ∧ dL.R 23 w' w.heap.size (fun _ => True) v (heldOf L tx) ∧ Below w.heap.size w w' := by
  have N := none_calls p b w h.map
  have hm := h.map
  obtain ⟨w1, hrun, hR, hg1, hs1⟩ := Tab.range (t := 54) keyL Try.underlying54 h.tab
  go_enter Try.func16, Try.ntmps16
  go_wp2_with fail
  refine N.mono ?_
  rintro e w' ⟨rfl, rfl⟩
  go_wp2_with fail
  go_loopw [5] (fun v wr => HI w b w.heap.size L tx v wr) (fun _ wr => wr.rangeLeft b w.heap.size)
  case atStart =>
    refine ⟨[], L, List.Perm.refl _, hR, Nat.le_refl _, Kd.R_nil _ _ _ _ _, ⟨hg1.os, hg1.tape, hg1.output, hg1.size, fun i hi => hg1.block i hi (by simp)⟩⟩
  case round =>
    obtain ⟨vis, rem, hp, hr, hle, hv, hB⟩ := hrel
    rcases hr.next keyL Try.underlying2 0 with ⟨hnil, hrun1⟩ | ⟨a, x, w2, hmem, hok, hwf, hrun1, hr2, hlt, hg2, hs2, hent⟩
    · subst hnil
      rw [List.append_nil] at hp
      have hlen : ((vis.filter (fun p => p.2 = tx)).map (·.1)).length < 4611686018427387904 := by
        rw [List.length_map]
        have h1 := List.length_filter_le (fun p : Lk × Int => decide (p.2 = tx)) vis
        have h2 := hp.length_eq
        omega
      have S := sort_calls wr w.heap.size _ u5 _ hv hlen
      go_wp2_with fail
      refine S.mono ?_
      rintro e w3 ⟨rfl, H3, G3⟩
      go_wp2
      go_ret
      refine ⟨_, rfl, ?_, ?_⟩
      · have e1 : srt ((vis.filter (fun p => p.2 = tx)).map (·.1)) = heldOf L tx := srt_perm ((hp.filter _).map _)
        rw [← e1]
        exact Kd.R_mono H3 (fun _ _ => trivial)
      · exact hB.grown G3 hB.size (fun k hk => Kd.R_base hv k hk)
    · unfold mkL at hrun1 hent
      by_cases hx : x = tx
      · subst hx
        have hv2 : dL.R 23 w2 w.heap.size (fun k => k ≠ w.heap.size) u5 ((vis.filter (fun p => p.2 = x)).map (·.1)) := Kd.R_grown hv hg2 (fun k hk e => hk (by injection e))
        have hB2 : Below w.heap.size w w2 := hB.grown hg2 hB.size (fun k e => by cases e; exact Nat.le_refl _)
        have hlen : ((vis.filter (fun p => p.2 = x)).map (·.1)).length ≤ 4096 := by
          rw [List.length_map]
          have h1 := List.length_filter_le (fun p : Lk × Int => decide (p.2 = x)) vis
          have h2 := hp.length_eq
          rw [List.length_append] at h2
          omega
        have hv3 := fun o => Kd.R_below hv2 (below_alloc (Below.refl _ w2) o)
        have hB3 := fun o => below_alloc hB2 o
        have hr3 := w.heap.size
        have hsz : w.heap.size ≤ w2.heap.size := hB2.size
        have hrl : w.heap.size < wr.heap.size := by
          obtain ⟨D, left, h1, _⟩ := hr
          exact h1.lt
        go_wp2_with (at_builtin; refine appL (v := u5) rfl rfl rfl rfl (hv3 _) (hB3 _) hlen (by simp; omega) (fun k hk e => by simp at hk; omega) ?_; intro v1 w3 H3 B3 G3)
        have hbl := h.tab.lt
        have hob : ∀ k, u5.ownBlock = some k → k ≠ w.heap.size ∧ w.heap.size ≤ k := fun k hk => ⟨hv.1 k hk, Kd.R_base hv k hk⟩
        obtain ⟨hr4, el⟩ := hr2.kept (World.grownBy_alloc w2 (.cells #[.string a.1, .string a.2] 23) none) (by simp) (by simp)
        obtain ⟨hr6, el3⟩ := hr4.kept G3 (fun e => by have := (hob _ e.symm).2; omega) (fun e => (hob _ e.symm).1 rfl)
        refine ⟨⟨vis ++ [(a, x)], _, perm_next (rng_apart hr) hp hmem, hr6, Nat.le_refl _, ?_, B3⟩, by rw [el3, el]; exact hlt⟩
        rw [List.filter_append, List.map_append]
        simpa using H3
      · have hx' : (x == tx) = false := by simpa using hx
        go_wp2_with fail
        obtain ⟨hr4, el⟩ := hr2.kept (World.grownBy_alloc w2 (.cells #[.string a.1, .string a.2] 23) none) (by simp) (by simp)
        refine ⟨⟨vis ++ [(a, x)], _, perm_next (rng_apart hr) hp hmem, hr4, Nat.le_refl _, ?_, ?_⟩, by rw [el]; exact hlt⟩
        · rw [List.filter_append, List.map_append]
          have hv2 := Kd.R_below (Kd.R_grown hv hg2 (fun k hk e => hk (by injection e))) (below_alloc (Below.refl _ w2) (.cells #[.string a.1, .string a.2] 23))
          simpa [hx] using hv2
        · exact below_alloc (hB.grown hg2 hB.size (fun k e => by cases e; exact Nat.le_refl _)) _
end Go.Proofs.Ytbellkkheppofaa
