import Derived.Test.YtoeefamnglbakaaT
namespace Go.Proofs.Ytoeefamnglbakaa
open Go.RowKit Go.Proofs.YtoeefamnglbakaaW.PrintWords Go.Proofs.YtoeefamnglbakaaW.PrintLast Go.Proofs.YtoeefamnglbakaaW.PrintMore
set_option linter.unusedVariables false
set_option linter.unusedSimpArgs false
attribute [local go_sem] t3 ts
theorem grown_then {W A B : World} {r r' : Option Nat} (h : W.grownBy A r) (k : A.grownBy B r') (hr : ∀ b, r' = some b → r = some b ∨ W.heap.size ≤ b) : W.grownBy B r :=
  ⟨k.os.trans h.os, k.tape.trans h.tape, k.output.trans h.output, Nat.le_trans h.size k.size, fun i hi hne => (k.block i (Nat.lt_of_lt_of_le hi h.size) (fun e => by
    rcases hr i e.symm with e' | e'
    · exact hne e'.symm
    · omega)).trans (h.block i hi hne)⟩
theorem grown_refl (W : World) (r : Option Nat) : W.grownBy W r := ⟨rfl, rfl, rfl, Nat.le_refl _, fun _ _ _ => rfl⟩
section
variable {ops : Array Oper} {rest : List Oper} {o : Oper} {a : Act} {Q : Exit → Act → World → Prop}
theorem app1g {w W : World} {s x : Operand} {v : Value} {xs : List Int} {y : Int} (hgd : o.guard = none) (ho : o.op = .call { callee := .builtin .append, args := #[s, x], argTypes := #[22, 22] })
    (hs : a.eval s = v) (hx : a.eval x = .slice (some ⟨W.heap.size, 0, none⟩) 1 1) (HO : Fr w W v xs) (hl : xs.length + 1 ≤ 140737488355328)
    (h : ∀ v1 w1, Fr w w1 v1 (xs ++ [y]) → (W.alloc (.cells #[.int .u8 y] 5)).grownBy w1 v.ownBlock → (v1.ownBlock = v.ownBlock ∨ ∃ b, v1.ownBlock = some b ∧ W.heap.size ≤ b) → wpList Try.prog ops Q rest (a.put o.dst v1) w1) : wpList Try.prog ops Q (o :: rest) a (W.alloc (.cells #[.int .u8 y] 5)) := by
  have C := C_lit W 5 (0, 0) .u8 [y] (by simp)
  simp only [nums, List.map_cons, List.map_nil, List.length_cons, List.length_nil] at C
  refine Kd.R_append_row (P := Try.prog) (Value.int .u8) (0 : Int) (w0 := w) w.heap.size hgd s x 22 5 (.int .u8 0) 1 ho Try.underlying22 info5 rfl (by decide) v xs [y] (some ⟨W.heap.size, 0, none⟩) 1 1 (fun _ => True) hs hx (fun _ _ => trivial) (HO.alloc _).1 C (HO.alloc _).2 (HO.alloc _).2.size (by omega) ?_
  intro v1 w1 h1 h2 h3 h4
  refine h v1 w1 ⟨h1, h2⟩ h3 (h4.imp id ?_)
  rintro ⟨b, e, hb⟩
  exact ⟨b, e, by simp at hb; omega⟩
end
set_option maxHeartbeats 4000000 in
set_option maxRecDepth 100000 in
theorem scribble_calls {w W : World} {v : Value} {xs : List Int} (H : Fr w W v xs) (hb : bytesOK xs) (hl : xs.length + 1 ≤ 140737488355328) :
    Calls Try.prog 36 #[v] W fun e w' => (∃ r, e = .returned r) ∧ Below w.heap.size w w' ∧ W.grownBy w' v.ownBlock := by
  have own := Kd.own_of_R (h1 := fun _ => rfl) (enc := Value.int .u8) H.1
  obtain ⟨A0, c0, rfl, hc0, k0⟩ := H.reads
  have hB := H.2
  go_enter Try.func36, Try.ntmps36
  go_wp2
  go_loopw [5] (fun i wr => ∃ k : Nat, i = .int .i64 k ∧ k ≤ xs.length ∧ ∃ ys : List Int, ys.length = xs.length ∧ Fr w wr (.slice A0 xs.length c0) ys ∧ W.grownBy wr (Value.slice A0 xs.length c0).ownBlock) (fun i _ => xs.length - (intOf i).toNat)
  case atStart => exact ⟨0, rfl, Nat.zero_le _, xs, rfl, H, grown_refl _ _⟩
  case round =>
    obtain ⟨k, rfl, hk, ys, hy, HH, hg⟩ := hrel
    by_cases hlt : k < xs.length
    · obtain ⟨g, c1, e1, hgw, _⟩ := HH.own (by omega)
      injection e1 with e1 e3 e2
      subst e1 e2
      clear e3
      have HH' := HH
      rw [← hy] at HH'
      obtain ⟨hcell, hfz⟩ := HH'.cell (k : Int) (by omega) (by omega)
      rw [Int.toNat_natCast] at hcell hfz
      have HS := fun y => HH'.set hgw (k : Int) y
      have HG := fun y => (Kd.R_put (h1 := fun _ => rfl) (enc := Value.int .u8) HH'.1 (k : Int) y).2
      simp only [Int.toNat_natCast, List.length_set] at HS HG
      rw [hy] at HS
      clear HH' own k0
      go_wp2
      refine ⟨⟨k + 1, rfl, by omega, _, ?_, HS _, grown_then hg (HG _) (fun b e => .inl e)⟩, ?_⟩
      · rw [List.length_set, hy]
      · simp only [intOf]
        omega
    · obtain rfl : k = xs.length := by omega
      go_wp2_with (first | (at_builtin; refine app1g (v := .slice A0 xs.length c0) rfl rfl rfl rfl HH (by omega) ?_; intro v1 w1 H1 G1 O1; obtain ⟨g1, c1, rfl, hg1, _⟩ := H1.own (by simp); have HX := H1.cell (ys.length : Int) (by omega) (by simp; try omega); have hX1 := HX.1; have hX2 := HX.2; rw [Int.toNat_natCast, hy] at hX1 hX2; clear HX))
      have HG := (Kd.R_put (h1 := fun _ => rfl) (enc := Value.int .u8) H1.1 (ys.length : Int) ((rd (ys ++ [77]) ↑xs.length + 1) % 256)).2
      have HB := (H1.set hg1 (ys.length : Int) ((rd (ys ++ [77]) ↑xs.length + 1) % 256)).2
      rw [Int.toNat_natCast, hy] at HG HB
      go_end0
      refine ⟨⟨_, rfl⟩, HB, grown_then (grown_then (grown_then hg (World.grownBy_alloc wr _ none) (fun b e => by cases e)) G1 (fun b e => .inl e)) HG ?_⟩
      intro b e
      cases e
      rcases O1 with h | ⟨b', h, hb'⟩
      · exact .inl h.symm
      · cases h
        exact .inr (Nat.le_trans hg.size hb')
end Go.Proofs.Ytoeefamnglbakaa
