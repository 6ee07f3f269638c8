import Derived.Test.YthaoedfalkebbaaGreatMI
import Derived.Test.YthaoedfalkebbaaGreatQSi
namespace Go.Proofs.YthaoedfalkebbaaGreat.Lck
open Go.RowKit Go.Maps Go.Sort Go.Lib Go.Proofs.YthaoedfalkebbaaGreatW.PrintWords Go.Proofs.YthaoedfalkebbaaGreatW.PrintLast Go.Proofs.YthaoedfalkebbaaGreatW.PrintMore
set_option linter.unusedVariables false
set_option linter.unusedSimpArgs false
set_option linter.unusedSectionVars false
/-! ### numbers, rising, each once -/
end Go.Proofs.YthaoedfalkebbaaGreat.Lck
namespace Go.Proofs.YthaoedfalkebbaaGreat.Lck
open Go.RowKit Go.Maps Go.Sort Go.Lib Go.Proofs.YthaoedfalkebbaaGreatW.PrintWords Go.Proofs.YthaoedfalkebbaaGreatW.PrintLast Go.Proofs.YthaoedfalkebbaaGreatW.PrintMore
set_option linter.unusedVariables false
set_option linter.unusedSimpArgs false
set_option linter.unusedSectionVars false
/-! ### rows of one cell an element -/
section
variable {α : Type} [Inhabited α] {enc : α → Value}
variable {hn : ∀ x : α, [enc x].length = 1} {h1 : ∀ x, ∀ u ∈ [enc x], u.oneCell' = true}
end
section
variable {ops : Array Oper} {rest : List Oper} {o : Oper} {a : Act} {Q : Exit → Act → World → Prop}
theorem appI {w W : World} {z : Nat} {s x : Operand} {v : Value} {xs : List Int} {y : Int} {ok : Nat → Prop} (hgd : o.guard = none) (ho : o.op = .call { callee := .builtin .append, args := #[s, x], argTypes := #[63, 63] })
    (hs : a.eval s = v) (hx : a.eval x = .slice (some ⟨z, 0, none⟩) 1 1) (HO : dI.R 2 W w.heap.size ok v xs) (HB : Below w.heap.size w W) (hl : xs.length ≤ 4096) (hz : W.heap.size = z) (hfresh : ∀ k, W.heap.size ≤ k → ok k)
    (h : ∀ v1 w1, dI.R 2 w1 w.heap.size ok v1 (xs ++ [y]) → Below w.heap.size w w1 → W.grownBy w1 v.ownBlock → wpList Tryz.prog ops Q rest (a.put o.dst v1) w1) : wpList Tryz.prog ops Q (o :: rest) a (W.alloc (.cells #[.int .i64 y] 2)) := by
  subst hz
  refine Kd.R_append dI (w0 := w) w.heap.size hgd s x 63 2 _ 8 ho Tryz.underlying63 info2 rfl (by decide) (by decide) v xs y [.int .i64 y] ok (fun _ => False) hs hx rfl (fun _ hk => hk.elim) hfresh HO HB HB.size (by omega) ?_
  intro v1 w1 h1 h2 h3 _
  exact h v1 w1 h1 h2 h3
end
/-! ### who holds a lock of a range -/
def inR (t f u : ByteArray) (a : Lk) : Bool := (a.1.toList == t.toList) && (!Op.bytesLess a.2.toList f.toList && (u.toList.isEmpty || Op.bytesLess a.2.toList u.toList))
theorem inR_true {t f u : ByteArray} {a : Lk} (h1 : a.1.toList = t.toList) (h2 : ¬ Op.bytesLess a.2.toList f.toList = true) (h3 : u.toList.isEmpty = true ∨ Op.bytesLess a.2.toList u.toList = true) : inR t f u a = true := by
  unfold inR
  rw [Bool.not_eq_true] at h2
  rcases h3 with h3 | h3 <;> simp [h1, h2, h3]
def holdersOf (L : List (Lk × Int)) (t f u : ByteArray) : List Int := rise ((L.filter (fun p => inR t f u p.1)).map (·.2))
def HJ (w : World) (b r : Nat) (L : List (Lk × Int)) (t f u : ByteArray) (v : Value) (wr : World) : Prop :=
  ∃ vis rem : List (Lk × Int), (vis ++ rem).Perm L ∧ RngL wr b r L.length L rem ∧ w.heap.size ≤ r ∧ dI.R 2 wr w.heap.size (fun k => k ≠ r) v ((vis.filter (fun p => inR t f u p.1)).map (·.2)) ∧ Below w.heap.size w wr
end Go.Proofs.YthaoedfalkebbaaGreat.Lck
namespace Go.Proofs.YthaoedfalkebbaaGreat.Lck
open Go.RowKit Go.Maps Go.Sort Go.Lib Go.Proofs.YthaoedfalkebbaaGreatW.PrintWords Go.Proofs.YthaoedfalkebbaaGreatW.PrintLast Go.Proofs.YthaoedfalkebbaaGreatW.PrintMore
set_option linter.unusedVariables false
set_option linter.unusedSimpArgs false
set_option linter.unusedSectionVars false
theorem cloneMap_calls (W : World) (b n : Nat) (L : List (Lk × Int)) (h : TabL W b n L) : Calls Tryz.prog 107 #[.map (some b)] W fun e w' => e = .returned (.map (some W.heap.size)) ∧ TabL w' W.heap.size n L ∧ Below W.heap.size W w' := by
  obtain ⟨D, h1, h2⟩ := h
  refine Calls.mono (AnyW.maps_Clone_owns Tryz.cloneMapL 23 (plainElem Tryz.prog 2) b n D W h1) ?_
  rintro e w' ⟨rfl, h3, _, h5⟩
  exact ⟨rfl, ⟨D, h3, h2⟩, h5⟩
set_option maxHeartbeats 4000000 in
set_option maxRecDepth 100000 in
theorem Clone_calls (p b : Nat) (most : Int) (L : List (Lk × Int)) (w : World) (h : Mg w p b most L) :
    Calls Tryz.prog 68 #[.pointer (some ⟨p, 0, none⟩)] w fun e w' => ∃ p' b', e = .returned (.pointer (some ⟨p', 0, none⟩)) ∧ Mg w' p' b' most L ∧ w.heap.size ≤ p' ∧ w.heap.size ≤ b' ∧ Below w.heap.size w w' := by
  have N := none_calls p b w h.map
  have hm := h.map
  have hk := h.most
  have hT := h.tab
  go_enter Tryz.func68, Tryz.ntmps68
  go_wp2_with fail
  refine N.mono ?_
  rintro e w' ⟨rfl, rfl⟩
  go_wp2_with fail
  go_region_held3 (fun W => W.cell? ⟨p, 0, none⟩ = some (.int .i64 most) ∧ W.cell? ⟨p, 1, none⟩ = some (.map (some b))) (first | exact ⟨hk, hm⟩ | exact ⟨hk1, hm1⟩ | exact ⟨(((Below.refl _ w1).alloc (Nat.le_refl _) _).cell (World.block_lt_of_cell? _ _ hk1)).trans hk1, (((Below.refl _ w1).alloc (Nat.le_refl _) _).cell (World.block_lt_of_cell? _ _ hm1)).trans hm1⟩)
    ((go_at_call 107; refine (cloneMap_calls _ b L.length L (by exact hT)).mono ?_; rintro e w1 ⟨rfl, T1, B1⟩; have hk1 := (B1.cell (World.block_lt_of_cell? _ _ hk)).trans hk; have hm1 := (B1.cell (World.block_lt_of_cell? _ _ hm)).trans hm))
  go_wp2
  go_ret
  refine ⟨w1.heap.size, w.heap.size, rfl, ⟨by simp [go_sem], by simp [go_sem], T1.kept (World.grownBy_alloc _ _ none) (by simp)⟩, B1.size, Nat.le_refl _, ?_⟩
  exact (show Below w.heap.size w w1 from ⟨B1.os, B1.tape, B1.output, B1.size, B1.block⟩).alloc B1.size _
end Go.Proofs.YthaoedfalkebbaaGreat.Lck
namespace Go.Proofs.YthaoedfalkebbaaGreat.Lck
open Go.RowKit Go.Maps Go.Sort Go.Lib Go.Proofs.YthaoedfalkebbaaGreatW.PrintWords Go.Proofs.YthaoedfalkebbaaGreatW.PrintLast Go.Proofs.YthaoedfalkebbaaGreatW.PrintMore
set_option linter.unusedVariables false
set_option linter.unusedSimpArgs false
set_option linter.unusedSectionVars false
/-! ### an append of a whole slice -/
section
variable {α : Type} {enc : α → List Value} {k e base : Nat} {w w1 : World} {v : Value} {xs ys : List α}
end
/-! ### the document's manager -/
def encH (q : Lk × Int) : List Value := [.string q.1.1, .string q.1.2, .int .i64 q.2]
theorem encH_one (q : Lk × Int) : ∀ u ∈ encH q, u.oneCell' = true := fun u hu => by simp [encH] at hu; rcases hu with rfl | rfl | rfl <;> rfl
theorem info64 : (Tryz.prog.info? 228).map (fun i => (i.zero, i.size, i.bytes)) = some (some (.agg #[.string ByteArray.empty, .string ByteArray.empty, .int .i64 0]), 3, 40) := by kernel_rfl
structure Rm (w : World) (base br : Nat) (most : Int) (L : List (Lk × Int)) (v : Value) : Prop where
  obj : w.heap[br]? = some (.cells #[.bool true, .int .i64 most, v] 76 (0, 0))
  row : Lo encH 3 228 w base v L
theorem Rm.grown {w w1 : World} {base br : Nat} {most : Int} {L : List (Lk × Int)} {v : Value} (h : Rm w base br most L v) {row : Option Nat} (hg : w.grownBy w1 row) (h1 : row ≠ some br) (h2 : ∀ b, row = some b → v.ownBlock ≠ some b) : Rm w1 base br most L v :=
  ⟨(hg.block br (Array.getElem?_eq_some_iff.1 h.obj).1 (fun e => h1 e.symm)).trans h.obj, h.row.grown hg h2⟩
theorem Rm.c0 {w : World} {base br : Nat} {most : Int} {L : List (Lk × Int)} {v : Value} (h : Rm w base br most L v) : w.cell? ⟨br, 0, none⟩ = some (.bool true) := cell_of_row w br 0 _ 76 (0, 0) h.obj
theorem Rm.c1 {w : World} {base br : Nat} {most : Int} {L : List (Lk × Int)} {v : Value} (h : Rm w base br most L v) : w.cell? ⟨br, 1, none⟩ = some (.int .i64 most) := cell_of_row w br 1 _ 76 (0, 0) h.obj
theorem Rm.c2 {w : World} {base br : Nat} {most : Int} {L : List (Lk × Int)} {v : Value} (h : Rm w base br most L v) : w.cell? ⟨br, 2, none⟩ = some v := cell_of_row w br 2 _ 76 (0, 0) h.obj
/-- the search under way -/
def RS (w : World) (base br bx : Nat) (most : Int) (L : List (Lk × Int)) (v : Value) (a : Lk) (iv : Value) (wr : World) : Prop :=
  ∃ j : Nat, j ≤ L.length ∧ iv = .int .i64 j ∧ got (L.take j) a = none ∧ Rm wr base br most L v ∧ wr.cell? ⟨bx, 0, none⟩ = some (.string a.1) ∧ wr.cell? ⟨bx, 1, none⟩ = some (.string a.2) ∧ Below w.heap.size w wr
theorem got_take {L : List (Lk × Int)} {a : Lk} {j : Nat} (hj : j < L.length) (h : got (L.take j) a = none) : ((L[j]).1 = a → got L a = some (L[j]).2) ∧ ((L[j]).1 ≠ a → got (L.take (j + 1)) a = none) := by
  have key : ∀ M N : List (Lk × Int), got M a = none → got (M ++ N) a = got N a := by
    intro M N hM
    unfold got at hM ⊢
    rw [Option.map_eq_none_iff] at hM
    rw [List.find?_append, hM]
    rfl
  constructor
  · intro e
    have e1 : got (L.take j ++ (L[j] :: L.drop (j + 1))) a = some (L[j]).2 := by
      rw [key _ _ h]
      unfold got
      rw [List.find?_cons_of_pos (by simpa using e)]
      rfl
    rwa [← List.drop_eq_getElem_cons hj, List.take_append_drop] at e1
  · intro e
    rw [List.take_succ_eq_append_getElem hj, key _ _ h]
    simp [got, e]
set_option maxHeartbeats 4000000 in
set_option maxRecDepth 100000 in
theorem RHolder_calls (base br : Nat) (most : Int) (L : List (Lk × Int)) (v : Value) (a : Lk) (w : World) (h : Rm w base br most L v) (hL : L.length ≤ 4096) :
    Calls Tryz.prog 118 #[.pointer (some ⟨br, 0, none⟩), .agg #[.string a.1, .string a.2]] w fun e w' => e = .returned (.tuple #[.int .i64 ((got L a).getD 0), .bool (got L a).isSome]) ∧ Below w.heap.size w w' := by
  obtain ⟨w1, hw1⟩ : ∃ w1, w1 = w.alloc (.cells #[.string a.1, .string a.2] 23) := ⟨_, rfl⟩
  have hB : Below w.heap.size w w1 := by rw [hw1]; exact (Below.refl _ w).alloc (Nat.le_refl _) _
  have hc1 : w1.cell? ⟨w.heap.size, 0, none⟩ = some (.string a.1) := by rw [hw1]; simp [go_sem]
  have hc2 : w1.cell? ⟨w.heap.size, 1, none⟩ = some (.string a.2) := by rw [hw1]; simp [go_sem]
  have h1 := h.grown (w1 := w1) (row := none) (by rw [hw1]; exact World.grownBy_alloc _ _ _) (by simp) (by simp)
  obtain ⟨A, c, rfl, hlc, hA⟩ := h.row.slice
  clear h
  go_enter Tryz.func118, Tryz.ntmps118
  go_upto_block 0 with fail
  rw [← hw1]
  clear hw1
  go_wp2_with fail
  go_loopw [6] (fun iv wr => RS w base br w.heap.size most L (.slice A L.length c) a iv wr) (fun iv _ => L.length - (intOf iv).toNat)
  case atStart => exact ⟨0, Nat.zero_le _, rfl, rfl, h1, hc1, hc2, hB⟩
  case round =>
    clear h1 hc1 hc2 hB
    obtain ⟨j, hj, rfl, hg, h1, hc1, hc2, hB⟩ := hrel
    have o2 := h1.c2
    by_cases hjl : j < L.length
    · obtain ⟨g, rfl, hgb⟩ := hA (by omega)
      obtain ⟨y, hy⟩ : ∃ y, y = L[j] := ⟨_, rfl⟩
      have hgt := got_take hjl hg
      rw [← hy] at hgt
      have y0 : wr.cell? ⟨g, j * 3, none⟩ = some (.string y.1.1) := by
        have := h1.row.cell (fun _ => rfl) rfl j L[j] (List.getElem?_eq_getElem hjl) 0 _ rfl
        rw [hy]; simpa using this
      have y1 : wr.cell? ⟨g, j * 3 + 1, none⟩ = some (.string y.1.2) := by
        have := h1.row.cell (fun _ => rfl) rfl j L[j] (List.getElem?_eq_getElem hjl) 1 _ rfl
        rw [hy]; simpa using this
      have y2 : wr.cell? ⟨g, j * 3 + 2, none⟩ = some (.int .i64 y.2) := by
        have := h1.row.cell (fun _ => rfl) rfl j L[j] (List.getElem?_eq_getElem hjl) 2 _ rfl
        rw [hy]; simpa using this
      have heq : ∀ W, _ := fun W => eqLk y.1 a W
      replace hy := Aside0.mk hy
      by_cases he : y.1 = a
      · have hge := hgt.1 he
        rw [show decide (y.1 = a) = true by simpa using he] at heq
        clear he hgt hg
        go_wp2_with fail
        go_region_held3 (fun W => W.cell? ⟨br, 2, none⟩ = some (.slice (some ⟨g, 0, none⟩) L.length c) ∧ W.cell? ⟨g, j * 3, none⟩ = some (.string y.1.1) ∧ W.cell? ⟨g, j * 3 + 1, none⟩ = some (.string y.1.2) ∧ W.cell? ⟨w.heap.size, 0, none⟩ = some (.string a.1) ∧ W.cell? ⟨w.heap.size, 1, none⟩ = some (.string a.2)) (exact ⟨o2, y0, y1, hc1, hc2⟩) (fail)
        go_wp2
        go_ret2
        exact ⟨by rw [hge]; rfl, hB.os, hB.tape, hB.output, hB.size, hB.block⟩
      · have hge := hgt.2 he
        rw [show decide (y.1 = a) = false by simpa using he] at heq
        replace hge := Aside0.mk hge
        have h2 := h1.grown (w1 := wr.drew) (row := none) ⟨rfl, rfl, rfl, Nat.le_refl _, fun _ _ _ => rfl⟩ (by simp) (by simp)
        clear he hgt hg
        go_wp2_with fail
        go_region_held3 (fun W => W.cell? ⟨br, 2, none⟩ = some (.slice (some ⟨g, 0, none⟩) L.length c) ∧ W.cell? ⟨g, j * 3, none⟩ = some (.string y.1.1) ∧ W.cell? ⟨g, j * 3 + 1, none⟩ = some (.string y.1.2) ∧ W.cell? ⟨w.heap.size, 0, none⟩ = some (.string a.1) ∧ W.cell? ⟨w.heap.size, 1, none⟩ = some (.string a.2)) (exact ⟨o2, y0, y1, hc1, hc2⟩) (fail)
        go_wp2
        go_roundw
        case rel => exact ⟨j + 1, by omega, by go_num, hge.out, h2, hc1, hc2, ⟨hB.os, hB.tape, hB.output, hB.size, hB.block⟩⟩
        case measure => simp [intOf]; omega
    · obtain rfl : j = L.length := by omega
      rw [List.take_length] at hg
      go_wp2
      go_ret2
      rw [hg]
      exact ⟨rfl, hB⟩
end Go.Proofs.YthaoedfalkebbaaGreat.Lck
