import Derived.Test.YtbellkkheppofaaB
namespace Go.Proofs.Ytbellkkheppofaa
open Go.RowKit Go.Maps Go.Proofs.YtbellkkheppofaaW.PrintWords Go.Proofs.YtbellkkheppofaaW.PrintLast Go.Proofs.YtbellkkheppofaaW.PrintMore
set_option linter.unusedVariables false
set_option linter.unusedSimpArgs false
set_option linter.unusedSectionVars false
abbrev TabL (w : World) (b n : Nat) (L : List (Lk × Int)) : Prop := Tab Try.prog 23 2 .i64 mkL okL w b n L
/-- a manager: where it lies, where its map lies, the most, the locks -/
structure Mg (w : World) (p b : Nat) (most : Int) (L : List (Lk × Int)) : Prop where
  most : w.cell? ⟨p, 0, none⟩ = some (.int .i64 most)
  map : w.cell? ⟨p, 1, none⟩ = some (.map (some b))
  tab : TabL w b L.length L
theorem eqlSome (b : Nat) (w : World) : (binOp .eql 54 (.map (some b)) (.map none)).run Try.prog w = .ok (.bool false) w := by kernel_rfl
theorem eqlNil (w : World) : (binOp .eql 54 (.map none) (.map none)).run Try.prog w = .ok (.bool true) w := by kernel_rfl
def Mg0 (w : World) (v : Value) : Prop := v = .pointer none ∨ ∃ p, v = .pointer (some ⟨p, 0, none⟩) ∧ w.cell? ⟨p, 1, none⟩ = some (.map none)
set_option maxRecDepth 100000 in
theorem none0_calls (v : Value) (w : World) (h : Mg0 w v) : Calls Try.prog 23 #[v] w fun e w' => e = .returned (.bool true) ∧ w = w' := by
  rcases h with rfl | ⟨p, rfl, h⟩
  · go_enter Try.func23, Try.ntmps23
    go_wp2
    go_ret
    exact ⟨rfl, rfl⟩
  · have eq := eqlNil
    go_enter Try.func23, Try.ntmps23
    go_wp2
    go_ret
    exact ⟨rfl, rfl⟩
set_option maxRecDepth 100000 in
theorem none_calls (p b : Nat) (w : World) (h : w.cell? ⟨p, 1, none⟩ = some (.map (some b))) : Calls Try.prog 23 #[.pointer (some ⟨p, 0, none⟩)] w fun e w' => e = .returned (.bool false) ∧ w = w' := by
  have eq := eqlSome b
  go_enter Try.func23, Try.ntmps23
  go_wp2
  go_ret
  exact ⟨rfl, rfl⟩
set_option maxRecDepth 100000 in
theorem New_bad (most : Int) (w : World) (h : most < 1 ∨ 4096 < most) : Calls Try.prog 9 #[.int .i64 most] w fun e w' => e = .returned (.tuple #[.pointer none, .int .i64 1]) ∧ w = w' := by
  by_cases h1 : most < 1
  · go_enter Try.func9, Try.ntmps9
    go_wp2
    go_ret2
    exact ⟨rfl, rfl⟩
  · have h2 : 4096 < most := by omega
    go_enter Try.func9, Try.ntmps9
    go_wp2
    go_ret2
    exact ⟨rfl, rfl⟩
set_option maxRecDepth 100000 in
theorem New_calls (most : Int) (w : World) (h1 : 1 ≤ most) (h2 : most ≤ 4096) : Calls Try.prog 9 #[.int .i64 most] w fun e w' => e = .returned (.tuple #[.pointer (some ⟨w.heap.size + 1, 0, none⟩), .int .i64 0]) ∧ Mg w' (w.heap.size + 1) w.heap.size most [] ∧ Below w.heap.size w w' := by
  have hmm := @run_makeMap Try.prog
  go_enter Try.func9, Try.ntmps9
  go_wp2
  go_ret2
  refine ⟨rfl, ⟨?_, ?_, (Tab.made w).kept (World.grownBy_alloc _ _ none) (by simp)⟩, ((Below.refl _ w).alloc (Nat.le_refl _) _).alloc (by simp) _⟩
  · simp [go_sem]
  · simp [go_sem]
theorem Mg.ne {w : World} {p b : Nat} {most : Int} {L : List (Lk × Int)} (h : Mg w p b most L) : p ≠ b := by
  rintro rfl
  obtain ⟨D, ⟨es, clock, hb, _⟩, _⟩ := h.tab
  have := h.most
  simp [World.cell?, hb] at this
/-- what Take leaves, and answers -/
def tk (most : Int) (L : List (Lk × Int)) (tx snap last : Int) (a : Lk) : List (Lk × Int) × Int :=
  if tx < 1 ∨ snap < 0 ∨ last < 0 then (L, 1)
  else match got L a with
    | some h => if h = tx then (L, 0) else (L, 80)
    | none => if snap < last then (L, 81) else if most ≤ L.length then (L, 4) else (L ++ [(a, tx)], 0)
set_option maxHeartbeats 4000000 in
set_option maxRecDepth 100000 in
theorem Take_bad (p b : Nat) (most : Int) (L : List (Lk × Int)) (tx snap last : Int) (a : Lk) (w : World) (h : Mg w p b most L) (ha : okL a) (hx : tx < 1 ∨ snap < 0 ∨ last < 0) :
    Calls Try.prog 10 #[.pointer (some ⟨p, 0, none⟩), .int .i64 tx, .int .i64 snap, .int .i64 last, mkL a] w fun e w' => e = .returned (.int .i64 1) ∧ Below w.heap.size w w' := by
  have hm := h.map
  obtain ⟨w1, hw1⟩ : ∃ w1, w1 = w.alloc (.cells #[.string a.1, .string a.2] 23) := ⟨_, rfl⟩
  have hB : Below w.heap.size w w1 := by rw [hw1]; exact (Below.refl _ w).alloc (Nat.le_refl _) _
  have hm1 : w1.cell? ⟨p, 1, none⟩ = some (.map (some b)) := (hB.cell (World.block_lt_of_cell? _ _ hm)).trans hm
  have N := none_calls p b w1 hm1
  unfold mkL
  by_cases h1 : tx < 1
  · go_enter Try.func10, Try.ntmps10
    go_wp2_with fail
    rw [← hw1]
    clear hw1
    refine N.mono ?_
    rintro e w' ⟨rfl, rfl⟩
    go_wp2
    go_ret
    exact ⟨rfl, hB⟩
  by_cases h2 : snap < 0
  · go_enter Try.func10, Try.ntmps10
    go_wp2_with fail
    rw [← hw1]
    clear hw1
    refine N.mono ?_
    rintro e w' ⟨rfl, rfl⟩
    go_wp2
    go_ret
    exact ⟨rfl, hB⟩
  have h3 : last < 0 := by omega
  · go_enter Try.func10, Try.ntmps10
    go_wp2_with fail
    rw [← hw1]
    clear hw1
    refine N.mono ?_
    rintro e w' ⟨rfl, rfl⟩
    go_wp2
    go_ret
    exact ⟨rfl, hB⟩
set_option maxHeartbeats 4000000 in
set_option maxRecDepth 100000 in
theorem Take_calls (p b : Nat) (most : Int) (L : List (Lk × Int)) (tx snap last : Int) (a : Lk) (w : World) (h : Mg w p b most L) (ha : okL a) (hwf : (Lit.int .i64 tx).wf = true) (hL : L.length < maxLen) (hx : ¬ (tx < 1 ∨ snap < 0 ∨ last < 0)) :
    Calls Try.prog 10 #[.pointer (some ⟨p, 0, none⟩), .int .i64 tx, .int .i64 snap, .int .i64 last, mkL a] w fun e w' => e = .returned (.int .i64 (tk most L tx snap last a).2) ∧ Mg w' p b most (tk most L tx snap last a).1 ∧ w.grownBy w' (some b) := by
  have hne := h.ne
  have hm := h.map
  obtain ⟨w1, hw1⟩ : ∃ w1, w1 = w.alloc (.cells #[.string a.1, .string a.2] 23) := ⟨_, rfl⟩
  have hB : Below w.heap.size w w1 := by rw [hw1]; exact (Below.refl _ w).alloc (Nat.le_refl _) _
  have hm1 : w1.cell? ⟨p, 1, none⟩ = some (.map (some b)) := (hB.cell (World.block_lt_of_cell? _ _ hm)).trans hm
  have hk1 : w1.cell? ⟨p, 0, none⟩ = some (.int .i64 most) := (hB.cell (World.block_lt_of_cell? _ _ h.most)).trans h.most
  have ht1 : TabL w1 b L.length L := h.tab.kept (row := none) (by rw [hw1]; exact World.grownBy_alloc _ _ _) (by simp)
  have hc1 : w1.cell? ⟨w.heap.size, 0, none⟩ = some (.string a.1) := by rw [hw1]; simp [go_sem]
  have hc2 : w1.cell? ⟨w.heap.size, 1, none⟩ = some (.string a.2) := by rw [hw1]; simp [go_sem]
  have N := none_calls p b w1 hm1
  have hlook := Tab.look (w := w1.drew) (t := 54) keyL Try.underlying54 Try.underlying2 (show TabL w1.drew b L.length L from ht1) (by kernel_rfl) ha
  have e1 : ¬ tx < 1 := by omega
  have e2 : ¬ snap < 0 := by omega
  have e3 : ¬ last < 0 := by omega
  have hB1 : w.grownBy w1 (some b) := by rw [hw1]; exact World.grownBy_alloc _ _ _
  have hlen := Tab.len (w := w1.drew.drew) (t := 54) Try.underlying54 (show TabL w1.drew.drew b L.length L from ht1) 3
  unfold tk
  rw [if_neg hx]
  clear hx
  unfold mkL at hlook ⊢
  cases hg : got L a with
  | some hh =>
    rw [hg] at hlook
    simp only [Option.getD_some, Option.isSome_some] at hlook
    by_cases hx : hh = tx
    · subst hx
      go_enter Try.func10, Try.ntmps10
      go_wp2_with fail
      rw [← hw1]
      clear hw1
      refine N.mono ?_
      rintro e w' ⟨rfl, rfl⟩
      go_wp2
      go_region_held3 (fun W => W.cell? ⟨p, 1, none⟩ = some (.map (some b)) ∧ W.cell? ⟨w.heap.size, 0, none⟩ = some (.string a.1) ∧ W.cell? ⟨w.heap.size, 1, none⟩ = some (.string a.2)) (first | exact ⟨hm1, hc1, hc2⟩) (fail)
      go_wp2
      go_ret
      exact ⟨rfl, ⟨hk1, hm1, ht1⟩, ⟨hB1.os, hB1.tape, hB1.output, hB1.size, hB1.block⟩⟩
    · have hx' : (hh == tx) = false := by simpa using hx
      dsimp only
      rw [if_neg hx]
      go_enter Try.func10, Try.ntmps10
      go_wp2_with fail
      rw [← hw1]
      clear hw1
      refine N.mono ?_
      rintro e w' ⟨rfl, rfl⟩
      go_wp2
      go_region_held3 (fun W => W.cell? ⟨p, 1, none⟩ = some (.map (some b)) ∧ W.cell? ⟨w.heap.size, 0, none⟩ = some (.string a.1) ∧ W.cell? ⟨w.heap.size, 1, none⟩ = some (.string a.2)) (first | exact ⟨hm1, hc1, hc2⟩) (fail)
      go_wp2
      go_ret
      exact ⟨rfl, ⟨hk1, hm1, ht1⟩, ⟨hB1.os, hB1.tape, hB1.output, hB1.size, hB1.block⟩⟩
  | none =>
    rw [hg] at hlook
    simp only [Option.getD_none, Option.isSome_none] at hlook
    dsimp only
    by_cases hx : snap < last
    · rw [if_pos hx]
      go_enter Try.func10, Try.ntmps10
      go_wp2_with fail
      rw [← hw1]
      clear hw1
      refine N.mono ?_
      rintro e w' ⟨rfl, rfl⟩
      go_wp2
      go_region_held3 (fun W => W.cell? ⟨p, 1, none⟩ = some (.map (some b)) ∧ W.cell? ⟨w.heap.size, 0, none⟩ = some (.string a.1) ∧ W.cell? ⟨w.heap.size, 1, none⟩ = some (.string a.2)) (first | exact ⟨hm1, hc1, hc2⟩) (fail)
      go_wp2
      go_ret
      exact ⟨rfl, ⟨hk1, hm1, ht1⟩, ⟨hB1.os, hB1.tape, hB1.output, hB1.size, hB1.block⟩⟩
    · rw [if_neg hx]
      have hx' : last ≤ snap := by omega
      by_cases hf : most ≤ L.length
      · rw [if_pos hf]
        go_enter Try.func10, Try.ntmps10
        go_wp2_with fail
        rw [← hw1]
        clear hw1
        refine N.mono ?_
        rintro e w' ⟨rfl, rfl⟩
        go_wp2
        go_region_held3 (fun W => W.cell? ⟨p, 1, none⟩ = some (.map (some b)) ∧ W.cell? ⟨w.heap.size, 0, none⟩ = some (.string a.1) ∧ W.cell? ⟨w.heap.size, 1, none⟩ = some (.string a.2)) (first | exact ⟨hm1, hc1, hc2⟩) (fail)
        go_wp2
        go_region_held3 (fun W => W.cell? ⟨p, 1, none⟩ = some (.map (some b)) ∧ W.cell? ⟨p, 0, none⟩ = some (.int .i64 most) ∧ (Builtin.len_ #[54] 3 #[.map (some b)]).run Try.prog W = .ok (.int .i64 (L.length : Int)) W) (first | exact ⟨hm1, hk1, hlen⟩) (fail)
        go_wp2
        go_ret
        exact ⟨rfl, ⟨hk1, hm1, ht1⟩, ⟨hB1.os, hB1.tape, hB1.output, hB1.size, hB1.block⟩⟩
      · rw [if_neg hf]
        have hf' : (L.length : Int) < most := by omega
        obtain ⟨w2, hst, ht2, hturn⟩ := Tab.store (w := w1.drew.drew.drew) (t := 54) keyL Try.underlying54 Try.underlying2 (show TabL w1.drew.drew.drew b L.length L from ht1) hL ha hwf hg
        unfold mkL at hst
        have hg2 := turned_grown hturn
        have hb' : ∀ q j v, w1.cell? ⟨q, j, none⟩ = some v → q ≠ b → w2.cell? ⟨q, j, none⟩ = some v := fun q j v hv hq => (World.cell?_of_block (a := ⟨q, j, none⟩) (hg2.block q (World.block_lt_of_cell? _ _ hv) (fun e => by injection e with e; exact hq e))).trans hv
        have hnb : w.heap.size ≠ b := fun e => by have := h.tab.lt; omega
        have hm2 := hb' _ _ _ hm1 hne
        have hk2 := hb' _ _ _ hk1 hne
        have hd1 := hb' _ _ _ hc1 hnb
        have hd2 := hb' _ _ _ hc2 hnb
        go_enter Try.func10, Try.ntmps10
        go_wp2_with fail
        rw [← hw1]
        clear hw1
        refine N.mono ?_
        rintro e w' ⟨rfl, rfl⟩
        go_wp2
        go_region_held3 (fun W => W.cell? ⟨p, 1, none⟩ = some (.map (some b)) ∧ W.cell? ⟨w.heap.size, 0, none⟩ = some (.string a.1) ∧ W.cell? ⟨w.heap.size, 1, none⟩ = some (.string a.2)) (first | exact ⟨hm1, hc1, hc2⟩) (fail)
        go_wp2
        go_region_held3 (fun W => W.cell? ⟨p, 1, none⟩ = some (.map (some b)) ∧ W.cell? ⟨p, 0, none⟩ = some (.int .i64 most) ∧ (Builtin.len_ #[54] 3 #[.map (some b)]).run Try.prog W = .ok (.int .i64 (L.length : Int)) W) (first | exact ⟨hm1, hk1, hlen⟩) (fail)
        go_wp2
        go_region_held3 (fun W => W.cell? ⟨p, 1, none⟩ = some (.map (some b)) ∧ W.cell? ⟨w.heap.size, 0, none⟩ = some (.string a.1) ∧ W.cell? ⟨w.heap.size, 1, none⟩ = some (.string a.2)) (first | exact ⟨hm1, hc1, hc2⟩ | exact ⟨hm2, hd1, hd2⟩) (fail)
        go_wp2
        go_ret
        refine ⟨rfl, ⟨hk2, hm2, by rw [List.length_append]; exact ht2⟩, ?_⟩
        exact ⟨hg2.os.trans hB1.os, hg2.tape.trans hB1.tape, hg2.output.trans hB1.output, Nat.le_trans hB1.size hg2.size, fun i hi hne => (hg2.block i (Nat.lt_of_lt_of_le hi hB1.size) hne).trans (hB1.block i hi hne)⟩
end Go.Proofs.Ytbellkkheppofaa
