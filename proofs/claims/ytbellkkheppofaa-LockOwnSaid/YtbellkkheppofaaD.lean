import Derived.Test.YtbellkkheppofaaC
namespace Go.Proofs.Ytbellkkheppofaa
open Go.RowKit Go.Maps Go.Proofs.YtbellkkheppofaaW.PrintWords Go.Proofs.YtbellkkheppofaaW.PrintLast Go.Proofs.YtbellkkheppofaaW.PrintMore
set_option linter.unusedVariables false
set_option linter.unusedSimpArgs false
set_option linter.unusedSectionVars false
theorem Mg.kept {w w' : World} {p b : Nat} {most : Int} {L : List (Lk × Int)} (h : Mg w p b most L) {row : Option Nat} (hg : w.grownBy w' row) (hp : some p ≠ row) (hb : some b ≠ row) : Mg w' p b most L :=
  ⟨(World.cell?_of_block (a := ⟨p, 0, none⟩) (hg.block p (World.block_lt_of_cell? _ _ h.most) hp)).trans h.most, (World.cell?_of_block (a := ⟨p, 1, none⟩) (hg.block p (World.block_lt_of_cell? _ _ h.most) hp)).trans h.map, h.tab.kept hg hb⟩
theorem Mg.below {w w' : World} {p b : Nat} {most : Int} {L : List (Lk × Int)} (h : Mg w p b most L) (hb : Below w.heap.size w w') : Mg w' p b most L :=
  h.kept (row := none) ⟨hb.os, hb.tape, hb.output, hb.size, fun i hi _ => hb.block i hi⟩ (by simp) (by simp)
theorem below_but {n : Nat} {w w' w'' : World} {b : Nat} (h : Below n w w') (hn : n ≤ w'.heap.size) (hg : w'.grownBy w'' (some b)) (hb : n ≤ b) : Below n w w'' :=
  h.grown hg hn (fun k e => by cases e; exact hb)
theorem Mg0.below {w w' : World} {v : Value} (h : Mg0 w v) (b : Below w.heap.size w w') : Mg0 w' v := by
  rcases h with h | ⟨p, h, hc⟩
  · exact .inl h
  · exact .inr ⟨p, h, (b.cell (World.block_lt_of_cell? _ _ hc)).trans hc⟩
set_option maxRecDepth 100000 in
theorem Len_none (v : Value) (w : World) (h : Mg0 w v) : Calls Try.prog 12 #[v] w fun e w' => e = .returned (.int .i64 0) ∧ w = w' := by
  have N := none0_calls v w h
  clear h
  go_enter Try.func12, Try.ntmps12
  go_wp2_with fail
  refine N.mono ?_
  rintro e w' ⟨rfl, rfl⟩
  go_wp2
  go_ret
  exact ⟨rfl, rfl⟩
set_option maxRecDepth 100000 in
theorem Len_calls (p b : Nat) (most : Int) (L : List (Lk × Int)) (w : World) (h : Mg w p b most L) : Calls Try.prog 12 #[.pointer (some ⟨p, 0, none⟩)] w fun e w' => e = .returned (.int .i64 (L.length : Int)) ∧ w = w' := by
  have N := none_calls p b w h.map
  have hm := h.map
  have hlen := Tab.len (t := 54) Try.underlying54 h.tab 3
  clear h
  go_enter Try.func12, Try.ntmps12
  go_wp2_with fail
  refine N.mono ?_
  rintro e w' ⟨rfl, rfl⟩
  go_wp2
  go_ret
  exact ⟨rfl, rfl⟩
set_option maxRecDepth 100000 in
theorem Release_none (v : Value) (tx : Int) (w : World) (h : Mg0 w v) : Calls Try.prog 11 #[v, .int .i64 tx] w fun e w' => e = .returned (.int .i64 0) ∧ w = w' := by
  have N := none0_calls v w h
  clear h
  go_enter Try.func11, Try.ntmps11
  go_wp2_with fail
  refine N.mono ?_
  rintro e w' ⟨rfl, rfl⟩
  go_wp2
  go_ret
  exact ⟨rfl, rfl⟩
set_option maxRecDepth 100000 in
theorem Held_none (v : Value) (tx : Int) (w : World) (h : Mg0 w v) : Calls Try.prog 16 #[v, .int .i64 tx] w fun e w' => e = .returned (.slice none 0 0) ∧ w = w' := by
  have N := none0_calls v w h
  clear h
  go_enter Try.func16, Try.ntmps16
  go_wp2_with fail
  refine N.mono ?_
  rintro e w' ⟨rfl, rfl⟩
  go_wp2
  go_ret
  exact ⟨rfl, rfl⟩
set_option maxRecDepth 100000 in
theorem Clone_none (v : Value) (w : World) (h : Mg0 w v) : Calls Try.prog 22 #[v] w fun e w' => e = .returned (.pointer none) ∧ w = w' := by
  have N := none0_calls v w h
  clear h
  go_enter Try.func22, Try.ntmps22
  go_wp2_with fail
  refine N.mono ?_
  rintro e w' ⟨rfl, rfl⟩
  go_wp2
  go_ret
  exact ⟨rfl, rfl⟩
set_option maxRecDepth 100000 in
theorem Holders_none (v : Value) (t k u : ByteArray) (w : World) (h : Mg0 w v) : Calls Try.prog 19 #[v, .string t, .string k, .string u] w fun e w' => e = .returned (.slice none 0 0) ∧ w = w' := by
  have N := none0_calls v w h
  clear h
  go_enter Try.func19, Try.ntmps19
  go_wp2_with fail
  refine N.mono ?_
  rintro e w' ⟨rfl, rfl⟩
  go_wp2
  go_ret
  exact ⟨rfl, rfl⟩
set_option maxRecDepth 100000 in
theorem Holder_none (v : Value) (a : Lk) (w : World) (h : Mg0 w v) : Calls Try.prog 13 #[v, mkL a] w fun e w' => e = .returned (.tuple #[.int .i64 0, .bool false]) ∧ Below w.heap.size w w' := by
  obtain ⟨w1, hw1⟩ : ∃ w1, w1 = w.alloc (.cells #[.string a.1, .string a.2] 23) := ⟨_, rfl⟩
  have hB : Below w.heap.size w w1 := by rw [hw1]; exact (Below.refl _ w).alloc (Nat.le_refl _) _
  have N := none0_calls v w1 (h.below hB)
  clear h
  unfold mkL
  go_enter Try.func13, Try.ntmps13
  go_wp2_with fail
  rw [← hw1]
  clear hw1
  refine N.mono ?_
  rintro e w' ⟨rfl, rfl⟩
  go_wp2
  go_ret2
  exact ⟨rfl, hB⟩
set_option maxRecDepth 100000 in
theorem Take_none (v : Value) (tx snap last : Int) (a : Lk) (w : World) (h : Mg0 w v) : Calls Try.prog 10 #[v, .int .i64 tx, .int .i64 snap, .int .i64 last, mkL a] w fun e w' => e = .returned (.int .i64 2) ∧ Below w.heap.size w w' := by
  obtain ⟨w1, hw1⟩ : ∃ w1, w1 = w.alloc (.cells #[.string a.1, .string a.2] 23) := ⟨_, rfl⟩
  have hB : Below w.heap.size w w1 := by rw [hw1]; exact (Below.refl _ w).alloc (Nat.le_refl _) _
  have N := none0_calls v w1 (h.below hB)
  clear h
  unfold mkL
  go_enter Try.func10, Try.ntmps10
  go_wp2_with fail
  rw [← hw1]
  clear hw1
  refine N.mono ?_
  rintro e w' ⟨rfl, rfl⟩
  go_wp2
  go_ret
  exact ⟨rfl, hB⟩
set_option maxHeartbeats 4000000 in
set_option maxRecDepth 100000 in
theorem begun_calls (w : World) : Calls Try.prog 8 #[] w fun e w' => e = .returned (.bool true) ∧ Below w.heap.size w w' := by
  go_enter Try.func8, Try.ntmps8
  go_wp2_with fail
  refine (New_calls 2 w (by omega) (by omega)).mono ?_
  rintro e w1 ⟨rfl, M1, B1⟩
  go_wp2_with fail
  obtain ⟨w2, hw2⟩ : ∃ w2, w2 = w1.alloc (.cells #[.string ⟨#[116]⟩, .string ⟨#[107]⟩] 23) := ⟨_, rfl⟩
  have hB2 : Below w1.heap.size w1 w2 := by rw [hw2]; exact (Below.refl _ w1).alloc (Nat.le_refl _) _
  have hB := below_then B1 B1.size hB2
  have c1 : w2.cell? ⟨w1.heap.size, 0, none⟩ = some (.string ⟨#[116]⟩) := by rw [hw2]; simp [go_sem]
  have c2 : w2.cell? ⟨w1.heap.size, 1, none⟩ = some (.string ⟨#[107]⟩) := by rw [hw2]; simp [go_sem]
  have M2 := M1.below hB2
  have hs := M1.tab.lt
  have hp := World.block_lt_of_cell? _ _ M1.most
  rw [← hw2]
  clear hw2 M1 B1 hB2
  have ok : okL (⟨#[116]⟩, ⟨#[107]⟩) := ⟨by decide, by decide⟩
  have T1 := Take_calls _ _ _ _ 1 0 0 (⟨#[116]⟩, ⟨#[107]⟩) w2 M2 ok (by decide) (by decide) (by omega)
  have e1 : tk 2 [] 1 0 0 (⟨#[116]⟩, ⟨#[107]⟩) = ([((⟨#[116]⟩, ⟨#[107]⟩), 1)], 0) := rfl
  rw [e1] at T1
  refine T1.mono ?_
  rintro e w3 ⟨rfl, M3, G3⟩
  have d1 := (World.cell?_of_block (a := ⟨w1.heap.size, 0, none⟩) (G3.block w1.heap.size (World.block_lt_of_cell? _ _ c1) (fun e => by injection e with e; omega))).trans c1
  have d2 := (World.cell?_of_block (a := ⟨w1.heap.size, 1, none⟩) (G3.block w1.heap.size (World.block_lt_of_cell? _ _ c1) (fun e => by injection e with e; omega))).trans c2
  have hB3 := below_but hB hB.size G3 (Nat.le_refl _)
  clear T1 M2 c1 c2 G3 e1 hB
  have T2 := Take_calls _ _ _ _ 2 0 0 (⟨#[116]⟩, ⟨#[107]⟩) w3 M3 ok (by decide) (by decide) (by omega)
  have e2 : tk 2 [((⟨#[116]⟩, ⟨#[107]⟩), 1)] 2 0 0 (⟨#[116]⟩, ⟨#[107]⟩) = ([((⟨#[116]⟩, ⟨#[107]⟩), 1)], 80) := by
    simp [tk, got]
  rw [e2] at T2
  go_wp2_with fail
  refine T2.mono ?_
  rintro e w4 ⟨rfl, M4, G4⟩
  have hB4 := below_but hB3 hB3.size G4 (Nat.le_refl _)
  go_wp2_with fail
  refine (Len_calls _ _ _ _ w4 M4).mono ?_
  rintro e w5 ⟨rfl, rfl⟩
  go_wp2
  go_ret
  exact ⟨rfl, hB4⟩
end Go.Proofs.Ytbellkkheppofaa
