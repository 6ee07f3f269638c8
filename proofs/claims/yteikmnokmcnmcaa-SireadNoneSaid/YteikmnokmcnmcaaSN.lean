import Derived.Test.YteikmnokmcnmcaaSM
namespace Go.Proofs.Yteikmnokmcnmcaa
open Go.RowKit Go.Maps Go.Sort Go.Lib Go.Proofs.YteikmnokmcnmcaaW.PrintWords Go.Proofs.YteikmnokmcnmcaaW.PrintLast Go.Proofs.YteikmnokmcnmcaaW.PrintMore
set_option linter.unusedVariables false
set_option linter.unusedSimpArgs false
set_option linter.unusedSectionVars false
/-! ### live -/
set_option maxHeartbeats 8000000 in
set_option maxRecDepth 100000 in
theorem live_calls (w : World) : Calls Try.prog 8 #[] w fun e w' => e = .returned (.bool true) ∧ Below w.heap.size w w' := by
  have C1 := New_calls 2 w.heap.size w (Nat.le_refl _) (by omega) (by omega)
  go_enter Try.func8, Try.ntmps8
  go_wp2_with fail
  refine C1.mono ?_
  rintro e w1 ⟨rfl, M1, B1⟩
  go_wp2_with fail
  have C2 := Note_calls w.heap.size (w.heap.size + 1) w.heap.size 2 0 [] (fun _ => []) 7 ⟨⟨#[116]⟩, 1, ⟨#[97]⟩, ⟨#[]⟩⟩ w1 M1 ⟨by decide, by decide, by decide, by decide⟩ (by omega) (by decide) (by kernel_rfl) (by simp) (by simp) (by simp) (by omega) (by simp) (by simp [left]) B1.size
  refine C2.mono ?_
  rintro e w2 ⟨rfl, b2, s2, M2, G2⟩
  have B2 : Below w.heap.size w w2 := B1.grown G2 B1.size (fun k hk => by injection hk with hk; omega)
  have C3 := Len_calls _ _ _ _ _ _ _ w2 M2
  rw [show ((0 : Int) - (([] : List Rd).length : Int) + ((left [] ⟨⟨#[116]⟩, 1, ⟨#[97]⟩, ⟨#[]⟩⟩).length : Int)) = 1 from rfl] at C3
  go_wp2_with fail
  refine C3.mono ?_
  rintro e w3 ⟨rfl, rfl⟩
  have C4 := Readers_calls _ _ _ _ _ _ _ ⟨#[116]⟩ ⟨#[97]⟩ w2 M2 (by rw [upd_length]; simp; split <;> omega) (fun q => by split <;> simp [left])
  go_wp2_with fail
  refine C4.mono ?_
  rintro e w4 ⟨v4, rfl, H4, B4⟩
  have hro : readersOf (upd [] ((7 : Int), (⟨#[116]⟩ : ByteArray)) (some s2)) (fun q => if q = ((7 : Int), (⟨#[116]⟩ : ByteArray)) then left [] ⟨⟨#[116]⟩, 1, ⟨#[97]⟩, ⟨#[]⟩⟩ else []) ⟨#[116]⟩ ⟨#[97]⟩ = [7] := by
    refine (rise_eq (by simp) (fun x => ?_)).symm
    simp [upd, got, hitB, left, holdB]
  rw [hro] at H4
  go_wp2_with fail
  have B4' := below_then B2 B2.size B4
  have B5 : Below w4.heap.size w4 (w4.alloc (.cells #[.int .i64 7] 2)) := (Below.refl _ w4).alloc (Nat.le_refl _) _
  have N7 : Lo encI 1 2 (w4.alloc (.cells #[.int .i64 7] 2)) w4.heap.size (.slice (some ⟨w4.heap.size, 0, none⟩) 1 1) [7] :=
    ⟨[.int .i64 7], ⟨rfl, .inr ⟨w4.heap.size, 1, #[.int .i64 7], rfl, Nat.le_refl _, heap_alloc_new w4 _, by simp, by decide, by simp, rfl⟩⟩, (Reps.none (fun x cs => cs = encI x) 1).snoc (p := 7) (c := [.int .i64 7]) rfl rfl⟩
  have C5 := Equal_calls w2.heap.size w4.heap.size v4 _ [7] _ ((Lo.ofR H4).grown (grown_of_below B5 none) (by simp)) N7 (by simp)
  refine C5.mono ?_
  rintro e w6 ⟨rfl, B6⟩
  go_wp2
  go_ret
  have B5' := below_then B4' B4'.size B5
  exact ⟨rfl, below_then B5' B5'.size B6⟩
end Go.Proofs.Yteikmnokmcnmcaa
