import Derived.Test.YtbellkkheppofaaE
namespace Go.Proofs.Ytbellkkheppofaa
open Go.RowKit Go.Maps Go.Proofs.YtbellkkheppofaaW.PrintWords Go.Proofs.YtbellkkheppofaaW.PrintLast Go.Proofs.YtbellkkheppofaaW.PrintMore
set_option linter.unusedVariables false
set_option linter.unusedSimpArgs false
set_option linter.unusedSectionVars false
set_option maxRecDepth 100000 in
theorem isNaN_calls (s : ByteArray) (w : World) : Calls Try.prog 40 #[.string s] w fun e w' => e = .returned (.bool false) ∧ w = w' := by
  go_enter Try.func40, Try.ntmps40
  go_wp2
  go_ret
  exact ⟨by simp, rfl⟩
def cmpS (s u : ByteArray) : Int := if Op.bytesLess s.toList u.toList = true then -1 else if s.toList == u.toList then 0 else 1
set_option maxRecDepth 100000 in
theorem Compare_calls (s u : ByteArray) (w : World) : Calls Try.prog 30 #[.string s, .string u] w fun e w' => e = .returned (.int .i64 (cmpS s u)) ∧ w = w' := by
  have N := fun s => isNaN_calls s w
  unfold cmpS
  cases h1 : Op.bytesLess s.toList u.toList with
  | true =>
    simp only [if_true]
    go_enter Try.func30, Try.ntmps30
    go_wp2_with fail
    refine (N s).mono ?_
    rintro e w' ⟨rfl, rfl⟩
    go_wp2_with fail
    refine (N u).mono ?_
    rintro e w' ⟨rfl, rfl⟩
    go_wp2
    go_ret
    exact ⟨rfl, rfl⟩
  | false =>
    simp only [Bool.false_eq_true, if_false]
    cases h2 : s.toList == u.toList with
    | true =>
      simp only [if_true]
      go_enter Try.func30, Try.ntmps30
      go_wp2_with fail
      refine (N s).mono ?_
      rintro e w' ⟨rfl, rfl⟩
      go_wp2_with fail
      refine (N u).mono ?_
      rintro e w' ⟨rfl, rfl⟩
      go_wp2
      go_ret
      exact ⟨rfl, rfl⟩
    | false =>
      simp only [Bool.false_eq_true, if_false]
      go_enter Try.func30, Try.ntmps30
      go_wp2_with fail
      refine (N s).mono ?_
      rintro e w' ⟨rfl, rfl⟩
      go_wp2_with fail
      refine (N u).mono ?_
      rintro e w' ⟨rfl, rfl⟩
      go_wp2
      go_ret
      exact ⟨rfl, rfl⟩
/-- the order of locks -/
def cmpL (a b : Lk) : Int := if cmpS a.1 b.1 ≠ 0 then cmpS a.1 b.1 else cmpS a.2 b.2
set_option maxRecDepth 100000 in
theorem Or_calls (g c : Nat) (x y : Int) (w : World) (h0 : w.cell? ⟨g, 0, none⟩ = some (.int .i64 x)) (h1 : w.cell? ⟨g, 1, none⟩ = some (.int .i64 y)) :
    Calls Try.prog 29 #[.slice (some ⟨g, 0, none⟩) 2 c] w fun e w' => e = .returned (.int .i64 (if x ≠ 0 then x else y)) ∧ w = w' := by
  by_cases hx : x = 0
  · have hx' : (x != 0) = false := by simp [hx]
    rw [if_neg (by simpa using hx)]
    by_cases hy : y = 0
    · have hy' : (y != 0) = false := by simp [hy]
      rw [hy] at h1 ⊢
      rw [hx] at h0
      clear hx hy hx' hy'
      go_enter Try.func29, Try.ntmps29
      go_wp2_with fail
      refine wp_loop_rounds 3 ?_
      rw [rounds_succ]
      go_wp2
      rw [rounds_succ]
      go_wp2
      rw [rounds_succ]
      go_wp2
      go_ret
      exact ⟨rfl, rfl⟩
    · have hy' : (y != 0) = true := by simp [hy]
      rw [hx] at h0
      clear hx hx' hy
      go_enter Try.func29, Try.ntmps29
      go_wp2_with fail
      refine wp_loop_rounds 3 ?_
      rw [rounds_succ]
      go_wp2
      rw [rounds_succ]
      go_wp2
      go_ret
      exact ⟨rfl, rfl⟩
  · have hx' : (x != 0) = true := by simp [hx]
    rw [if_pos hx]
    clear hx
    go_enter Try.func29, Try.ntmps29
    go_wp2_with fail
    refine wp_loop_rounds 3 ?_
    rw [rounds_succ]
    go_wp2
    go_ret
    exact ⟨rfl, rfl⟩
end Go.Proofs.Ytbellkkheppofaa
