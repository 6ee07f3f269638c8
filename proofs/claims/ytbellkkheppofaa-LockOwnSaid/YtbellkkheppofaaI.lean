import Derived.Test.YtbellkkheppofaaH
import Derived.Test.YtbellkkheppofaaO
namespace Go.Proofs.Ytbellkkheppofaa
open Go.RowKit Go.Maps Go.Proofs.YtbellkkheppofaaW.PrintWords Go.Proofs.YtbellkkheppofaaW.PrintLast Go.Proofs.YtbellkkheppofaaW.PrintMore
set_option linter.unusedVariables false
set_option linter.unusedSimpArgs false
set_option linter.unusedSectionVars false
def cellsL (a : Lk) : List Value := [.string a.1, .string a.2]
def dL : Kd Lk := Kd.flat cellsL 2 (fun _ => rfl) (fun x u hu => by simp [cellsL] at hu; rcases hu with rfl | rfl <;> rfl)
theorem info23 : (Try.prog.info? 23).map (fun i => (i.zero, i.size, i.bytes)) = some (some (.agg #[.string ByteArray.empty, .string ByteArray.empty]), 2, 32) := by kernel_rfl
abbrev RngL (w : World) (b r n : Nat) (L rem : List (Lk × Int)) : Prop := Rng Try.prog 23 2 .i64 mkL okL w b r n L rem
theorem perm_next {L vis rem : List (Lk × Int)} {a : Lk} {v : Int} (hr : rem.Pairwise (fun p p' => p.1 ≠ p'.1)) (h : (vis ++ rem).Perm L) (hm : (a, v) ∈ rem) : ((vis ++ [(a, v)]) ++ rem.filter (fun p => p.1 ≠ a)).Perm L := by
  refine List.Perm.trans ?_ h
  rw [List.append_assoc]
  refine List.Perm.append_left vis ?_
  clear h
  induction rem with
  | nil => cases hm
  | cons p rem ih =>
    rw [List.pairwise_cons] at hr
    rcases List.mem_cons.1 hm with e | hm
    · subst e
      have : rem.filter (fun p => p.1 ≠ a) = rem := List.filter_eq_self.2 (fun p hp => by simpa using fun e => hr.1 p hp e.symm)
      rw [List.filter_cons, if_neg (by simp), this]
      exact List.Perm.refl _
    · have hne : p.1 ≠ a := hr.1 _ hm
      simp only [List.filter_cons, ne_eq, hne, not_false_eq_true, decide_true, if_true, List.singleton_append]
      exact (List.Perm.swap _ _ _).trans (List.Perm.cons _ (by simpa using ih hr.2 hm))
end Go.Proofs.Ytbellkkheppofaa
