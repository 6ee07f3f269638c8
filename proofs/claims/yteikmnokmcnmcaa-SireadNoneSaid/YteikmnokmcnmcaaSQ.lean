import Derived.Test.YteikmnokmcnmcaaSP
namespace Go.Proofs.Yteikmnokmcnmcaa
open Go.RowKit Go.Maps Go.Sort Go.Lib Go.Proofs.YteikmnokmcnmcaaW.PrintWords Go.Proofs.YteikmnokmcnmcaaW.PrintLast Go.Proofs.YteikmnokmcnmcaaW.PrintMore
set_option linter.unusedVariables false
set_option linter.unusedSimpArgs false
set_option linter.unusedSectionVars false
/-! ### one note in a manager of one -/
theorem Mr.beside {w w' : World} {base p b q : Nat} {most many : Int} {L : List (Pl × Sv)} {R : Pl → List Rd} (h : Mr w base p b most many L R) (hg : w.grownBy w' (some q)) (hq : ∃ c s, w.heap[q]? = some (.cells c 55 s)) (hp : p ≠ q) : Mr w' base p b most many L R where
  cells := (hg.block p (Array.getElem?_eq_some_iff.1 h.cells).1 (by simpa using hp)).trans h.cells
  tab := h.tab.kept hg (by
    rintro e
    injection e with e
    subst e
    obtain ⟨es, clock, hb⟩ := h.tab.isMap
    obtain ⟨c, s, hq⟩ := hq
    rw [hb] at hq
    cases hq)
  low := h.low
  rows := fun e he => (h.rows e he).grown hg (fun k hk e' => by
    injection hk with hk
    subst hk
    obtain ⟨_, _, cells, hc⟩ := (h.rows e he).typed _ e'
    obtain ⟨c, s, hq⟩ := hq
    rw [hq] at hc
    injection hc with hc
    injection hc with _ hc
    cases hc)
  off := h.off
  good := h.good
def One (w : World) (base p : Nat) (x : Rd) : Prop := ∃ b L R many, Mr w base p b 1 many L R ∧ L.length ≤ 1 ∧ (∀ q, (R q).length ≤ 1) ∧ (mayB x = true → ∀ key, readersOf L R x.t key = if holdB x key then [1] else [])
theorem One.beside {w w' : World} {base p q : Nat} {x : Rd} (h : One w base p x) (hg : w.grownBy w' (some q)) (hq : ∃ c s, w.heap[q]? = some (.cells c 55 s)) (hp : p ≠ q) : One w' base p x := by
  obtain ⟨b, L, R, many, M, r⟩ := h
  exact ⟨b, L, R, many, M.beside hg hq hp, r⟩
theorem One.kept {w w' : World} {base p : Nat} {x : Rd} (h : One w base p x) (hg : w.grownBy w' none) : One w' base p x := by
  obtain ⟨b, L, R, many, M, r⟩ := h
  exact ⟨b, L, R, many, M.kept hg, r⟩
theorem Note_one (base p b : Nat) (x : Rd) (w : World) (h : Mr w base p b 1 0 [] (fun _ => [])) (hx : x.OK) (hb0 : base ≤ w.heap.size) :
    Calls Try.prog 12 #[.pointer (some ⟨p, 0, none⟩), .int .i64 1, .agg #[.string x.t, .int .i64 x.k, .string x.f, .string x.u]] w fun e w' => e = .returned (.int .i64 (if mayB x = true then 0 else 1)) ∧ One w' base p x ∧ w.grownBy w' (some p) := by
  cases hm : mayB x with
  | false =>
    refine (Note_bad base p b 1 0 [] _ 1 x w h hx (.inr hm)).mono ?_
    rintro e w' ⟨rfl, B⟩
    refine ⟨by simp, ⟨b, _, _, _, h.kept (grown_of_below B none), by simp, by simp, by simp [hm]⟩, grown_of_below B _⟩
  | true =>
    have C2 := Note_calls base p b 1 0 [] (fun _ => []) 1 x w h hx (by omega) (by decide) hm (by simp) (by simp) (by simp) (by omega) (by simp) (by simp [left]) hb0
    refine C2.mono ?_
    rintro e w' ⟨rfl, b2, s2, M2, G2⟩
    refine ⟨by simp, ⟨b2, _, _, _, M2, by rw [upd_length]; simp; split <;> omega, fun q => by split <;> simp [left], fun _ key => ?_⟩, G2⟩
    refine (rise_eq (by split <;> simp) (fun y => ?_)).symm
    cases hh : holdB x key <;> simp [upd, got, hitB, left, hh]
end Go.Proofs.Yteikmnokmcnmcaa
