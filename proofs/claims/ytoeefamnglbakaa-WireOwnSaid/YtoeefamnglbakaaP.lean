import Derived.Test.YtoeefamnglbakaaN
import Derived.RangeFuncNested
import Derived.RangeFuncBound
import Derived.RangeFuncCalls
import Derived.RangeFuncLeaves
import Derived.Shelf.Abstract
import Derived.Shelf.RegionOpen
import Derived.OwnWalkIn
import Derived.TacticsInMore
import Derived.LoopNIn
import Derived.LoopIn
namespace Go.Proofs.Ytoeefamnglbakaa
open Go.RowKit Go.Shelf Go.Proofs.YtoeefamnglbakaaW.PrintWords Go.Proofs.YtoeefamnglbakaaW.PrintLast Go.Proofs.YtoeefamnglbakaaW.PrintMore
set_option linter.unusedVariables false
set_option linter.unusedSimpArgs false
/-! ### a range over a function, the rounds counted, where the iterator promises something of what it hands over in the world in which it hands it over -/
abbrev Wd : Fence := Fence.wide
/-- what a loop's own book-keeping may turn: a block that is no cells and lies at or beyond b -/
def Turns (b : Nat) (A B : World) : Prop := ∃ l o o', b ≤ l ∧ A.heap[l]? = some o ∧ o.isCells = false ∧ B = A.putObj l o'
/-- how a body may be left -/
def LeftAt (n0 : Nat) (I : World → Prop) (Ix : Code → World → Prop) (W : World) : Exit → Act → World → Prop
  | .normal, _, W' => KeepsOthers W W' ∧ Below n0 W W' ∧ I W'
  | .ret, _, W' => KeepsOthers W W' ∧ Ix .ret W'
  | .exit id, _, W' => KeepsOthers W W' ∧ Ix (.exit id) W'
  | .goto t, _, W' => KeepsOthers W W' ∧ Ix (.goto t) W'
  | _, _, _ => False
/-- an iterator over what is counted: S k where it ends of itself after k rounds; R k x W: what it promises of the x of round k -/
def Iter {α : Type} (n : Nat) (P : Program) (gf : Nat) (lb : Array Value) (encs : α → Array Value) (R : Nat → α → World → Prop) (S : Nat → Prop) (n0 : Nat) (w : World) : Prop :=
  ∀ (l : Nat) (J : Nat → World → Prop) (Jx : World → Prop) (W : World), Below w.heap.size w W → (∀ k A B, J k A → Below A.heap.size A B → J k B) →
    (∀ k x W1, J k W1 → R k x W1 → YieldAt Wd (n - 1) P l (encs x) W1 fun e W' => (e = .returned (.bool true) ∧ J (k + 1) W' ∧ Below n0 W1 W') ∨ (e = .returned (.bool false) ∧ Jx W')) →
    J 0 W → CallsIn Wd n P gf (#[.func (.yield l) #[] #[]] ++ lb) W fun e W' => (∃ v, e = .returned v) ∧ ((∃ k, S k ∧ J k W') ∨ Jx W')
theorem below_turns {n0 b : Nat} (h : n0 ≤ b) {A B : World} (t : Turns b A B) : Below n0 A B := by
  obtain ⟨l, o, o', hl, ho, _, rfl⟩ := t
  have := (Array.getElem?_eq_some_iff.1 ho).1
  exact (Below.refl n0 A).grown (grownBy_putObj' A l o') (by omega) (fun k e => by cases e; omega)
theorem keeps_below {W W' : World} (h : Below W.heap.size W W') : KeepsOthers W W' := .of_grownBy (grown_of_below h none) (fun _ _ e => by cases e)
theorem range_law {P : Program} {α : Type} {n : Nat} {g : Operand} {ps : Array Tmp} {assign body : Code} {Q : Exit → Act → World → Prop} {a : Act} {w : World} {gf : Nat} {lb : Array Value}
    {encs : α → Array Value} {R : Nat → α → World → Prop} {S : Nat → Prop} {n0 : Nat} (hg : a.eval g = .func (.func gf) #[] lb) (eg : ∀ args w, (callFunc gf args).run P w = .ok (.enter gf args) w) (hps : ∀ x, (encs x).size = ps.size)
    (hn : n0 ≤ w.heap.size) {w0 : World} (hw : Below w0.heap.size w0 w) (hit : Iter (n - 1) P gf lb encs R S n0 w0) (hR : ∀ k x A B, R k x A → Turns w.heap.size A B → R k x B) (h1 : 1 ≤ n)
    (I : Nat → World → Prop) (Ix : Code → World → Prop) (hI : ∀ k A B, I k A → (Turns w.heap.size A B ∨ Below A.heap.size A B) → I k B) (hIx : ∀ c A B, Ix c A → Turns w.heap.size A B → Ix c B) (h0 : I 0 w) (a₁ : α → Act)
    (hassign : ∀ (l : Nat) (x : α) (W : World) (K : Act → World → Prop), K (a₁ x) W →
      assign.wpIn (Wd.inRound l) (n - 1 - 1) P (Exit.then K (fun _ _ _ => False)) { tmps := (ps.zip (encs x)).foldl (fun t (p, v) => t.setIfInBounds p v) a.tmps, defers := [] } W)
    (hbody : ∀ (l : Nat) (k : Nat) (x : α) (W : World), I k W → R k x W → body.wpIn (Wd.inRound l) (n - 1 - 1) P (LeftAt n0 (I (k + 1)) Ix W) (a₁ x) W)
    (hdone : ∀ (D k : Nat) (W : World), w.heap.size ≤ D → S k → I k W → W.heap[D]? = some (.deferred (some [])) → Q .normal { a with defers := { target := .collected D, args := #[] } :: a.defers } W)
    (hstop : ∀ (D : Nat) (c : Code) (W : World), w.heap.size ≤ D → Ix c W → W.heap[D]? = some (.deferred (some [])) → c.wpIn Wd n P Q { a with defers := { target := .collected D, args := #[] } :: a.defers } W) :
    (Code.rangeFunc g ps assign body).wpIn Wd n P Q a w := by
  refine wpIn_rangeFunc fun fn hfn => ?_
  have hro : Wd.round = none := rfl
  rw [hro]
  generalize hrec : (fun (st : LoopState) (pe : Option Code) => ({ state := st, pending := pe, fn := fn, tmps := a.tmps, params := ps, assign := assign, body := body, defers := w.heap.size } : Loop)) = rec
  have hst : ∀ st pe, (rec st pe).state = st := fun st pe => by rw [← hrec]
  have hpe : ∀ st pe, (rec st pe).pending = pe := fun st pe => by rw [← hrec]
  have hup : ∀ st pe st' pe', { rec st pe with state := st', pending := pe' } = rec st' pe' := fun _ _ _ _ => by rw [← hrec]
  have hup1 : ∀ st pe st', { rec st pe with state := st' } = rec st' pe := fun _ _ _ => by rw [← hrec]
  obtain ⟨W1, hW1⟩ : ∃ W1, (w.alloc (.deferred (some []))).alloc (.loop (rec .ready none)) = W1 := ⟨_, rfl⟩
  have hB1 : Below w.heap.size w W1 := by rw [← hW1]; exact ((Below.refl _ w).alloc (Nat.le_refl _) _).alloc (by simp) _
  have hL : W1.heap[w.heap.size + 1]? = some (.loop (rec .ready none)) := by
    rw [← hW1]; have := World.alloc_heap_new (w.alloc (.deferred (some []))) (.loop (rec .ready none)); rwa [World.size_alloc] at this
  have hD : W1.heap[w.heap.size]? = some (.deferred (some [])) := by
    rw [← hW1]; exact (Below.heap_alloc _ _ _ (by simp)).trans (World.alloc_heap_new w _)
  refine ⟨w.heap.size + 1, [{ target := .collected w.heap.size, args := #[] }], W1, { target := .fn (.func gf) lb, args := #[.func (.yield (w.heap.size + 1)) #[] #[]] }, W1, gf, #[.func (.yield (w.heap.size + 1)) #[] #[]] ++ lb, W1, ?_, ?_, fun _ _ => trivial, ?_, fun _ => h1, ?_⟩
  · rw [← hW1, ← hrec]; exact run_enterLoop_outer _ _ _ _ _
  · simp only [resolve, hg]; simp [go_sem]
  · simp [invoke, go_sem, eg]
  -- the two blocks of book-keeping
  have keep : ∀ {A B : World} (st : LoopState) (pe : Option Code), KeepsOthers A B → A.heap[w.heap.size + 1]? = some (.loop (rec st pe)) ∧ A.heap[w.heap.size]? = some (.deferred (some [])) →
      B.heap[w.heap.size + 1]? = some (.loop (rec st pe)) ∧ B.heap[w.heap.size]? = some (.deferred (some [])) := fun st pe h k => ⟨h.same _ _ k.1 rfl, h.same _ _ k.2 rfl⟩
  have turn : ∀ {A : World} (st st' : LoopState) (pe pe' : Option Code), A.heap[w.heap.size + 1]? = some (.loop (rec st pe)) ∧ A.heap[w.heap.size]? = some (.deferred (some [])) →
      Turns w.heap.size A (A.putObj (w.heap.size + 1) (.loop (rec st' pe'))) ∧ (A.putObj (w.heap.size + 1) (.loop (rec st' pe'))).heap[w.heap.size + 1]? = some (.loop (rec st' pe')) ∧ (A.putObj (w.heap.size + 1) (.loop (rec st' pe'))).heap[w.heap.size]? = some (.deferred (some [])) :=
    fun st st' pe pe' k => ⟨⟨_, _, _, by omega, k.1, rfl, rfl⟩, World.putObj_heap_same (Array.getElem?_eq_some_iff.1 k.1).1, (World.putObj_heap_other (by omega)).trans k.2⟩
  refine (hit (w.heap.size + 1) (fun k W => I k W ∧ W.heap[w.heap.size + 1]? = some (.loop (rec .ready none)) ∧ W.heap[w.heap.size]? = some (.deferred (some [])))
    (fun W => ∃ c, Ix c W ∧ W.heap[w.heap.size + 1]? = some (.loop (rec .done (some c))) ∧ W.heap[w.heap.size]? = some (.deferred (some []))) W1 (hw.trans (hB1.mono hw.size)) ?_ ?_ ⟨hI 0 _ _ h0 (.inr hB1), hL, hD⟩).mono ?_
  · rintro k A B ⟨hi, hk⟩ hb
    exact ⟨hI _ _ _ hi (.inr hb), keep _ _ (keeps_below hb) hk⟩
  · rintro k x W ⟨hi, hk⟩ hx
    obtain ⟨t1, k1⟩ := turn _ .busy _ none hk
    have hy := run_yield (P := P) (args := encs x) hk.1 (by rw [← hrec]; exact hps x)
    rw [← hrec] at hy
    refine ⟨fn, _, assign, body, hy, roundIn_of_wpIn hfn (hassign _ x W _ ⟨_, run_beginRound hk.1 (hst _ _), ?_⟩)⟩
    rw [hup1]
    refine wpIn_mono (hbody _ k x _ (hI _ _ _ hi (.inl t1)) (hR _ _ _ _ hx t1)) ?_
    have fin : ∀ (jump : Option Code) (W3 : World), KeepsOthers (W.putObj (w.heap.size + 1) (.loop (rec .busy none))) W3 →
        ∃ W4, (Instr.endRound (w.heap.size + 1) jump).run P W3 = .ok (.bool jump.isNone) W4 ∧ Turns w.heap.size W3 W4 ∧ W4.heap[w.heap.size + 1]? = some (.loop (rec (if jump.isNone then .ready else .done) jump)) ∧ W4.heap[w.heap.size]? = some (.deferred (some [])) := fun jump W3 h3 => by
      have k3 := keep _ _ h3 k1
      obtain ⟨t4, k4⟩ := turn _ (if jump.isNone then .ready else .done) _ jump k3
      refine ⟨_, ?_, t4, k4⟩
      rw [run_endRound jump k3.1, hup]
    rintro e a3 W3 hp
    cases e with
    | normal =>
      obtain ⟨h3, hb3, hi3⟩ := hp
      obtain ⟨W4, hr, t4, k4⟩ := fin none W3 h3
      exact ⟨_, _, hr, .inl ⟨rfl, ⟨hI _ _ _ hi3 (.inl t4), k4⟩, ((below_turns hn t1).trans hb3).trans (below_turns hn t4)⟩⟩
    | ret =>
      obtain ⟨h3, hi3⟩ := hp
      obtain ⟨W4, hr, t4, k4⟩ := fin (some .ret) W3 h3
      exact ⟨_, _, hr, .inr ⟨rfl, _, hIx _ _ _ hi3 t4, k4⟩⟩
    | exit id =>
      obtain ⟨h3, hi3⟩ := hp
      obtain ⟨W4, hr, t4, k4⟩ := fin (some (.exit id)) W3 h3
      exact ⟨_, _, hr, .inr ⟨rfl, _, hIx _ _ _ hi3 t4, k4⟩⟩
    | goto t =>
      obtain ⟨h3, hi3⟩ := hp
      obtain ⟨W4, hr, t4, k4⟩ := fin (some (.goto t)) W3 h3
      exact ⟨_, _, hr, .inr ⟨rfl, _, hIx _ _ _ hi3 t4, k4⟩⟩
    | panic ch => exact hp.elim
    | outgrown => exact hp.elim
  · rintro e W2 ⟨⟨v, rfl⟩, ⟨k, hS, hi, hk⟩ | ⟨c, hi, hk⟩⟩
    · obtain ⟨t4, k4⟩ := turn _ .exhausted _ none hk
      refine ⟨none, _, ?_, hdone _ k _ (Nat.le_refl _) hS (hI _ _ _ hi (.inl t4)) k4.2⟩
      rw [run_endLoop hk.1 (by rw [hst]; simp), hup1, hpe]
    · obtain ⟨t4, k4⟩ := turn _ .exhausted _ (some c) hk
      refine ⟨some c, _, ?_, hstop _ c _ (Nat.le_refl _) (hIx _ _ _ hi t4) k4.2⟩
      rw [run_endLoop hk.1 (by rw [hst]; simp), hup1, hpe]
end Go.Proofs.Ytoeefamnglbakaa
