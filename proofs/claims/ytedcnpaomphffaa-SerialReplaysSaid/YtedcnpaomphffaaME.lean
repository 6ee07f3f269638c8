import Derived.Test.YtedcnpaomphffaaMD
namespace Go.Proofs.Ytedcnpaomphffaa
open Go.RowKit Go.Maps Go.Sort Go.Lib Go.Proofs.YtedcnpaomphffaaW.PrintWords Go.Proofs.YtedcnpaomphffaaW.PrintLast Go.Proofs.YtedcnpaomphffaaW.PrintMore
set_option linter.unusedVariables false
set_option linter.unusedSimpArgs false
set_option linter.unusedSectionVars false
/-! ### the document's Round -/
theorem graph_ends {h : Hs} (k : OkH h) : ∀ d ∈ graphP h, d.f ∈ rise h.C ∧ d.t ∈ rise h.C := fun d hd => by
  obtain ⟨h1, h2, _⟩ := deps_ends k (mem_graph.1 hd)
  exact ⟨((rise_spec h.C).2 _).2 h1, ((rise_spec h.C).2 _).2 h2⟩
theorem row_one (W : World) (x : Int) : RowI (W.alloc (.cells #[.int .i64 x] 3)) W.heap.size (.slice (some ⟨W.heap.size, 0, none⟩) 1 1) [x] :=
  ⟨[.int .i64 x], ⟨by simp, .inr ⟨W.heap.size, 1, _, rfl, Nat.le_refl _, heap_alloc_new W _, by simp, by unfold maxLen; omega, by simp, by simp⟩⟩, ⟨rfl, fun j p hj => by
    cases j with
    | zero => simp at hj; subst hj; rfl
    | succ j => simp at hj⟩⟩
theorem far_iff {g : List Dp} {names ds : List Int} {f : Int} (hF : Far g names ds f) {q : Nat} (hq : q < names.length) (hq' : q < ds.length) (k : Nat) : ds[q] = (k : Int) ↔ IsMin g f k names[q] := by
  constructor
  · intro e
    rcases hF.2 q hq hq' with ⟨e2, _⟩ | ⟨m, e2, hm, hmin⟩
    · omega
    · have : m = k := by omega
      subst this
      exact ⟨hm, hmin⟩
  · intro hm
    exact (hF.2 q hq hq').unique hm.dist
def RdA (w : World) (g : List Dp) (names : List Int) (v5 v6 v7 : Value) (wr : World) : Prop := ∃ (i : Nat) (b f : Int), v7 = .int .i64 (i : Int) ∧ i ≤ names.length ∧ v5 = .int .i64 b ∧ v6 = .int .i64 f ∧ BestR g names i b f ∧ 0 ≤ b ∧ Below w.heap.size w wr
def RdB (w : World) (g : List Dp) (names : List Int) (b : Nat) (f : Int) (v10 : Value) (wr : World) : Prop := ∃ L, RowI wr w.heap.size v10 L ∧ PathR g names f b L ∧ Below w.heap.size w wr
def RdC (w : World) (g : List Dp) (names : List Int) (f : Int) (k : Nat) (a : Int) (V v10 v12 : Value) (wr : World) : Prop := ∃ q : Nat, v12 = .int .i64 (q : Int) ∧ q ≤ names.length ∧ v10 = V ∧ (∀ p (hp : p < names.length), p < q → ¬ (leadsB g a names[p] = true ∧ IsMin g f k names[p])) ∧ wr = w
def RndPost (w : World) (g : List Dp) (names : List Int) (e : Ending) (w' : World) : Prop := ∃ v L, e = .returned v ∧ RowI w' w.heap.size v L ∧ RoundOf g names L ∧ Below w.heap.size w w'
end Go.Proofs.Ytedcnpaomphffaa
namespace Go.Proofs.Ytedcnpaomphffaa
open Go.RowKit Go.Maps Go.Sort Go.Lib Go.Proofs.YtedcnpaomphffaaW.PrintWords Go.Proofs.YtedcnpaomphffaaW.PrintLast Go.Proofs.YtedcnpaomphffaaW.PrintMore
set_option linter.unusedVariables false
set_option linter.unusedSimpArgs false
set_option linter.unusedSectionVars false
/-! ### rows of rows; the document's more, Orders -/
/-- nil, or a row's block, length, capacity -/
abbrev Sv := Option (Nat × Nat × Nat)
def mvS : Sv → Value
  | none => .slice none 0 0
  | some (g, n, c) => .slice (some ⟨g, 0, none⟩) n c
def encS (x : Sv) : List Value := [mvS x]
theorem encS_one (x : Sv) : ∀ u ∈ encS x, u.oneCell' = true := fun u hu => by
  simp [encS] at hu
  rw [hu]
  rcases x with _ | ⟨g, n, c⟩ <;> rfl
abbrev RowS (w : World) (base : Nat) (v : Value) (xs : List Sv) : Prop := Lo encS 1 22 w base v xs
theorem info22 : (Try.prog.info? 22).map (fun i => (i.zero, i.size, i.bytes)) = some (some (.slice none 0 0), 1, 24) := by kernel_rfl
theorem sv_of {w : World} {base : Nat} {v : Value} {xs : List Int} (h : RowI w base v xs) : ∃ s : Sv, v = mvS s ∨ (∃ A c, v = .slice A 0 c ∧ xs = []) := by
  obtain ⟨A, c, rfl, hc, hA⟩ := h.slice
  rcases Nat.eq_zero_or_pos xs.length with e | e
  · exact ⟨none, .inr ⟨A, c, by rw [e], List.eq_nil_of_length_eq_zero e⟩⟩
  · obtain ⟨g, rfl, _⟩ := hA e
    exact ⟨some (g, xs.length, c), .inl rfl⟩
theorem lo_form {w : World} {base : Nat} {v : Value} {xs : List Int} (h : RowI w base v xs) : ∃ s : Sv, v = mvS s := by
  obtain ⟨inner, ⟨hl, hr⟩, hp⟩ := h
  rcases hr with ⟨rfl, _⟩ | ⟨g, cap, cur, rfl, _⟩
  · exact ⟨none, rfl⟩
  · exact ⟨some (g, xs.length, cap), rfl⟩
/-- orders that are found -/
def FoundR (w : World) (base : Nat) (v : Value) (L : List (List Int)) : Prop := ∃ sv : List Sv, RowS w base v sv ∧ sv.length = L.length ∧ ∀ i (h1 : i < sv.length) (h2 : i < L.length), RowI w base (mvS sv[i]) L[i]
/-- nothing below a block changes, and of the others rows of rows alone -/
structure Eff (base : Nat) (w w' : World) : Prop where
  below : Below base w w'
  size : w.heap.size ≤ w'.heap.size
  cells : ∀ (k : Nat) (c : Array Value) (e : TypeId) (s : Nat × Nat), e ≠ 22 → w.heap[k]? = some (.cells c e s) → w'.heap[k]? = some (.cells c e s)
theorem Eff.refl (base : Nat) (w : World) : Eff base w w := ⟨Below.refl _ _, Nat.le_refl _, fun _ _ _ _ _ h => h⟩
theorem Eff.trans {base : Nat} {w w1 w2 : World} (h : Eff base w w1) (k : Eff base w1 w2) : Eff base w w2 := ⟨h.below.trans k.below, Nat.le_trans h.size k.size, fun a c e s he hw => k.cells a c e s he (h.cells a c e s he hw)⟩
theorem Eff.ofBelow {base : Nat} {w w1 : World} (B : Below w.heap.size w w1) (hb : base ≤ w.heap.size) : Eff base w w1 := ⟨B.mono hb, B.size, fun k c e s _ hw => (B.block k (Array.getElem?_eq_some_iff.1 hw).1).trans hw⟩
theorem Eff.ofGrown {base : Nat} {w w1 : World} {v : Value} {sv : List Sv} (h : RowS w base v sv) (g : w.grownBy w1 v.ownBlock) (hb : base ≤ w.heap.size) : Eff base w w1 := by
  refine ⟨(Below.refl _ w).grown g hb h.own, g.size, fun k c e s he hw => ?_⟩
  refine (g.block k (Array.getElem?_eq_some_iff.1 hw).1 (fun e2 => ?_)).trans hw
  obtain ⟨_, _, cs, hc⟩ := h.typed k e2.symm
  rw [hw] at hc
  injection hc with hc
  injection hc with _ hc _
  exact he hc
theorem Eff.cell {base : Nat} {w w' : World} (h : Eff base w w') {k : Nat} {c : Array Value} {e : TypeId} {s : Nat × Nat} (he : e ≠ 22) (hw : w.heap[k]? = some (.cells c e s)) : w'.heap[k]? = some (.cells c e s) := h.cells k c e s he hw
theorem Lo.eff {α : Type} {enc : α → List Value} {k e base base' : Nat} {w w' : World} {v : Value} {xs : List α} (he : e ≠ 22) (h : Lo enc k e w base' v xs) (E : Eff base w w') : Lo enc k e w' base' v xs :=
  h.move (fun b hb => by
    obtain ⟨_, _, cs, hc⟩ := h.typed b hb
    rw [hc]
    exact E.cells b _ _ _ he hc)
theorem FoundR.below {w w' : World} {base : Nat} {v : Value} {L : List (List Int)} (h : FoundR w base v L) (B : Below w.heap.size w w') : FoundR w' base v L := by
  obtain ⟨sv, h1, h2, h3⟩ := h
  exact ⟨sv, h1.below B, h2, fun i hi hi' => (h3 i hi hi').below B⟩
theorem FoundR.lower {w : World} {base base' : Nat} {v : Value} {L : List (List Int)} (h : FoundR w base v L) (hb : base' ≤ base) : FoundR w base' v L := by
  obtain ⟨sv, h1, h2, h3⟩ := h
  exact ⟨sv, h1.lower hb, h2, fun i hi hi' => (h3 i hi hi').lower hb⟩
theorem FoundR.nil (w : World) (base : Nat) : FoundR w base (.slice none 0 0) [] := ⟨[], Lo.nil _ _, rfl, fun i h => by simp at h⟩
theorem FoundR.slice {w : World} {base : Nat} {v : Value} {L : List (List Int)} (h : FoundR w base v L) : ∃ A c, v = .slice A L.length c := by
  obtain ⟨sv, h1, h2, h3⟩ := h
  obtain ⟨A, c, rfl, _⟩ := h1.slice
  exact ⟨A, c, by rw [h2]⟩
/-- one order more -/
theorem FoundR.more {W : World} {base : Nat} {v u : Value} {L : List (List Int)} {xs : List Int} (h : FoundR W base v L) (hu : RowI W base u xs) (hl : L.length ≤ 1000000) (hb : base ≤ W.heap.size) :
    ∃ v' w', (Builtin.append_ #[55, 55] 55 #[v, .slice (some ⟨W.heap.size, 0, none⟩) 1 1]).run Try.prog (W.alloc (.cells #[u] 22)) = .ok v' w' ∧ FoundR w' base v' (L ++ [xs]) ∧ Eff base W w' := by
  obtain ⟨sv, h1, h2, h3⟩ := h
  obtain ⟨s, rfl⟩ := lo_form hu
  obtain ⟨v', w', hrun, hr, hg⟩ := Lo.append h1 (fun _ => rfl) encS_one 55 55 _ 24 Try.underlying55 info22 rfl (by decide) (by decide) s (by rw [h2]; omega) hb
  have E := Eff.ofGrown h1 hg hb
  refine ⟨v', w', hrun, ⟨sv ++ [s], hr, by simp [h2], fun i hi hi' => ?_⟩, E⟩
  rcases Nat.lt_or_ge i sv.length with e | e
  · rw [List.getElem_append_left e, List.getElem_append_left (by omega)]
    exact Lo.eff (by decide) (h3 i e (by omega)) E
  · rw [List.length_append, List.length_singleton] at hi
    have hi0 : i = sv.length := by omega
    subst hi0
    rw [List.getElem_append_right (Nat.le_refl _), List.getElem_append_right (by omega)]
    simp only [Nat.sub_self, List.getElem_cons_zero, h2]
    exact Lo.eff (by decide) hu E
theorem take_more {α : Type} (F E G : List α) (most : Nat) : (F ++ E.take (most - F.length)) ++ G.take (most - (F ++ E.take (most - F.length)).length) = F ++ (E ++ G).take (most - F.length) := by
  rw [List.append_assoc, List.take_append]
  congr 2
  rw [List.length_append, List.length_take]
  congr 1
  omega
def MorePost (base : Nat) (w : World) (L : List (List Int)) (e : Ending) (w' : World) : Prop := ∃ v, e = .returned v ∧ FoundR w' base v L ∧ Eff base w w'
def MoJ (base : Nat) (w : World) (g : List Dp) (names done : List Int) (found : List (List Int)) (k most : Nat) (v3 v13 : Value) (wr : World) : Prop :=
  ∃ i : Nat, v13 = .int .i64 (i : Int) ∧ i ≤ names.length ∧ FoundR wr base v3 (found ++ (((names.take i).filter (mayN g done)).flatMap fun n => enum g names k (done ++ [n])).take (most - found.length)) ∧ Eff base w wr
theorem boxH_new (A1 : Option Addr) (n1 c1 : Nat) (A2 : Option Addr) (n2 c2 : Nat) (w : World) : (w.alloc (.cells #[.slice A1 n1 c1, .slice A2 n2 c2] 25)).heap[w.heap.size]? = some (.cells #[.slice A1 n1 c1, .slice A2 n2 c2] 25 (0, 0)) := heap_alloc_new w _
end Go.Proofs.Ytedcnpaomphffaa
namespace Go.Proofs.Ytedcnpaomphffaa
open Go.RowKit Go.Maps Go.Sort Go.Lib Go.Proofs.YtedcnpaomphffaaW.PrintWords Go.Proofs.YtedcnpaomphffaaW.PrintLast Go.Proofs.YtedcnpaomphffaaW.PrintMore
set_option linter.unusedVariables false
set_option linter.unusedSimpArgs false
set_option linter.unusedSectionVars false
/-! ### the document's Orders -/
def ordsP (g : List Dp) (names : List Int) (n most : Nat) : List (List Int) := if (greedy g names n []).isSome = true then (enum g names n []).take most else []
def OrdsPost (w : World) (L : List (List Int)) (e : Ending) (w' : World) : Prop := ∃ v, e = .returned v ∧ FoundR w' w.heap.size v L ∧ Below w.heap.size w w'
end Go.Proofs.Ytedcnpaomphffaa
