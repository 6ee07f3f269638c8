import Derived.Test.YtedcnpaomphffaaMK
namespace Go.Proofs.Ytedcnpaomphffaa
open Go.RowKit Go.Maps Go.Sort Go.Lib Go.Shelf Go.Proofs.YtedcnpaomphffaaW.PrintWords Go.Proofs.YtedcnpaomphffaaW.PrintLast Go.Proofs.YtedcnpaomphffaaW.PrintMore
set_option linter.unusedVariables false
set_option linter.unusedSimpArgs false
set_option linter.unusedSectionVars false
/-! ### a range over a function whose iterator keeps memory of its own between two rounds -/
/-- what a loop's own book-keeping may turn: a block that is no cells and lies at or beyond b -/
def Turns (b : Nat) (A B : World) : Prop := ∃ l o o', b ≤ l ∧ A.heap[l]? = some o ∧ o.isCells = false ∧ B = A.putObj l o'
theorem below_turns {n0 b : Nat} (h : n0 ≤ b) {A B : World} (t : Turns b A B) : Below n0 A B := by
  obtain ⟨l, o, o', hl, ho, _, rfl⟩ := t
  have := (Array.getElem?_eq_some_iff.1 ho).1
  exact (Below.refl n0 A).grown (grownBy_putObj' A l o') (by omega) (fun k e => by cases e; omega)
theorem keeps_below {W W' : World} (h : Below W.heap.size W W') : KeepsOthers W W' := .of_grownBy (grown_of_below h none) (fun _ _ e => by cases e)
/-- of the cells from n0 on nothing changes but the block of v -/
def Keeps3 (n0 : Nat) (v : Value) (W W' : World) : Prop := W.heap.size ≤ W'.heap.size ∧ ∀ b, n0 ≤ b → v.ownBlock ≠ some b → ∀ c e s, W.heap[b]? = some (.cells c e s) → W'.heap[b]? = some (.cells c e s)
theorem Keeps3.refl (n0 : Nat) (v : Value) (W : World) : Keeps3 n0 v W W := ⟨Nat.le_refl _, fun _ _ _ _ _ _ h => h⟩
theorem Keeps3.trans {n0 : Nat} {v : Value} {A B C : World} (h : Keeps3 n0 v A B) (k : Keeps3 n0 v B C) : Keeps3 n0 v A C := ⟨Nat.le_trans h.1 k.1, fun b hb hv c e s ho => k.2 b hb hv c e s (h.2 b hb hv c e s ho)⟩
theorem Keeps3.turns {n0 b : Nat} {v : Value} {A B : World} (t : Turns b A B) : Keeps3 n0 v A B := by
  obtain ⟨l, o, o', hl, ho, hc, rfl⟩ := t
  refine ⟨by simp [World.putObj], fun q _ _ c e s hq => ?_⟩
  refine (World.putObj_heap_other (fun e2 => ?_)).trans hq
  subst e2
  rw [ho] at hq
  injection hq with hq
  subst hq
  cases hc
theorem Keeps3.below {n0 : Nat} {v : Value} {A B : World} (h : Below A.heap.size A B) : Keeps3 n0 v A B := ⟨h.size, fun b _ _ c e s ho => (h.block b (Array.getElem?_eq_some_iff.1 ho).1).trans ho⟩
def LeftAt3 (n0 : Nat) (x : Value) (I : World → Prop) (Ix : Code → World → Prop) (W : World) : Exit → Act → World → Prop
  | .normal, _, W' => KeepsOthers W W' ∧ I W' ∧ Keeps3 n0 x W W'
  | .ret, _, W' => KeepsOthers W W' ∧ Ix .ret W'
  | .exit id, _, W' => KeepsOthers W W' ∧ Ix (.exit id) W'
  | .goto t, _, W' => KeepsOthers W W' ∧ Ix (.goto t) W'
  | _, _, _ => False
/-- an iterator over rows, counted: R n0 k x W what it promises of the x of round k (its own memory lies from n0 on) -/
def Iter3 (n : Nat) (P : Program) (gf : Nat) (lb : Array Value) (R : Nat → Nat → Value → World → Prop) (S : Nat → Prop) (Good : World → Prop) : Prop :=
  ∀ (l : Nat) (J : Nat → World → Prop) (Jx : World → Prop) (W : World), (∀ k A B, J k A → Below W.heap.size A B → J k B) → (∀ k A, J k A → Good A) →
    (∀ k x W1, J k W1 → W.heap.size ≤ W1.heap.size → R W.heap.size k x W1 → YieldAt Wd (n - 1) P l #[x] W1 fun e W' => (e = .returned (.bool true) ∧ J (k + 1) W' ∧ Keeps3 W.heap.size x W1 W') ∨ (e = .returned (.bool false) ∧ Jx W')) →
    J 0 W → CallsIn Wd n P gf (#[.func (.yield l) #[] #[]] ++ lb) W fun e W' => (∃ v, e = .returned v) ∧ ((∃ k, S k ∧ J k W') ∨ Jx W')
theorem range_law3 {P : Program} {n : Nat} {g : Operand} {ps : Array Tmp} {assign body : Code} {Q : Exit → Act → World → Prop} {a : Act} {w : World} {gf : Nat} {lb : Array Value}
    {R : Nat → Nat → Value → World → Prop} {S : Nat → Prop} {Good : World → Prop} (hg : a.eval g = .func (.func gf) #[] lb) (eg : ∀ args w, (callFunc gf args).run P w = .ok (.enter gf args) w) (hps : ps.size = 1)
    (hit : Iter3 (n - 1) P gf lb R S Good) (hR : ∀ n0 k x A B, R n0 k x A → Turns w.heap.size A B → R n0 k x B) (h1 : 1 ≤ n)
    (I : Nat → World → Prop) (Ix : Code → World → Prop) (hI : ∀ k A B, I k A → (Turns w.heap.size A B ∨ Below w.heap.size A B) → I k B) (hIx : ∀ c A B, Ix c A → Turns w.heap.size A B → Ix c B) (hgood : ∀ k A, I k A → Good A) (h0 : I 0 w) (a₁ : Value → Act)
    (hassign : ∀ (l : Nat) (x : Value) (W : World) (K : Act → World → Prop), K (a₁ x) W →
      assign.wpIn (Wd.inRound l) (n - 1 - 1) P (Exit.then K (fun _ _ _ => False)) { tmps := (ps.zip (#[x])).foldl (fun t (p, v) => t.setIfInBounds p v) a.tmps, defers := [] } W)
    (hbody : ∀ (l : Nat) (k n0 : Nat) (x : Value) (W : World), w.heap.size ≤ n0 → I k W → R n0 k x W → body.wpIn (Wd.inRound l) (n - 1 - 1) P (LeftAt3 n0 x (I (k + 1)) Ix W) (a₁ x) W)
    (hdone : ∀ (D k : Nat) (W : World), w.heap.size ≤ D → S k → I k W → W.heap[D]? = some (.deferred (some [])) → Q .normal { a with defers := { target := .collected D, args := #[] } :: a.defers } W)
    (hstop : ∀ (D : Nat) (c : Code) (W : World), w.heap.size ≤ D → Ix c W → W.heap[D]? = some (.deferred (some [])) → c.wpIn Wd n P Q { a with defers := { target := .collected D, args := #[] } :: a.defers } W) :
    (Code.rangeFunc g ps assign body).wpIn Wd n P Q a w := by
  refine wpIn_rangeFunc fun fn hfn => ?_
  have hro : Wd.round = none := rfl
  rw [hro]
  generalize hrec : (fun (st : LoopState) (pe : Option Code) => ({ state := st, pending := pe, fn := fn, tmps := a.tmps, params := ps, assign := assign, body := body, defers := w.heap.size } : Loop)) = rec
  have hst : ∀ st pe, (rec st pe).state = st := fun st pe => by rw [← hrec]
  have hpe : ∀ st pe, (rec st pe).pending = pe := fun st pe => by rw [← hrec]
  have hup : ∀ st pe st' pe', { rec st pe with state := st', pending := pe' } = rec st' pe' := fun _ _ _ _ => by rw [← hrec]
  have hup1 : ∀ st pe st', { rec st pe with state := st' } = rec st' pe := fun _ _ _ => by rw [← hrec]
  obtain ⟨W1, hW1⟩ : ∃ W1, (w.alloc (.deferred (some []))).alloc (.loop (rec .ready none)) = W1 := ⟨_, rfl⟩
  have hB1 : Below w.heap.size w W1 := by rw [← hW1]; exact ((Below.refl _ w).alloc (Nat.le_refl _) _).alloc (by simp) _
  have hL : W1.heap[w.heap.size + 1]? = some (.loop (rec .ready none)) := by
    rw [← hW1]; have := World.alloc_heap_new (w.alloc (.deferred (some []))) (.loop (rec .ready none)); rwa [World.size_alloc] at this
  have hD : W1.heap[w.heap.size]? = some (.deferred (some [])) := by
    rw [← hW1]; exact (Below.heap_alloc _ _ _ (by simp)).trans (World.alloc_heap_new w _)
  refine ⟨w.heap.size + 1, [{ target := .collected w.heap.size, args := #[] }], W1, { target := .fn (.func gf) lb, args := #[.func (.yield (w.heap.size + 1)) #[] #[]] }, W1, gf, #[.func (.yield (w.heap.size + 1)) #[] #[]] ++ lb, W1, ?_, ?_, fun _ _ => trivial, ?_, fun _ => h1, ?_⟩
  · rw [← hW1, ← hrec]; exact run_enterLoop_outer _ _ _ _ _
  · simp only [resolve, hg]; simp [go_sem]
  · simp [invoke, go_sem, eg]
  -- the two blocks of book-keeping
  have keep : ∀ {A B : World} (st : LoopState) (pe : Option Code), KeepsOthers A B → A.heap[w.heap.size + 1]? = some (.loop (rec st pe)) ∧ A.heap[w.heap.size]? = some (.deferred (some [])) →
      B.heap[w.heap.size + 1]? = some (.loop (rec st pe)) ∧ B.heap[w.heap.size]? = some (.deferred (some [])) := fun st pe h k => ⟨h.same _ _ k.1 rfl, h.same _ _ k.2 rfl⟩
  have turn : ∀ {A : World} (st st' : LoopState) (pe pe' : Option Code), A.heap[w.heap.size + 1]? = some (.loop (rec st pe)) ∧ A.heap[w.heap.size]? = some (.deferred (some [])) →
      Turns w.heap.size A (A.putObj (w.heap.size + 1) (.loop (rec st' pe'))) ∧ (A.putObj (w.heap.size + 1) (.loop (rec st' pe'))).heap[w.heap.size + 1]? = some (.loop (rec st' pe')) ∧ (A.putObj (w.heap.size + 1) (.loop (rec st' pe'))).heap[w.heap.size]? = some (.deferred (some [])) :=
    fun st st' pe pe' k => ⟨⟨_, _, _, by omega, k.1, rfl, rfl⟩, World.putObj_heap_same (Array.getElem?_eq_some_iff.1 k.1).1, (World.putObj_heap_other (by omega)).trans k.2⟩
  have hsz1 : W1.heap.size = w.heap.size + 2 := by rw [← hW1]; simp
  refine (hit (w.heap.size + 1) (fun k W => I k W ∧ W.heap[w.heap.size + 1]? = some (.loop (rec .ready none)) ∧ W.heap[w.heap.size]? = some (.deferred (some [])))
    (fun W => ∃ c, Ix c W ∧ W.heap[w.heap.size + 1]? = some (.loop (rec .done (some c))) ∧ W.heap[w.heap.size]? = some (.deferred (some []))) W1 ?_ (fun k A h => hgood k A h.1) ?_ ⟨hI 0 _ _ h0 (.inr hB1), hL, hD⟩).mono ?_
  · rintro k A B ⟨hi, hk⟩ hb
    exact ⟨hI _ _ _ hi (.inr (hb.mono (by omega))), (hb.block _ (by omega)).trans hk.1, (hb.block _ (by omega)).trans hk.2⟩
  · rintro k x W ⟨hi, hk⟩ hWsz hx
    obtain ⟨t1, k1⟩ := turn _ .busy _ none hk
    have hy := run_yield (P := P) (args := #[x]) hk.1 (by rw [← hrec]; exact hps.symm)
    rw [← hrec] at hy
    refine ⟨fn, _, assign, body, hy, roundIn_of_wpIn hfn (hassign _ x W _ ⟨_, run_beginRound hk.1 (hst _ _), ?_⟩)⟩
    rw [hup1]
    refine wpIn_mono (hbody _ k W1.heap.size x _ (by omega) (hI _ _ _ hi (.inl t1)) (hR _ _ _ _ _ hx t1)) ?_
    have fin : ∀ (jump : Option Code) (W3 : World), KeepsOthers (W.putObj (w.heap.size + 1) (.loop (rec .busy none))) W3 →
        ∃ W4, (Instr.endRound (w.heap.size + 1) jump).run P W3 = .ok (.bool jump.isNone) W4 ∧ Turns w.heap.size W3 W4 ∧ W4.heap[w.heap.size + 1]? = some (.loop (rec (if jump.isNone then .ready else .done) jump)) ∧ W4.heap[w.heap.size]? = some (.deferred (some [])) := fun jump W3 h3 => by
      have k3 := keep _ _ h3 k1
      obtain ⟨t4, k4⟩ := turn _ (if jump.isNone then .ready else .done) _ jump k3
      refine ⟨_, ?_, t4, k4⟩
      rw [run_endRound jump k3.1, hup]
    rintro e a3 W3 hp
    cases e with
    | normal =>
      obtain ⟨h3, hi3, hk3⟩ := hp
      obtain ⟨W4, hr, t4, k4⟩ := fin none W3 h3
      exact ⟨_, _, hr, .inl ⟨rfl, ⟨hI _ _ _ hi3 (.inl t4), k4⟩, ((Keeps3.turns t1).trans hk3).trans (Keeps3.turns t4)⟩⟩
    | ret =>
      obtain ⟨h3, hi3⟩ := hp
      obtain ⟨W4, hr, t4, k4⟩ := fin (some .ret) W3 h3
      exact ⟨_, _, hr, .inr ⟨rfl, _, hIx _ _ _ hi3 t4, k4⟩⟩
    | exit id =>
      obtain ⟨h3, hi3⟩ := hp
      obtain ⟨W4, hr, t4, k4⟩ := fin (some (.exit id)) W3 h3
      exact ⟨_, _, hr, .inr ⟨rfl, _, hIx _ _ _ hi3 t4, k4⟩⟩
    | goto t =>
      obtain ⟨h3, hi3⟩ := hp
      obtain ⟨W4, hr, t4, k4⟩ := fin (some (.goto t)) W3 h3
      exact ⟨_, _, hr, .inr ⟨rfl, _, hIx _ _ _ hi3 t4, k4⟩⟩
    | panic ch => exact hp.elim
    | outgrown => exact hp.elim
  · rintro e W2 ⟨⟨v, rfl⟩, ⟨k, hS, hi, hk⟩ | ⟨c, hi, hk⟩⟩
    · obtain ⟨t4, k4⟩ := turn _ .exhausted _ none hk
      refine ⟨none, _, ?_, hdone _ k _ (Nat.le_refl _) hS (hI _ _ _ hi (.inl t4)) k4.2⟩
      rw [run_endLoop hk.1 (by rw [hst]; simp), hup1, hpe]
    · obtain ⟨t4, k4⟩ := turn _ .exhausted _ (some c) hk
      refine ⟨some c, _, ?_, hstop _ c _ (Nat.le_refl _) (hIx _ _ _ hi t4) k4.2⟩
      rw [run_endLoop hk.1 (by rw [hst]; simp), hup1, hpe]
end Go.Proofs.Ytedcnpaomphffaa
namespace Go.Proofs.Ytedcnpaomphffaa
open Go.RowKit Go.Maps Go.Sort Go.Lib Go.Shelf Go.Proofs.YtedcnpaomphffaaW.PrintWords Go.Proofs.YtedcnpaomphffaaW.PrintLast Go.Proofs.YtedcnpaomphffaaW.PrintMore
set_option linter.unusedVariables false
set_option linter.unusedSimpArgs false
set_option linter.unusedSectionVars false
/-! ### orders: plain, and what its memory is -/
/-- an append to a loose row: the row that was is still there -/
theorem rowI_app2 {W : World} {base : Nat} {v : Value} {xs : List Int} (h : RowI W base v xs) (x : Int) (hl : xs.length ≤ 65536) (hb : base ≤ W.heap.size) :
    ∃ v' w', (Builtin.append_ #[22, 22] 22 #[v, .slice (some ⟨W.heap.size, 0, none⟩) 1 1]).run Try.prog (W.alloc (.cells #[.int .i64 x] 3)) = .ok v' w' ∧ RowI w' base v' (xs ++ [x]) ∧ W.grownBy w' v.ownBlock ∧
      ((∃ g cap, v = .slice (some ⟨g, 0, none⟩) xs.length cap ∧ v' = .slice (some ⟨g, 0, none⟩) (xs.length + 1) cap) ∨ (W.grownBy w' none ∧ ∃ k, v'.ownBlock = some k ∧ W.heap.size ≤ k)) := by
  obtain ⟨i0, hi0, hzz⟩ := Option.map_eq_some_iff.1 info3
  simp only [Prod.mk.injEq] at hzz
  obtain ⟨hz0, hz1, hz2⟩ := hzz
  have hw := h.grown (World.grownBy_alloc W (.cells #[.int .i64 x] 3) none) (fun b e => by cases e)
  obtain ⟨inner, hown, hr⟩ := hw
  obtain ⟨W1, hW1⟩ : ∃ W1, W1 = W.alloc (.cells #[.int .i64 x] 3) := ⟨_, rfl⟩
  have hnews : ∀ j u, (encI x)[j]? = some u → W1.cell? ((⟨W.heap.size, 0, none⟩ : Addr).add j) = some u := by
    rw [hW1]
    simpa [encI] using World.news_of_block (cs := #[.int .i64 x]) (t := 3) (fr := (0, 0)) (heap_alloc_new W (.cells #[.int .i64 x] 3))
  have g1 : W.grownBy W1 none := by rw [hW1]; exact World.grownBy_alloc _ _ _
  have hs1 : W1.heap.size = W.heap.size + 1 := by rw [hW1]; simp
  rw [← hW1] at hown ⊢
  have h2 := hr.snoc (show (fun x cs => cs = encI x) x (encI x) from rfl) rfl
  rcases hown.2 with ⟨rfl, hn0⟩ | ⟨g, cap, cur, rfl, hbg, hg, hnc, hcm, hcs, htake⟩
  · have ho : W1.ownsRow base 3 1 (.slice none 0 0) xs.length inner := ⟨hown.1, .inl ⟨rfl, hn0⟩⟩
    obtain ⟨v', w', hrun, ho', hg', _, hw'⟩ := run_append_own_at (P := Try.prog) (w := W1) base 22 22 3 i0 _ _ _ Try.underlying22 hi0 hz0 hz1 hz2 rfl (by decide) _ xs.length inner ho ⟨W.heap.size, 0, none⟩ 1 1 (encI x) rfl hnews (encI_one x) (by simp only [maxLen]; omega) (by omega) (by omega)
    have hg2 : W.grownBy w' none := trans_grown g1 hg'
    refine ⟨v', w', hrun, ⟨_, by rw [List.length_append]; exact l_of_own ho', h2⟩, hg2, .inr ⟨hg2, ?_⟩⟩
    rcases hw' with h3 | h3
    · exfalso
      rcases ho'.2 with ⟨rfl, e⟩ | ⟨g, cap, cur, rfl, _⟩
      · omega
      · cases h3
    · exact ⟨_, h3, by omega⟩
  · by_cases hroom : xs.length + 1 ≤ cap
    · have hfit : 0 + xs.length * 1 + (encI x).length ≤ cur.size := by
        simp only [encI, List.length_singleton]
        omega
      have hrun := run_append_room_cells (P := Try.prog) (w := W1) 22 22 3 i0 Try.underlying22 hi0 g 0 xs.length cap ⟨W.heap.size, 0, none⟩ 1 1 (encI x) (by rw [hz1]; rfl) hnews (encI_one x) hroom
        (fun j hj => by rw [cell_of_row W1 g _ cur 3 (0, 0) hg]; simp [encI] at hj; rw [hz1]; simp; omega) (fun j _ => blk_frozen hg _)
      rw [hz1] at hrun
      obtain ⟨cur', h3, h4, h5⟩ := setCells_row (encI x) (0 + xs.length * 1) W1 cur hg hfit
      obtain ⟨s1, s2, s3, s4⟩ := setCells_same g (encI x) (0 + xs.length * 1) W1
      refine ⟨_, _, hrun, ⟨inner ++ encI x, ⟨by rw [List.length_append, hown.1, List.length_append]; rfl, .inr ⟨g, cap, cur', by rw [List.length_append]; rfl, hbg, h3, by rw [List.length_append]; exact hroom, hcm, by omega, ?_⟩⟩, h2⟩, trans_grown (grown_none g1) ⟨s1, s2, s3, by rw [s4]; exact Nat.le_refl _, fun k _ hk => setCells_far (encI x) _ k (fun he => hk (by rw [he]; simp [Value.ownBlock]))⟩, .inl ⟨g, cap, rfl, rfl⟩⟩
      rw [h5, Nat.zero_add, htake]
      exact List.take_left' (by rw [List.length_append, hown.1, List.length_append]; rfl)
    · obtain ⟨v', w', hrun, ho, hg'⟩ := run_append_arg_grows (P := Try.prog) (w := W1) 22 22 3 i0 _ 1 8 Try.underlying22 hi0 hz0 hz1 hz2 rfl (by decide) ⟨g, 0, none⟩ xs.length cap inner hown.1 (fun j u hu => by rw [add_plain]; exact l_cells hown j u hu) ⟨W.heap.size, 0, none⟩ 1 1 (encI x) rfl hnews (by omega) (by simp only [maxLen]; omega) (by omega)
      have hg2 : W.grownBy w' none := trans_grown g1 hg'
      have ho2 := l_of_own ho
      refine ⟨v', w', hrun, ⟨_, by rw [List.length_append]; exact l_lower ho2 (by omega), h2⟩, grown_none hg2, .inr ⟨hg2, ?_⟩⟩
      rcases ho.2 with ⟨_, e⟩ | ⟨g', cap', cur', rfl, hbg', _⟩
      · omega
      · exact ⟨g', rfl, by omega⟩
/-- the beginning of a row -/
theorem RowI.shrink {W : World} {base g cap : Nat} {xs : List Int} {x : Int} (h : RowI W base (.slice (some ⟨g, 0, none⟩) (xs.length + 1) cap) (xs ++ [x])) : RowI W base (.slice (some ⟨g, 0, none⟩) xs.length cap) xs := by
  obtain ⟨inner, hown, hr⟩ := h
  rw [List.length_append, List.length_singleton] at hown
  rcases hown.2 with ⟨hv, _⟩ | ⟨g', cap', cur, hv, hbg, hg, hnc, hcm, hcs, ht⟩
  · cases hv
  · injection hv with e1 _ e3
    injection e1 with e1
    injection e1 with e1
    subst e1 e3
    have hl := hown.1
    have h4 := Kd.reps_take hr (m := xs.length) (by simp)
    rw [List.take_left' rfl] at h4
    refine ⟨inner.take (xs.length * 1), ⟨by rw [List.length_take]; omega, .inr ⟨g, cap, cur, rfl, hbg, hg, by omega, hcm, hcs, ?_⟩⟩, h4⟩
    rw [← ht, List.take_take]
    congr 1
    omega
theorem Keeps3.row {n0 base : Nat} {v u : Value} {A B : World} {xs : List Int} (h : Keeps3 n0 v A B) (hr : RowI A base u xs) (hb : n0 ≤ base) (hne : ∀ k, u.ownBlock = some k → v.ownBlock ≠ some k) : RowI B base u xs :=
  hr.move (fun b hb2 => by
    obtain ⟨h1, _, cs, hc⟩ := hr.typed b hb2
    rw [hc]
    exact h.2 b (by omega) (hne b hb2) _ _ _ hc)
/-- how many still lead to each place, -1 where it is done -/
def leftP (g : List Dp) (names done : List Int) : List Int := names.map (fun b => if b ∈ done then -1 else cnt g names done b)
theorem leftP_len (g : List Dp) (names done : List Int) : (leftP g names done).length = names.length := by simp [leftP]
theorem leftP_at (g : List Dp) (names done : List Int) (j : Nat) (hj : j < (leftP g names done).length) : (leftP g names done)[j] = if nm names j ∈ done then -1 else cnt g names done (nm names j) := by
  have hj' : j < names.length := by rw [← leftP_len g names done]; exact hj
  simp only [leftP, List.getElem_map]
  rw [nm_eq hj']
theorem leftP_zero {g : List Dp} {names done : List Int} (hg : ∀ d ∈ g, d.f ∈ names ∧ d.t ∈ names) {j : Nat} (hj : j < (leftP g names done).length) : (leftP g names done)[j] = 0 ↔ nm names j ∈ cand g names done := by
  have hj' : j < names.length := by rw [← leftP_len g names done]; exact hj
  rw [leftP_at, mem_cand]
  by_cases h : nm names j ∈ done
  · rw [if_pos h]
    exact ⟨fun e => by omega, fun e => absurd h e.2.1⟩
  · rw [if_neg h, cnt_zero hg]
    exact ⟨fun e => ⟨nm_mem hj', h, e⟩, fun e => e.2.2⟩
theorem leftP_bound {g : List Dp} {names done : List Int} {j : Nat} (hj : j < (leftP g names done).length) : -1 ≤ (leftP g names done)[j] ∧ (leftP g names done)[j] ≤ (names.length : Int) := by
  rw [leftP_at]
  have := cnt_nonneg g names done (nm names j)
  have := cnt_le g names done (nm names j)
  split <;> omega
/-- within the loop that takes a place out, after e of those that it leads to -/
structure LfI (g : List Dp) (names done : List Int) (i e : Nat) (ls : List Int) : Prop where
  len : ls.length = names.length
  at_ : ∀ j (hj : j < ls.length), ls[j] = if nm names j ∈ done ++ [nm names i] then -1 else if j ∈ (adj g names i).take e then cnt g names done (nm names j) - 1 else cnt g names done (nm names j)
theorem LfI.start {g : List Dp} {names done : List Int} (hn : names.Nodup) {i : Nat} (hi : i < names.length) : LfI g names done i 0 ((leftP g names done).set i (-1)) where
  len := by rw [List.length_set, leftP_len]
  at_ := fun j hj => by
    rw [List.length_set] at hj
    have hj' : j < names.length := by rw [← leftP_len g names done]; exact hj
    by_cases e : i = j
    · subst e
      rw [List.getElem_set_self, if_pos (by simp)]
    · rw [List.getElem_set_ne e, leftP_at]
      have : ¬ nm names j = nm names i := fun h => e (nm_inj hn hj' hi h).symm
      by_cases hd : nm names j ∈ done
      · rw [if_pos hd, if_pos (List.mem_append_left _ hd)]
      · rw [if_neg hd, if_neg (by simp [hd, this])]
        simp
theorem LfI.next {g : List Dp} {names done : List Int} {i e : Nat} {ls : List Int} (h : LfI g names done i e ls) (hout : ∀ j ∈ adj g names i, nm names j ∉ done ++ [nm names i]) {j : Nat} (hj : (adj g names i)[e]? = some j) (hjl : j < ls.length) : LfI g names done i (e + 1) (ls.set j (ls[j] - 1)) := by
  obtain ⟨he, ej⟩ := List.getElem?_eq_some_iff.1 hj
  have htk : (adj g names i).take (e + 1) = (adj g names i).take e ++ [j] := by rw [List.take_succ_eq_append_getElem he, ej]
  have hjn : j ∉ (adj g names i).take e := fun hm => by
    obtain ⟨q, hq, e2⟩ := List.mem_take_iff_getElem.1 hm
    have := (List.getElem_inj (adj_nodup g names i)).1 (e2.trans ej.symm)
    omega
  have hja := hout j (List.mem_of_getElem? hj)
  refine ⟨by rw [List.length_set]; exact h.len, fun m hm => ?_⟩
  rw [List.length_set] at hm
  rw [htk]
  by_cases e2 : j = m
  · subst e2
    rw [List.getElem_set_self, h.at_ j hjl, if_neg hja, if_neg hjn, if_neg hja, if_pos (by simp)]
  · rw [List.getElem_set_ne e2, h.at_ m hm]
    have : (m ∈ (adj g names i).take e ++ [j]) ↔ m ∈ (adj g names i).take e := by
      rw [List.mem_append, List.mem_singleton]
      exact ⟨fun x => x.resolve_right (fun y => e2 y.symm), .inl⟩
    simp only [this]
theorem LfI.done {g : List Dp} {names done : List Int} (hn : names.Nodup) {i : Nat} (hi : i < names.length) (hd : nm names i ∉ done) {ls : List Int} (h : LfI g names done i (adj g names i).length ls) : ls = leftP g names (done ++ [nm names i]) := by
  refine List.ext_getElem (by rw [h.len, leftP_len]) fun j h1 h2 => ?_
  have hj : j < names.length := by rw [← h.len]; exact h1
  rw [h.at_ j h1, leftP_at, List.take_length]
  by_cases hm : nm names j ∈ done ++ [nm names i]
  · rw [if_pos hm, if_pos hm]
  · rw [if_neg hm, if_neg hm, cnt_snoc hn (nm_mem hi) hd]
    by_cases ha : j ∈ adj g names i
    · rw [if_pos ha, if_pos (mem_adj.1 ha).2]
    · rw [if_neg ha, if_neg (fun hl => ha (mem_adj.2 ⟨hj, hl⟩))]
/-- those that a candidate leads to are not done yet -/
theorem cand_out {g : List Dp} {names done : List Int} (hg : ∀ d ∈ g, d.f ∈ names ∧ d.t ∈ names ∧ d.f ≠ d.t) (hp : Pre g names done) {i : Nat} (hc : nm names i ∈ cand g names done) : ∀ j ∈ adj g names i, nm names j ∉ done ++ [nm names i] := by
  intro j hj hm
  obtain ⟨_, hl⟩ := mem_adj.1 hj
  obtain ⟨d, hd, e1, e2⟩ := leadsB_iff.1 hl
  obtain ⟨_, c2, _⟩ := mem_cand.1 hc
  rcases List.mem_append.1 hm with hm | hm
  · obtain ⟨x, y, e⟩ := List.append_of_mem hm
    have := hp.2.2 x (nm names j) y e d hd e2
    rw [e1] at this
    refine c2 ?_
    rw [e]
    exact List.mem_append_left _ this
  · rw [List.mem_singleton] at hm
    exact (hg d hd).2.2 (by rw [e1, e2, hm])
/-- the orders that begin with the first places -/
def enumT (g : List Dp) (names done : List Int) (rem i : Nat) : List (List Int) := ((names.take i).filter (fun n => decide (n ∈ cand g names done))).flatMap fun n => enum g names rem (done ++ [n])
theorem enumT_zero (g : List Dp) (names done : List Int) (rem : Nat) : enumT g names done rem 0 = [] := by simp [enumT]
theorem enumT_succ {g : List Dp} {names done : List Int} {rem i : Nat} (hi : i < names.length) : enumT g names done rem (i + 1) = enumT g names done rem i ++ (if nm names i ∈ cand g names done then enum g names rem (done ++ [nm names i]) else []) := by
  unfold enumT
  rw [List.take_succ_eq_append_getElem hi, List.filter_append, List.flatMap_append, nm_eq hi]
  by_cases h : names[i] ∈ cand g names done
  · simp [List.filter_cons, h]
  · simp [List.filter_cons, h]
theorem enumT_all (g : List Dp) (names done : List Int) (rem : Nat) : enumT g names done rem names.length = enum g names (rem + 1) done := by
  unfold enumT
  rw [List.take_length, enum]
  congr 1
  unfold cand
  refine List.filter_congr fun n hn => ?_
  rw [Bool.eq_iff_iff, decide_eq_true_iff, List.mem_filter]
  simp [hn]
end Go.Proofs.Ytedcnpaomphffaa
namespace Go.Proofs.Ytedcnpaomphffaa
open Go.RowKit Go.Maps Go.Sort Go.Lib Go.Shelf Go.Proofs.YtedcnpaomphffaaW.PrintWords Go.Proofs.YtedcnpaomphffaaW.PrintLast Go.Proofs.YtedcnpaomphffaaW.PrintMore
set_option linter.unusedVariables false
set_option linter.unusedSimpArgs false
set_option linter.unusedSectionVars false
/-! ### orders: the end of an order -/
theorem roundIn_any {a b : Nat} {P : Program} {l : Nat} {f : FuncId} {tmps : Array Value} {assign body : Code} {w : World} {R : Ending → World → Prop} (h : RoundIn Wd a P l f tmps assign body w R) : RoundIn Wd b P l f tmps assign body w R :=
  ⟨h.1, fun c cs _ => h.2 c cs (room_wide _)⟩
theorem yieldAt_any {a b : Nat} {P : Program} {l : Nat} {args : Array Value} {w : World} {R : Ending → World → Prop} (h : YieldAt Wd a P l args w R) : YieldAt Wd b P l args w R := by
  obtain ⟨fn, tmps, assign, body, h1, h2⟩ := h
  exact ⟨fn, tmps, assign, body, h1, roundIn_any h2⟩
set_option maxRecDepth 100000 in
theorem cloneN_calls (W : World) : Calls Try.prog 47 #[.slice none 0 0] W fun e w' => e = .returned (.slice none 0 0) ∧ w' = W := AnyE.slices_Clone_nil Try.cloneI 0 0 W
theorem cloneR_calls (W : World) (base : Nat) (v : Value) (xs : List Int) (h : RowI W base v xs) (hl : xs.length ≤ 65536) :
    Calls Try.prog 47 #[v] W fun e w' => ∃ A c, e = .returned (.slice A xs.length c) ∧ RowI w' W.heap.size (.slice A xs.length c) xs ∧ Below W.heap.size W w' := by
  obtain ⟨inner, hown, hr⟩ := h
  rcases hown.2 with ⟨rfl, hn0⟩ | ⟨g, cap, cur, rfl, hbg, hg, hnc, hcm, hcs, htake⟩
  · obtain rfl : xs = [] := List.eq_nil_of_length_eq_zero hn0
    refine (cloneN_calls W).mono ?_
    rintro e w' ⟨rfl, rfl⟩
    exact ⟨none, 0, rfl, Lo.nil _ _, Below.refl _ _⟩
  · have hC : dI.C W (some ⟨g, 0, none⟩) xs.length xs := C_of_lo (enc := encI) (k := 1) (hn := fun _ => rfl) (h1 := encI_one) (A := some ⟨g, 0, none⟩) (c := cap) (xs := xs) ⟨inner, hown, hr⟩ (by omega)
    refine (cloneI_calls W g cap xs hC hl).mono ?_
    rintro e w' ⟨g', c', rfl, h1, h2⟩
    exact ⟨_, c', rfl, h1, h2⟩
/-- what a call of orders leaves -/
def OrPost (J : Nat → World → Prop) (Jx : World → Prop) (n0 : Nat) (vs : Value) (done : List Int) (m : Nat) (W : World) (e : Ending) (W' : World) : Prop := (e = .returned (.bool true) ∧ J m W' ∧ Keeps3 n0 vs W W' ∧ RowI W' n0 vs done) ∨ (e = .returned (.bool false) ∧ Jx W')
attribute [local go_sem] Oper.semAt_some
set_option maxHeartbeats 8000000 in
set_option maxRecDepth 100000 in
theorem orders_end {pw bn bi : Nat} {At : Option Addr} {ct : Nat} {g : List Dp} {names : List Int} {ss : List Sv} {cs0 : List Int} (hnl : names.length ≤ 4096) (l n0 : Nat) (J : Nat → World → Prop) (Jx : World → Prop) (E : List (List Int)) (hJ : ∀ k A B, J k A → Below n0 A B → J k B) (hG : ∀ k A, J k A → WbC A pw bn bi At ct g names ss cs0)
    (hY : ∀ k x W1, J k W1 → n0 ≤ W1.heap.size → (∃ L, E[k]? = some L ∧ RowI W1 n0 x L) → YieldAt Wd 5 Try.prog l #[x] W1 fun e W' => (e = .returned (.bool true) ∧ J (k + 1) W' ∧ Keeps3 n0 x W1 W') ∨ (e = .returned (.bool false) ∧ Jx W'))
    (done : List Int) (m : Nat) (vl vs : Value) (W : World) (hj : J m W) (hn0 : n0 ≤ W.heap.size) (hlen : done.length = names.length) (hE : E[m]? = some done) (hs : RowI W n0 vs done) :
    Calls Try.prog 40 #[.pointer (some ⟨pw, 0, none⟩), vl, vs, .func (.yield l) #[] #[]] W (OrPost J Jx n0 vs done (m + 1) W) := by
  have c0 := (hG m W hj).c0
  have CL := cloneR_calls W n0 vs done hs (by omega)
  obtain ⟨As, cs, rfl, hcs, _⟩ := hs.slice
  have hY2 : ∀ x W1, Below W.heap.size W W1 → RowI W1 W.heap.size x done → YieldAt Wd 6 Try.prog l #[x] W1 (OrPost J Jx n0 (.slice As done.length cs) done (m + 1) W) := fun x W1 B hx => by
    obtain ⟨fn, tmps, assign, body, h1, h2⟩ := yieldAt_any (b := 6) (hY m x W1 (hJ _ _ _ hj (B.mono hn0)) (Nat.le_trans hn0 B.size) ⟨done, hE, Lo.lower hx hn0⟩)
    refine ⟨fn, tmps, assign, body, h1, h2.mono ?_⟩
    rintro e W' (⟨he, h3, h4⟩ | ⟨he, h3⟩)
    · have h5 : Keeps3 n0 (.slice As done.length cs) W W' := by
        refine ⟨Nat.le_trans B.size h4.1, fun b hb _ c e s hc => ?_⟩
        have hlt := (Array.getElem?_eq_some_iff.1 hc).1
        refine h4.2 b hb (fun e2 => ?_) c e s ((B.block b hlt).trans hc)
        have := (hx.typed b e2).1
        omega
      refine .inl ⟨he, h3, h5, ?_⟩
      have hr1 : RowI W1 n0 (.slice As done.length cs) done := hs.below B
      exact h4.row hr1 (Nat.le_refl _) (fun k hk e2 => by
        have := (hx.typed k e2).1
        have := (hs.typed k hk).2.1
        omega)
    · exact .inr ⟨he, h3⟩
  have hlen' : ((done.length : Int) == (names.length : Int)) = true := by simp [hlen]
  clear hs hY hJ hG hj
  replace hlen := Aside0.mk hlen
  replace hY2 := Aside0.mk hY2
  refine (callsIn_wide (n := 9)).1 ?_
  refine callsIn_of_wp Try.func40 rfl trivial ?_ rfl
  simp only [Try.ntmps40, List.size_toArray, List.length_cons, List.length_nil, Nat.reduceAdd, Nat.reduceSub, Array.replicate_succ, Array.replicate_zero, List.push_toArray, List.append_toArray, List.nil_append, List.cons_append]
  gi_wp2_with fail
  refine ⟨trivial, (callsIn_wide.2 CL).mono ?_⟩
  rintro e W1 ⟨A, c, rfl, hx, B⟩
  obtain ⟨fn, tmps, assign, body, hy, hR⟩ := hY2.out _ W1 B hx
  clear CL hx hY2
  gi_wp2
  refine (roundIn_any hR).mono ?_
  rintro e W' (⟨rfl, h1, h2, h3⟩ | ⟨rfl, h1⟩)
  · have K : OrPost J Jx n0 (.slice As done.length cs) done (m + 1) W (.returned (.bool true)) W' := .inl ⟨rfl, h1, h2, h3⟩
    clear h1 h2 h3 hR
    replace K := Aside0.mk K
    gi_wp2
    refine bodyPost_ret (results_tmp rfl _ _ _) rfl ?_
    exact K.out
  · have K : OrPost J Jx n0 (.slice As done.length cs) done (m + 1) W (.returned (.bool false)) W' := .inr ⟨rfl, h1⟩
    clear h1 hR
    replace K := Aside0.mk K
    gi_wp2
    refine bodyPost_ret (results_tmp rfl _ _ _) rfl ?_
    exact K.out
end Go.Proofs.Ytedcnpaomphffaa
namespace Go.Proofs.Ytedcnpaomphffaa
open Go.RowKit Go.Maps Go.Sort Go.Lib Go.Shelf Go.Proofs.YtedcnpaomphffaaW.PrintWords Go.Proofs.YtedcnpaomphffaaW.PrintLast Go.Proofs.YtedcnpaomphffaaW.PrintMore
set_option linter.unusedVariables false
set_option linter.unusedSimpArgs false
set_option linter.unusedSectionVars false
/-! ### orders: the recursion -/
theorem enumT_split (g : List Dp) (names done : List Int) (rem i : Nat) : ∃ rest, enumT g names done rem names.length = enumT g names done rem i ++ rest := by
  unfold enumT
  rw [List.take_length]
  refine ⟨((names.drop i).filter (fun n => decide (n ∈ cand g names done))).flatMap fun n => enum g names rem (done ++ [n]), ?_⟩
  rw [← List.flatMap_append, ← List.filter_append, List.take_append_drop]
/-- the row of those that are left, as it lies: in the iterator's own memory, or in the web -/
def LfA (J : Nat → World → Prop) (n0 : Nat) (vs : Value) (gl cl : Nat) (ls : List Int) (W : World) : Prop :=
  (RowI W n0 (.slice (some ⟨gl, 0, none⟩) ls.length cl) ls ∧ vs.ownBlock ≠ some gl) ∨ ∀ k A, J k A → dI.C A (some ⟨gl, 0, none⟩) ls.length ls
theorem LfA.C {J : Nat → World → Prop} {n0 : Nat} {vs : Value} {gl cl : Nat} {ls : List Int} {W : World} {k : Nat} (h : LfA J n0 vs gl cl ls W) (hj : J k W) (hl : ls.length ≤ 65536) : dI.C W (some ⟨gl, 0, none⟩) ls.length ls := by
  rcases h with ⟨h, _⟩ | h
  · exact C_of_lo (enc := encI) (k := 1) (hn := fun _ => rfl) (h1 := encI_one) h (by omega)
  · exact h k W hj
theorem LfA.keep {J : Nat → World → Prop} {n0 : Nat} {vs : Value} {gl cl : Nat} {ls : List Int} {W W' : World} (h : LfA J n0 vs gl cl ls W) (k : Keeps3 n0 vs W W') : LfA J n0 vs gl cl ls W' := by
  rcases h with ⟨h, h2⟩ | h
  · refine .inl ⟨k.row h (Nat.le_refl _) (fun b hb => ?_), h2⟩
    have e2 : some gl = some b := hb
    rw [← e2]
    exact h2
  · exact .inr h
def OjJ (J : Nat → World → Prop) (n0 : Nat) (vs : Value) (done : List Int) (g : List Dp) (names : List Int) (rem m : Nat) (W : World) (v28 : Value) (wr : World) : Prop :=
  ∃ i : Nat, v28 = .int .i64 (i : Int) ∧ i ≤ names.length ∧ J (m + (enumT g names done rem i).length) wr ∧ Keeps3 n0 vs W wr ∧ RowI wr n0 vs done
def OlJ (W5 : World) (g : List Dp) (names done : List Int) (i g2 c2 : Nat) (v48 : Value) (wr : World) : Prop :=
  ∃ (e : Nat) (ls : List Int), v48 = .int .i64 (e : Int) ∧ e ≤ (adj g names i).length ∧ RowI wr W5.heap.size (.slice (some ⟨g2, 0, none⟩) names.length c2) ls ∧ LfI g names done i e ls ∧ Below W5.heap.size W5 wr
/-- what stands behind an append to the beginning and a call that goes on from it -/
theorem go_on {n0 : Nat} {vs v' : Value} {done : List Int} {x : Int} {W7 w8 w9 : World} (hs : RowI W7 n0 vs done) (hg : W7.grownBy w8 vs.ownBlock) (hd : (∃ g cap, vs = .slice (some ⟨g, 0, none⟩) done.length cap ∧ v' = .slice (some ⟨g, 0, none⟩) (done.length + 1) cap) ∨ (W7.grownBy w8 none ∧ ∃ k, v'.ownBlock = some k ∧ W7.heap.size ≤ k))
    (hk : Keeps3 n0 v' w8 w9) (hr : RowI w9 n0 v' (done ++ [x])) : Keeps3 n0 vs W7 w9 ∧ RowI w9 n0 vs done := by
  constructor
  · refine ⟨Nat.le_trans hg.size hk.1, fun b hb hv c e s hc => ?_⟩
    have hlt := (Array.getElem?_eq_some_iff.1 hc).1
    have h8 := (hg.block b hlt (fun e2 => hv e2.symm)).trans hc
    refine hk.2 b hb (fun e2 => ?_) c e s h8
    rcases hd with ⟨gg, cap, rfl, rfl⟩ | ⟨_, k, e3, hle⟩
    · exact hv e2
    · rw [e3] at e2
      injection e2 with e2
      omega
  · rcases hd with ⟨gg, cap, rfl, rfl⟩ | ⟨hg0, k, e3, hle⟩
    · exact hr.shrink
    · have h8 : RowI w8 n0 vs done := hs.grown hg0 (by simp)
      refine hk.row h8 (Nat.le_refl _) (fun b hb e2 => ?_)
      rw [e3] at e2
      injection e2 with e2
      have := (hs.typed b hb).2.1
      omega
set_option maxHeartbeats 32000000 in
set_option maxRecDepth 100000 in
theorem orders_calls {pw bn bi : Nat} {At : Option Addr} {ct : Nat} {g : List Dp} {names : List Int} {ss : List Sv} {cs0 : List Int} (hnl : names.length ≤ 4096) (hnn : names.Nodup) (hg : ∀ d ∈ g, d.f ∈ names ∧ d.t ∈ names ∧ d.f ≠ d.t) (l n0 : Nat) (J : Nat → World → Prop) (Jx : World → Prop) (E : List (List Int)) (hJ : ∀ k A B, J k A → Below n0 A B → J k B) (hG : ∀ k A, J k A → WbC A pw bn bi At ct g names ss cs0)
    (hY : ∀ k x W1, J k W1 → n0 ≤ W1.heap.size → (∃ L, E[k]? = some L ∧ RowI W1 n0 x L) → YieldAt Wd 5 Try.prog l #[x] W1 fun e W' => (e = .returned (.bool true) ∧ J (k + 1) W' ∧ Keeps3 n0 x W1 W') ∨ (e = .returned (.bool false) ∧ Jx W')) :
    ∀ (rem : Nat) (done : List Int) (m gl cl : Nat) (vs : Value) (W : World), J m W → n0 ≤ W.heap.size → Pre g names done → done.length + rem = names.length → (∃ pre post, E = pre ++ enum g names rem done ++ post ∧ pre.length = m) → RowI W n0 vs done → LfA J n0 vs gl cl (leftP g names done) W →
    Calls Try.prog 40 #[.pointer (some ⟨pw, 0, none⟩), .slice (some ⟨gl, 0, none⟩) names.length cl, vs, .func (.yield l) #[] #[]] W (OrPost J Jx n0 vs done (m + (enum g names rem done).length) W) := by
  have hg' : ∀ d ∈ g, d.f ∈ names ∧ d.t ∈ names := fun d hd => ⟨(hg d hd).1, (hg d hd).2.1⟩
  intro rem
  induction rem with
  | zero =>
    intro done m gl cl vs W hj hn0 hp hlen hE hs hL
    refine orders_end hnl l n0 J Jx E hJ hG hY done m _ vs W hj hn0 (by omega) ?_ hs
    obtain ⟨pre, post, e1, e2⟩ := hE
    rw [e1, enum, List.append_assoc, List.getElem?_append_right (by omega), e2, Nat.sub_self]
    rfl
  | succ rem IH =>
    intro done m gl cl vs W hj hn0 hp hlen hE hs hL
    have c0 := (hG m W hj).c0
    have J0 : OjJ J n0 vs done g names rem m W (.int .i64 0) W := ⟨0, rfl, Nat.zero_le _, by rw [enumT_zero]; exact hj, Keeps3.refl _ _ _, hs⟩
    obtain ⟨As, cs, rfl, hcs, _⟩ := hs.slice
    have hlen' : ((done.length : Int) == (names.length : Int)) = false := by simp; omega
    have hall := enumT_all g names done rem
    rw [← hall] at hE ⊢
    clear hj hs
    replace hg := Aside0.mk hg
    replace hg' := Aside0.mk hg'
    replace hJ := Aside0.mk hJ
    replace hG := Aside0.mk hG
    replace hY := Aside0.mk hY
    replace IH := Aside0.mk IH
    replace hE := Aside0.mk hE
    replace hL := Aside0.mk hL
    replace hlen := Aside0.mk hlen
    replace hp := Aside0.mk hp
    replace hnn := Aside0.mk hnn
    replace J0 := Aside0.mk J0
    replace hall := Aside0.mk hall
    go_enter Try.func40, Try.ntmps40
    go_wp2_with fail
    clear c0
    go_loopw [28] (fun v28 wr => OjJ J n0 (.slice As done.length cs) done g names rem m W v28 wr) (fun v28 _ => names.length - (intOf v28).toNat)
    case atStart => exact J0.out
    case round =>
      clear J0
      obtain ⟨i, rfl, hi, hj, hk, hs⟩ := hrel
      have hL1 := hL.out.keep hk
      have hlp := leftP_len g names done
      by_cases hlt : i < names.length
      · have hC := hL1.C hj (by omega)
        have hil : i < (leftP g names done).length := by omega
        obtain ⟨ad, e1, q0⟩ := CI_at hC i hil
        injection e1 with e1
        subst e1
        rw [add_plain] at q0
        have hz := leftP_zero hg'.out hil
        obtain ⟨bd1, bd2⟩ := leftP_bound hil
        have hsucc := enumT_succ (g := g) (done := done) (rem := rem) hlt
        by_cases hc : nm names i ∈ cand g names done
        · have e0 := hz.2 hc
          rw [if_pos hc] at hsucc
          have CL := cloneI_calls wr gl cl (leftP g names done) hC (by omega)
          rw [hlp] at CL
          have e0' : ((leftP g names done)[i] != 0) = false := by simp [e0]
          have hout := cand_out hg.out hp.out hc
          have hcd := (mem_cand.1 hc).2.1
          have LS := LfI.start (g := g) (done := done) hnn.out hlt
          have hn0r : n0 ≤ wr.heap.size := Nat.le_trans hn0 hk.1
          have hps := hp.out.snoc hc
          have hi' : (i : Int) < (names.length : Int) := by omega
          have hi0 : (0 : Int) ≤ (i : Int) := by omega
          rw [e0] at q0 e0'
          clear hz bd1 bd2 e0 hC
          replace hsucc := Aside0.mk hsucc
          replace hps := Aside0.mk hps
          replace LS := Aside0.mk LS
          replace hout := Aside0.mk hout
          replace hcd := Aside0.mk hcd
          replace hc := Aside0.mk hc
          go_wp2_with fail
          refine CL.mono ?_
          rintro e w5 ⟨g2, c2, rfl, hr5, B5⟩
          have y5 := RowI.at hr5 i _ (List.getElem?_eq_getElem hil)
          have f5 := hr5.frozen i
          have put5 := RowI.put hr5 i hil (-1)
          have gs5 := grown_set w5 g2 i (.int .i64 (-1))
          have hlo2 : wr.heap.size ≤ g2 := (hr5.typed g2 rfl).1
          have hlt2 : g2 < w5.heap.size := (hr5.typed g2 rfl).2.1
          have B6 : Below wr.heap.size wr (w5.setCell ⟨g2, i, none⟩ (.int .i64 (-1))) := B5.grown gs5 B5.size (fun k e => by injection e with e; omega)
          have hVB : ∀ A, Below wr.heap.size wr A → J (m + (enumT g names done rem i).length) A ∧ WbC A pw bn bi At ct g names ss cs0 := fun A B => by
            have := hJ.out _ _ _ hj (B.mono hn0r)
            exact ⟨this, hG.out _ _ this⟩
          obtain ⟨W6, hW6⟩ : ∃ W6, W6 = w5.setCell ⟨g2, i, none⟩ (.int .i64 (-1)) := ⟨_, rfl⟩
          rw [← hW6] at B6 put5
          have V6 := (hVB _ B6).2
          have his : i < ss.length := by rw [V6.sl]; exact hlt
          have c1 := V6.c1
          have q1 := V6.next i his
          obtain ⟨Ar, cr, hmr, _⟩ := V6.rows i his
          rw [hmr] at q1
          have hCr' : ∀ A, Below wr.heap.size wr A → ∃ A', ∃ c, Value.slice Ar (adj g names i).length cr = .slice A' (adj g names i).length c ∧ dI.C A A' (upI (adj g names i)).length (upI (adj g names i)) := fun A B => by
            rw [← hmr]
            exact (hVB A B).2.rows i his
          have J2 : OlJ wr g names done i g2 c2 (.int .i64 0) W6 := ⟨0, _, rfl, Nat.zero_le _, put5, LS.out, B6⟩
          have hal := adj_len g names i
          clear V6 hmr put5 gs5 B5 hr5 CL q0
          generalize (leftP g names done)[i] = x0 at y5
          replace J2 := Aside0.mk J2
          replace hCr' := Aside0.mk hCr'
          replace hVB := Aside0.mk hVB
          replace hL1 := Aside0.mk hL1
          go_upto_region 9 with (fail)
          rw [← hW6]
          clear hW6 y5 f5
          obtain ⟨wo, rfl⟩ : ∃ wo : World, wo = wr := ⟨_, rfl⟩
          go_wp2_with fail
          go_loopw [48] (fun v48 wr => OlJ wo g names done i g2 c2 v48 wr) (fun v48 _ => (adj g names i).length - (intOf v48).toNat)
          case atStart => exact J2.out
          case round =>
            clear J2 c1 q1
            obtain ⟨e, ls, rfl, he, hrow, F, B⟩ := hrel
            by_cases hle : e < (adj g names i).length
            · obtain ⟨A3, c3, hm3, hC3⟩ := hCr'.out wr B
              injection hm3 with hA3 _ hc3
              subst hA3 hc3
              have hule : e < (upI (adj g names i)).length := by rw [upI_len]; exact hle
              obtain ⟨ad, rfl, q0⟩ := CI_at hC3 e hule
              rw [upI_at] at q0
              have hjn := (mem_adj.1 (List.getElem_mem hle)).1
              have hjl : (adj g names i)[e] < ls.length := by rw [F.len]; exact hjn
              have NX := F.next hout.out (List.getElem?_eq_getElem hle) hjl
              have y1 := RowI.at hrow _ ls[(adj g names i)[e]] (List.getElem?_eq_getElem hjl)
              have f1 := hrow.frozen (adj g names i)[e]
              have put := RowI.put hrow (adj g names i)[e] hjl (ls[(adj g names i)[e]] - 1)
              have gset := grown_set wr g2 (adj g names i)[e] (.int .i64 (ls[(adj g names i)[e]] - 1))
              have bd : -1 ≤ ls[(adj g names i)[e]] ∧ ls[(adj g names i)[e]] ≤ 4096 := by
                rw [F.at_ _ hjl]
                have := cnt_nonneg g names done (nm names (adj g names i)[e])
                have := cnt_le g names done (nm names (adj g names i)[e])
                split
                · omega
                · split <;> omega
              obtain ⟨bd1, bd2⟩ := bd
              have N : OlJ wo g names done i g2 c2 (.int .i64 ((e : Int) + 1)) (wr.setCell ⟨g2, (adj g names i)[e], none⟩ (.int .i64 (ls[(adj g names i)[e]] - 1))) := ⟨e + 1, _, by simp, hle, put, NX, B.grown gset B.size (fun k e => by injection e with e; omega)⟩
              generalize ls[(adj g names i)[e]] = x at *
              generalize (adj g names i)[e] = j at *
              have hjn' : (j : Int) < (names.length : Int) := by omega
              clear hrow F B hC3 NX put gset hule
              replace N := Aside0.mk N
              go_wp2
              refine ⟨N.out, ?_⟩
              simp [intOf]
              omega
            · obtain rfl : e = (adj g names i).length := by omega
              have els := F.done hnn.out hlt hcd.out
              subst els
              obtain ⟨hj2, V⟩ := hVB.out wr B
              have c0 := V.c0
              obtain ⟨ad, eAd, q0⟩ := CI_at V.txn i hlt
              rw [← nm_eq hlt] at q0
              subst eAd
              have hs2 := hs.below B
              have hn2 : n0 ≤ wr.heap.size := Nat.le_trans hn0r B.size
              obtain ⟨v', w8, hrun, hr8, hg8, hd8⟩ := rowI_app2 hs2 (nm names i) (by have := hlen.out; omega) hn2
              have hvo : ∀ k, (Value.slice As done.length cs).ownBlock = some k → k < wo.heap.size := fun k hk => (hs.typed k hk).2.1
              have hj8 : J (m + (enumT g names done rem i).length) w8 := hJ.out _ _ _ hj2 ((Below.refl n0 wr).grown hg8 hn2 (fun k hk => (hs2.typed k hk).1))
              have L8 : LfA J n0 v' g2 c2 (leftP g names (done ++ [nm names i])) w8 := by
                refine .inl ⟨?_, fun e2 => ?_⟩
                · rw [leftP_len]
                  refine Lo.lower (hrow.grown hg8 (fun b hb e2 => ?_)) hn0r
                  have e3 : some g2 = some b := e2
                  injection e3 with e3
                  have := hvo b hb
                  omega
                · rcases hd8 with ⟨gg, cap, e3, rfl⟩ | ⟨_, k, e3, hle2⟩
                  · have := hvo gg (by rw [e3]; rfl)
                    have e4 : some gg = some g2 := e2
                    injection e4 with e4
                    omega
                  · rw [e3] at e2
                    injection e2 with e2
                    have := (hrow.typed g2 rfl).2.1
                    omega
              have hE8 : ∃ pre post, E = pre ++ enum g names rem (done ++ [nm names i]) ++ post ∧ pre.length = m + (enumT g names done rem i).length := by
                obtain ⟨pre, post, e1, e2⟩ := hE.out
                obtain ⟨rest, e3⟩ := enumT_split g names done rem (i + 1)
                refine ⟨pre ++ enumT g names done rem i, rest ++ post, ?_, by rw [List.length_append, e2]⟩
                rw [e1, e3, hsucc.out]
                simp [List.append_assoc]
              have IHc := IH.out (done ++ [nm names i]) (m + (enumT g names done rem i).length) g2 c2 v' w8 hj8 (Nat.le_trans hn2 hg8.size) hps.out (by rw [List.length_append, List.length_singleton]; have := hlen.out; omega) hE8 hr8 L8
              have KT : ∀ w9, J (m + (enumT g names done rem i).length + (enum g names rem (done ++ [nm names i])).length) w9 → Keeps3 n0 v' w8 w9 → RowI w9 n0 v' (done ++ [nm names i]) → OjJ J n0 (.slice As done.length cs) done g names rem m W (.int .i64 ((i : Int) + 1)) w9 := fun w9 h1 h2 h3 => by
                obtain ⟨h4, h5⟩ := go_on hs2 hg8 hd8 h2 h3
                refine ⟨i + 1, by simp, hlt, ?_, (hk.trans (Keeps3.below B)).trans h4, h5⟩
                rw [hsucc.out, List.length_append, ← Nat.add_assoc]
                exact h1
              clear hrow F V hj2 hs2 hr8 hg8 hd8 hvo hj8 L8 hE8 B
              generalize nm names i = na at *
              replace KT := Aside0.mk KT
              go_wp2_with (at_builtin; refine app_list rfl rfl rfl rfl hrun ?_)
              refine IHc.mono ?_
              rintro e w9 (⟨rfl, h1, h2, h3⟩ | ⟨rfl, h1⟩)
              · have N := KT.out w9 h1 h2 h3
                clear h1 h2 h3 KT IHc
                replace N := Aside0.mk N
                go_wp2
                refine ⟨N.out, ?_⟩
                simp [intOf]
                omega
              · have K : OrPost J Jx n0 (.slice As done.length cs) done (m + (enumT g names done rem names.length).length) W (.returned (.bool false)) w9 := .inr ⟨rfl, h1⟩
                clear h1 KT IHc
                replace K := Aside0.mk K
                go_wp2
                go_ret
                exact K.out
        · have e0 : (leftP g names done)[i] ≠ 0 := fun h => hc (hz.1 h)
          have e0' : ((leftP g names done)[i] != 0) = true := by simpa using e0
          rw [if_neg hc, List.append_nil] at hsucc
          have N : OjJ J n0 (.slice As done.length cs) done g names rem m W (.int .i64 ((i : Int) + 1)) wr := ⟨i + 1, by simp, hlt, by rw [hsucc]; exact hj, hk, hs⟩
          generalize (leftP g names done)[i] = x at *
          clear hj hk hs hL1 hC hz hsucc
          replace e0 := Aside0.mk e0
          replace N := Aside0.mk N
          go_wp2
          refine ⟨N.out, ?_⟩
          simp [intOf]
          omega
      · obtain rfl : i = names.length := by omega
        have K : OrPost J Jx n0 (.slice As done.length cs) done (m + (enumT g names done rem names.length).length) W (.returned (.bool true)) wr := .inl ⟨rfl, hj, hk, hs⟩
        clear hj hk hs hL1
        replace K := Aside0.mk K
        go_wp2
        go_ret
        exact K.out
end Go.Proofs.Ytedcnpaomphffaa
