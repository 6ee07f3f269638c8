import Derived.Test.YtoeefamnglbakaaV
namespace Go.Proofs.Ytoeefamnglbakaa
open Go.RowKit Go.Shelf Go.Proofs.YtoeefamnglbakaaW.PrintWords Go.Proofs.YtoeefamnglbakaaW.PrintLast Go.Proofs.YtoeefamnglbakaaW.PrintMore
set_option linter.unusedVariables false
set_option linter.unusedSimpArgs false
/-! ### the law and the iterator once more, where what the body must keep is said by the caller's own invariant -/
def LeftAt2 (I : World → Prop) (Ix : Code → World → Prop) (W : World) : Exit → Act → World → Prop
  | .normal, _, W' => KeepsOthers W W' ∧ I W'
  | .ret, _, W' => KeepsOthers W W' ∧ Ix .ret W'
  | .exit id, _, W' => KeepsOthers W W' ∧ Ix (.exit id) W'
  | .goto t, _, W' => KeepsOthers W W' ∧ Ix (.goto t) W'
  | _, _, _ => False
def Iter2 {α : Type} (n : Nat) (P : Program) (gf : Nat) (lb : Array Value) (encs : α → Array Value) (R : Nat → α → World → Prop) (S : Nat → Prop) (Good : World → Prop) : Prop :=
  ∀ (l : Nat) (J : Nat → World → Prop) (Jx : World → Prop) (W : World), (∀ k A B, J k A → Below A.heap.size A B → J k B) → (∀ k A, J k A → Good A) →
    (∀ k x W1, J k W1 → R k x W1 → YieldAt Wd (n - 1) P l (encs x) W1 fun e W' => (e = .returned (.bool true) ∧ J (k + 1) W') ∨ (e = .returned (.bool false) ∧ Jx W')) →
    J 0 W → CallsIn Wd n P gf (#[.func (.yield l) #[] #[]] ++ lb) W fun e W' => (∃ v, e = .returned v) ∧ ((∃ k, S k ∧ J k W') ∨ Jx W')
theorem range_law2 {P : Program} {α : Type} {n : Nat} {g : Operand} {ps : Array Tmp} {assign body : Code} {Q : Exit → Act → World → Prop} {a : Act} {w : World} {gf : Nat} {lb : Array Value}
    {encs : α → Array Value} {R : Nat → α → World → Prop} {S : Nat → Prop} {Good : World → Prop} (hg : a.eval g = .func (.func gf) #[] lb) (eg : ∀ args w, (callFunc gf args).run P w = .ok (.enter gf args) w) (hps : ∀ x, (encs x).size = ps.size)
    (hit : Iter2 (n - 1) P gf lb encs R S Good) (hR : ∀ k x A B, R k x A → Turns w.heap.size A B → R k x B) (h1 : 1 ≤ n)
    (I : Nat → World → Prop) (Ix : Code → World → Prop) (hI : ∀ k A B, I k A → (Turns w.heap.size A B ∨ Below A.heap.size A B) → I k B) (hIx : ∀ c A B, Ix c A → Turns w.heap.size A B → Ix c B) (hgood : ∀ k A, I k A → Good A) (h0 : I 0 w) (a₁ : α → Act)
    (hassign : ∀ (l : Nat) (x : α) (W : World) (K : Act → World → Prop), K (a₁ x) W →
      assign.wpIn (Wd.inRound l) (n - 1 - 1) P (Exit.then K (fun _ _ _ => False)) { tmps := (ps.zip (encs x)).foldl (fun t (p, v) => t.setIfInBounds p v) a.tmps, defers := [] } W)
    (hbody : ∀ (l : Nat) (k : Nat) (x : α) (W : World), I k W → R k x W → body.wpIn (Wd.inRound l) (n - 1 - 1) P (LeftAt2 (I (k + 1)) Ix W) (a₁ x) W)
    (hdone : ∀ (D k : Nat) (W : World), w.heap.size ≤ D → S k → I k W → W.heap[D]? = some (.deferred (some [])) → Q .normal { a with defers := { target := .collected D, args := #[] } :: a.defers } W)
    (hstop : ∀ (D : Nat) (c : Code) (W : World), w.heap.size ≤ D → Ix c W → W.heap[D]? = some (.deferred (some [])) → c.wpIn Wd n P Q { a with defers := { target := .collected D, args := #[] } :: a.defers } W) :
    (Code.rangeFunc g ps assign body).wpIn Wd n P Q a w := by
  refine wpIn_rangeFunc fun fn hfn => ?_
  have hro : Wd.round = none := rfl
  rw [hro]
  generalize hrec : (fun (st : LoopState) (pe : Option Code) => ({ state := st, pending := pe, fn := fn, tmps := a.tmps, params := ps, assign := assign, body := body, defers := w.heap.size } : Loop)) = rec
  have hst : ∀ st pe, (rec st pe).state = st := fun st pe => by rw [← hrec]
  have hpe : ∀ st pe, (rec st pe).pending = pe := fun st pe => by rw [← hrec]
  have hup : ∀ st pe st' pe', { rec st pe with state := st', pending := pe' } = rec st' pe' := fun _ _ _ _ => by rw [← hrec]
  have hup1 : ∀ st pe st', { rec st pe with state := st' } = rec st' pe := fun _ _ _ => by rw [← hrec]
  obtain ⟨W1, hW1⟩ : ∃ W1, (w.alloc (.deferred (some []))).alloc (.loop (rec .ready none)) = W1 := ⟨_, rfl⟩
  have hB1 : Below w.heap.size w W1 := by rw [← hW1]; exact ((Below.refl _ w).alloc (Nat.le_refl _) _).alloc (by simp) _
  have hL : W1.heap[w.heap.size + 1]? = some (.loop (rec .ready none)) := by
    rw [← hW1]; have := World.alloc_heap_new (w.alloc (.deferred (some []))) (.loop (rec .ready none)); rwa [World.size_alloc] at this
  have hD : W1.heap[w.heap.size]? = some (.deferred (some [])) := by
    rw [← hW1]; exact (Below.heap_alloc _ _ _ (by simp)).trans (World.alloc_heap_new w _)
  refine ⟨w.heap.size + 1, [{ target := .collected w.heap.size, args := #[] }], W1, { target := .fn (.func gf) lb, args := #[.func (.yield (w.heap.size + 1)) #[] #[]] }, W1, gf, #[.func (.yield (w.heap.size + 1)) #[] #[]] ++ lb, W1, ?_, ?_, fun _ _ => trivial, ?_, fun _ => h1, ?_⟩
  · rw [← hW1, ← hrec]; exact run_enterLoop_outer _ _ _ _ _
  · simp only [resolve, hg]; simp [go_sem]
  · simp [invoke, go_sem, eg]
  -- the two blocks of book-keeping
  have keep : ∀ {A B : World} (st : LoopState) (pe : Option Code), KeepsOthers A B → A.heap[w.heap.size + 1]? = some (.loop (rec st pe)) ∧ A.heap[w.heap.size]? = some (.deferred (some [])) →
      B.heap[w.heap.size + 1]? = some (.loop (rec st pe)) ∧ B.heap[w.heap.size]? = some (.deferred (some [])) := fun st pe h k => ⟨h.same _ _ k.1 rfl, h.same _ _ k.2 rfl⟩
  have turn : ∀ {A : World} (st st' : LoopState) (pe pe' : Option Code), A.heap[w.heap.size + 1]? = some (.loop (rec st pe)) ∧ A.heap[w.heap.size]? = some (.deferred (some [])) →
      Turns w.heap.size A (A.putObj (w.heap.size + 1) (.loop (rec st' pe'))) ∧ (A.putObj (w.heap.size + 1) (.loop (rec st' pe'))).heap[w.heap.size + 1]? = some (.loop (rec st' pe')) ∧ (A.putObj (w.heap.size + 1) (.loop (rec st' pe'))).heap[w.heap.size]? = some (.deferred (some [])) :=
    fun st st' pe pe' k => ⟨⟨_, _, _, by omega, k.1, rfl, rfl⟩, World.putObj_heap_same (Array.getElem?_eq_some_iff.1 k.1).1, (World.putObj_heap_other (by omega)).trans k.2⟩
  refine (hit (w.heap.size + 1) (fun k W => I k W ∧ W.heap[w.heap.size + 1]? = some (.loop (rec .ready none)) ∧ W.heap[w.heap.size]? = some (.deferred (some [])))
    (fun W => ∃ c, Ix c W ∧ W.heap[w.heap.size + 1]? = some (.loop (rec .done (some c))) ∧ W.heap[w.heap.size]? = some (.deferred (some []))) W1 ?_ (fun k A h => hgood k A h.1) ?_ ⟨hI 0 _ _ h0 (.inr hB1), hL, hD⟩).mono ?_
  · rintro k A B ⟨hi, hk⟩ hb
    exact ⟨hI _ _ _ hi (.inr hb), keep _ _ (keeps_below hb) hk⟩
  · rintro k x W ⟨hi, hk⟩ hx
    obtain ⟨t1, k1⟩ := turn _ .busy _ none hk
    have hy := run_yield (P := P) (args := encs x) hk.1 (by rw [← hrec]; exact hps x)
    rw [← hrec] at hy
    refine ⟨fn, _, assign, body, hy, roundIn_of_wpIn hfn (hassign _ x W _ ⟨_, run_beginRound hk.1 (hst _ _), ?_⟩)⟩
    rw [hup1]
    refine wpIn_mono (hbody _ k x _ (hI _ _ _ hi (.inl t1)) (hR _ _ _ _ hx t1)) ?_
    have fin : ∀ (jump : Option Code) (W3 : World), KeepsOthers (W.putObj (w.heap.size + 1) (.loop (rec .busy none))) W3 →
        ∃ W4, (Instr.endRound (w.heap.size + 1) jump).run P W3 = .ok (.bool jump.isNone) W4 ∧ Turns w.heap.size W3 W4 ∧ W4.heap[w.heap.size + 1]? = some (.loop (rec (if jump.isNone then .ready else .done) jump)) ∧ W4.heap[w.heap.size]? = some (.deferred (some [])) := fun jump W3 h3 => by
      have k3 := keep _ _ h3 k1
      obtain ⟨t4, k4⟩ := turn _ (if jump.isNone then .ready else .done) _ jump k3
      refine ⟨_, ?_, t4, k4⟩
      rw [run_endRound jump k3.1, hup]
    rintro e a3 W3 hp
    cases e with
    | normal =>
      obtain ⟨h3, hi3⟩ := hp
      obtain ⟨W4, hr, t4, k4⟩ := fin none W3 h3
      exact ⟨_, _, hr, .inl ⟨rfl, hI _ _ _ hi3 (.inl t4), k4⟩⟩
    | ret =>
      obtain ⟨h3, hi3⟩ := hp
      obtain ⟨W4, hr, t4, k4⟩ := fin (some .ret) W3 h3
      exact ⟨_, _, hr, .inr ⟨rfl, _, hIx _ _ _ hi3 t4, k4⟩⟩
    | exit id =>
      obtain ⟨h3, hi3⟩ := hp
      obtain ⟨W4, hr, t4, k4⟩ := fin (some (.exit id)) W3 h3
      exact ⟨_, _, hr, .inr ⟨rfl, _, hIx _ _ _ hi3 t4, k4⟩⟩
    | goto t =>
      obtain ⟨h3, hi3⟩ := hp
      obtain ⟨W4, hr, t4, k4⟩ := fin (some (.goto t)) W3 h3
      exact ⟨_, _, hr, .inr ⟨rfl, _, hIx _ _ _ hi3 t4, k4⟩⟩
    | panic ch => exact hp.elim
    | outgrown => exact hp.elim
  · rintro e W2 ⟨⟨v, rfl⟩, ⟨k, hS, hi, hk⟩ | ⟨c, hi, hk⟩⟩
    · obtain ⟨t4, k4⟩ := turn _ .exhausted _ none hk
      refine ⟨none, _, ?_, hdone _ k _ (Nat.le_refl _) hS (hI _ _ _ hi (.inl t4)) k4.2⟩
      rw [run_endLoop hk.1 (by rw [hst]; simp), hup1, hpe]
    · obtain ⟨t4, k4⟩ := turn _ .exhausted _ (some c) hk
      refine ⟨some c, _, ?_, hstop _ c _ (Nat.le_refl _) (hIx _ _ _ hi t4) k4.2⟩
      rw [run_endLoop hk.1 (by rw [hst]; simp), hup1, hpe]
attribute [local go_sem] t3 ts Oper.semAt_some
/-- what the iterator reads lies as it should, in a heap no smaller than b -/
def Good2 (b B : Nat) (A : Option Addr) (c : Nat) (l : List Int) (W : World) : Prop := b ≤ W.heap.size ∧ W.cell? ⟨B, 0, none⟩ = some (.slice A l.length c) ∧ Kd.C (Kd.int .u8) W A l.length l
def Hands2 (l : List Int) (b : Nat) (k : Nat) (x : Int × Value) (W : World) : Prop := x.1 = pos l k ∧ At l k ∧ (tf l (pos l k)).2.2 = 0 ∧ b ≤ W.heap.size ∧ Kd.R (Kd.int .u8) 5 W b (fun _ => True) x.2 (tf l (pos l k)).1
set_option maxHeartbeats 4000000 in
set_option maxRecDepth 100000 in
theorem Frames2 (n : Nat) (b B : Nat) (A : Option Addr) (c : Nat) (l : List Int) (hc : l.length ≤ c) (hb : bytesOK l) (hmx : l.length ≤ 140737488351232) :
    Iter2 n Try.prog 39 #[.pointer (some ⟨B, 0, none⟩)] enc2 (Hands2 l b) (fun k => At l k ∧ (tf l (pos l k)).2.2 ≠ 0) (Good2 b B A c l) := by
  intro lp J Jx W hJ hG hY h0
  have hb := Aside0.mk hb
  refine callsIn_of_wp Try.func39 rfl trivial ?_ rfl
  simp only [Try.ntmps39, List.size_toArray, List.length_cons, List.length_nil, Nat.reduceAdd, Nat.reduceSub, Array.replicate_succ, Array.replicate_zero, List.push_toArray, List.append_toArray, List.nil_append, List.cons_append]
  gi_wp2
  gi_loopw [3] (fun i wr => ∃ k : Nat, i = .int .i64 (pos l k) ∧ At l k ∧ J k wr) (fun i _ => l.length - (intOf i).toNat)
  case atStart => exact ⟨0, rfl, At.zero l, h0⟩
  case round =>
    obtain ⟨k, rfl, hat, hj⟩ := hrel
    obtain ⟨hsz, hcl, hrd⟩ := hG k wr hj
    have C := callsIn_wide (n := n - 1).2 (TakeFrame_calls A c l (pos l k) wr hrd hc hb.out hmx)
    have hat' := Aside0.mk hat
    unfold At at hat
    gi_wp2_with fail
    refine ⟨trivial, fun h => absurd h (by decide), C.mono ?_⟩
    rintro e w1 ⟨v, rfl, H⟩
    by_cases he : (tf l (pos l k)).2.2 = 0
    · obtain ⟨fn, tmps, assign, body, hy, hR⟩ := hY k (pos l k, v) w1 (hJ _ _ _ hj H.2) ⟨rfl, hat'.out, he, Nat.le_trans hsz H.2.size, Kd.R_lower H.1 hsz⟩
      have hnx := hat'.out.next hb.out he
      have hst := tf_size l _ hb.out he
      have hps : pos l k + (tf l (pos l k)).2.1 = pos l (k + 1) := rfl
      simp only [enc2] at hy
      rw [he]
      generalize (tf l (pos l k)).2.1 = sz at *
      clear he hat'
      generalize hp' : pos l (k + 1) = p1 at *
      gi_wp2
      refine ⟨fun h => absurd h (by decide), hR.mono ?_⟩
      rintro e W3 (⟨rfl, hJ3⟩ | ⟨rfl, hJx3⟩)
      · gi_wp2
        refine ⟨⟨k + 1, by rw [hp'], hnx, hJ3⟩, ?_⟩
        simp only [intOf]
        omega
      · gi_wp2
        refine bodyPost_ret (results_none rfl _ _ _) rfl ?_
        exact ⟨⟨_, rfl⟩, .inr hJx3⟩
    · have E : ((tf l (pos l k)).2.2 != 0) = true := by simpa using he
      generalize (tf l (pos l k)).2.1 = sz at *
      have he' := Aside0.mk he
      clear he
      generalize (tf l (pos l k)).2.2 = ee at E ⊢
      gi_wp2
      refine ⟨fun _ _ => trivial, ?_⟩
      gi_wp2
      refine bodyPost_ret (results_none rfl _ _ _) rfl ?_
      exact ⟨⟨_, rfl⟩, .inl ⟨k, ⟨hat'.out, he'.out⟩, hJ _ _ _ hj H.2⟩⟩
set_option maxHeartbeats 4000000 in
set_option maxRecDepth 100000 in
theorem Frames_calls2 (A : Option Addr) (c : Nat) (l : List Int) (w : World) (hr : Kd.C (Kd.int .u8) w A l.length l) (hc : l.length ≤ c) (hb : bytesOK l) (hmx : l.length ≤ 140737488351232) :
    Calls Try.prog 31 #[.slice A l.length c] w fun e w' => ∃ B A' c', e = .returned (.func (.func 39) #[] #[.pointer (some ⟨B, 0, none⟩)]) ∧ w.heap.size ≤ B ∧ B < w'.heap.size ∧ w'.cell? ⟨B, 0, none⟩ = some (.slice A' l.length c') ∧ Kd.R (Kd.int .u8) 5 w' (w.heap.size + 1) (fun _ => True) (.slice A' l.length c') l ∧ l.length ≤ c' ∧ Below w.heap.size w w' := by
  obtain ⟨w1, hw1⟩ : ∃ w1, w1 = w.alloc (.cells #[.slice A l.length c] 22) := ⟨_, rfl⟩
  have hB1 : Below w.heap.size w w1 := by rw [hw1]; exact (Below.refl _ w).alloc (Nat.le_refl _) _
  have hs1 : w1.heap.size = w.heap.size + 1 := by rw [hw1]; simp
  have hc1 : w1.cell? ⟨w.heap.size, 0, none⟩ = some (.slice A l.length c) := by rw [hw1]; simp [go_sem]
  have hf1 : w1.frozen? ⟨w.heap.size, 0, none⟩ = false := by rw [hw1]; simp [go_sem]
  have K := Clone_calls A c l w1 (Kd.C_below hr hB1)
  go_enter Try.func31, Try.ntmps31
  go_wp2_with fail
  rw [← hw1]
  refine (K hmx).mono ?_
  rintro e w2 ⟨v, rfl, H⟩
  have hc2 := (H.2.cell (p := ⟨w.heap.size, 0, none⟩) (by show w.heap.size < _; omega)).trans hc1
  have hf2 := (H.2.frozen (p := ⟨w.heap.size, 0, none⟩) (by show w.heap.size < _; omega)).trans hf1
  obtain ⟨A', c', rfl, hc', C'⟩ := H.reads
  have hB2 := Below_trans hB1 H.2
  have hs2 := H.2.size
  go_wp2
  go_ret
  refine ⟨_, A', c', rfl, Nat.le_refl _, ?_, ?_, ?_, hc', hB2.setCell (p := ⟨w.heap.size, 0, none⟩) (Nat.le_refl _) _⟩
  · simp; omega
  · exact World.cell?_setCell_same' _ _ _ (by rw [hc2]; rfl)
  · have := Kd.R_far (p := ⟨w.heap.size, 0, none⟩) (Kd.R_bound H.1) (fun k hk e => by have := hk.2.1; subst e; simp only at this; omega) (.slice A' l.length c')
    rw [hs1] at this
    exact Kd.R_mono this (fun _ _ => trivial)
end Go.Proofs.Ytoeefamnglbakaa
