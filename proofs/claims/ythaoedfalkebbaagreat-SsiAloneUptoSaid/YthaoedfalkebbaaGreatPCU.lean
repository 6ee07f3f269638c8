/- Cut by a program out of the seat's texts (VG): what the theorem needs, one behind the other. -/
import Derived.Test.YthaoedfalkebbaaGreatPCT
import Derived.Test.YthaoedfalkebbaaGreatPCK
namespace Go.Proofs.YthaoedfalkebbaaGreat
open Go.RowKit Go.Maps Go.Sort Go.Lib Go.Shelf Go.Proofs.YthaoedfalkebbaaGreatW.PrintWords Go.Proofs.YthaoedfalkebbaaGreatW.PrintLast Go.Proofs.YthaoedfalkebbaaGreatW.PrintMore
set_option linter.unusedVariables false
set_option linter.unusedSimpArgs false
set_option linter.unusedSectionVars false
structure AlI (c : Cp) (n : Nat) (W : Wld St) (tx : Int) (s : Nat) : Prop where
  wl : ∃ G, WL (iT c.reads) (okS c) W G s
  al : Al W.m
  caps : W.m.caps = c
  cap : Cap W.m s 0
  bd : Bd W s n
  tx0 : 0 ≤ tx ∧ tx ≤ W.list.length
  open_ : ∀ x ∈ W.list, x.over = false → x.tx = tx
section
variable {c : Cp} {n s : Nat} {W : Wld St} {tx : Int}
theorem AlI.start (h : mayC c = true) (xs : List Opn) : AlI c xs.length (W0 c xs) 0 0 where
  wl := ⟨[], WL.start c St0 _ ((okT c).2 (may_reads h)) (hasT _)⟩
  al := .inl rfl
  caps := rfl
  cap := Cap.start c 0 h (Int.le_refl _)
  bd := Bd.start _ _ _ (rowsN_len _ _)
  tx0 := ⟨Int.le_refl _, Int.le_refl _⟩
  open_ := fun x hx => by cases hx
theorem AlI.good (h : AlI c n W tx s) : W.bad = false := by
  obtain ⟨G, w⟩ := h.wl
  exact w.good
theorem AlI.next (h : AlI c n W tx s) (hs : s ≤ 4000000000) (o : Opn) (m : Int) : (∃ G, WL (iT c.reads) (okS c) (W.step (iT c.reads) o m).2 G ((s + 1 : Nat) : Int)) ∧ (W.step (iT c.reads) o m).2.m.caps = c ∧ Cap (W.step (iT c.reads) o m).2.m ((s + 1 : Nat) : Int) 0 ∧ Bd (W.step (iT c.reads) o m).2 (s + 1) n := by
  obtain ⟨G, w⟩ := h.wl
  obtain ⟨G', w'⟩ := step_WL (iT_law c.reads) w (by omega) o m
  have hc := step_cap (I := iT c.reads) h.cap o m
  exact ⟨⟨G', by push_cast; exact w'⟩, by rw [step_caps]; exact h.caps, by push_cast; exact hc, h.bd.step o m⟩
theorem AlI.later (h : AlI c n W tx s) : AlI c n W tx (s + 1) := by
  obtain ⟨G, w⟩ := h.wl
  have hc := h.cap.later
  exact ⟨⟨G, by push_cast; exact w.later⟩, h.al, h.caps, by push_cast; exact hc, h.bd.later, h.tx0, h.open_⟩
theorem AlI.none (h : AlI c n W tx s) (hall : ∀ x ∈ W.list, x.over = true) : W.m.txs = [] := by
  obtain ⟨G, w⟩ := h.wl
  have ha := act_len w.mi
  have h0 : actW W.list = 0 := by
    unfold actW
    rw [List.length_eq_zero_iff, List.filter_eq_nil_iff]
    intro x hx
    rw [hall x hx]
    simp
  rcases h.al with e | ⟨t, e, hact, _⟩
  · exact e
  · unfold Sm.acts at ha
    rw [e, h0] at ha
    simp [hact] at ha
/-- none is under way -/
theorem AlI.closed (h : AlI c n W tx s) (hc : ¬ (0 < tx ∧ 0 ≤ ofR W.list tx)) : ∀ x ∈ W.list, x.over = true := by
  intro x hx
  cases ho : x.over with
  | true => rfl
  | false =>
    exfalso
    obtain ⟨G, w⟩ := h.wl
    have e := h.open_ x hx ho
    obtain ⟨i, hi⟩ := List.mem_iff_getElem?.1 hx
    have hn := w.mi.num i x hi
    rcases ofR_cases W.list tx with ⟨h1, h2⟩ | ⟨j, y, h1, _⟩
    · rw [h2 x hx e] at ho; cases ho
    · exact hc ⟨by omega, by omega⟩
theorem AlI.set (h : AlI c n W tx s) {W' : Wld St} {i : Nat} {x' : Run} (hl : W'.list = W.list.set i x') (hi : tx = (i : Int) + 1) {G : List Gh} {mom : Int} (w' : WL (iT c.reads) (okS c) W' G mom) : (0 ≤ tx ∧ tx ≤ W'.list.length) ∧ ∀ y ∈ W'.list, y.over = false → y.tx = tx := by
  refine ⟨⟨h.tx0.1, by rw [hl, List.length_set]; exact h.tx0.2⟩, fun y hy ho => ?_⟩
  obtain ⟨j, hj⟩ := List.mem_iff_getElem?.1 hy
  have hn := w'.mi.num j y hj
  rw [hl] at hj
  rcases set_cases hj with ⟨rfl, _⟩ | ⟨_, h2⟩
  · omega
  · exact h.open_ y (List.mem_of_getElem? h2) ho
theorem AlI.other (h : AlI c n W tx s) (hs : s ≤ 4000000000) (o : Opn) (m : Int) (ho : o.tx = tx) (hk : o.kind ≠ 0) : FullOr (W.step (iT c.reads) o m).1 ∧ AlI c n (W.step (iT c.reads) o m).2 tx (s + 1) ∧ (o.kind = 4 → (W.step (iT c.reads) o m).1 = 0 ∧ ∀ x ∈ (W.step (iT c.reads) o m).2.list, x.over = true) := by
  obtain ⟨⟨G', w'⟩, n2, n3, n4⟩ := h.next hs o m
  rcases ofR_cases W.list o.tx with ⟨hof, hno⟩ | ⟨i, x, hof, hx, hxt, hxo⟩
  · have e := step_none (I := iT c.reads) (m := m) hk hof
    have hcl := h.closed (fun hc => by rw [← ho] at hc; omega)
    rw [e]
    exact ⟨.inl rfl, h.later, fun _ => ⟨rfl, hcl⟩⟩
  · obtain ⟨G, w⟩ := h.wl
    have ht : o.tx = (i : Int) + 1 := by rw [← hxt]; exact w.mi.num i x hx
    by_cases kb : o.kind < 0 ∨ 5 < o.kind
    · rw [step_other kb]
      exact ⟨.inl rfl, h.later, fun hk4 => by omega⟩
    · obtain ⟨f1, f2, f3⟩ := op_one (iT_law c.reads) w (by omega) h.al (by rw [h.caps]; have := h.cap.caps; rw [h.caps] at this; exact this.2.2.1) hx hxo o ht
      have hst := step_op (I := iT c.reads) (m := m) (by omega) hof hx
      obtain ⟨x', hl, _⟩ := h.bd.opAt (I := iT c.reads) o hx
      have hx' : (W.list.set i x')[i]? = some x' := set_at hx
      have e1 : (W.step (iT c.reads) o m).1 = (W.opAt (iT c.reads) o i x).1 := by rw [hst]; split <;> rfl
      have e2 : (W.step (iT c.reads) o m).2.m = (W.opAt (iT c.reads) o i x).2.m := by rw [hst]; split <;> rfl
      have e3 : ∃ x2, (W.step (iT c.reads) o m).2.list = W.list.set i x2 := by
        rw [hst]
        split
        · refine ⟨overR x' m, ?_⟩
          show (W.opAt (iT c.reads) o i x).2.list.modify i (fun x => overR x m) = _
          rw [hl, modify_set hx', List.set_set]
        · exact ⟨x', hl⟩
      obtain ⟨x2, hl2⟩ := e3
      obtain ⟨s1, s2⟩ := h.set hl2 (by rw [← ho]; exact ht) w'
      refine ⟨by rw [e1]; exact f1, ⟨⟨G', w'⟩, by rw [e2]; exact f2, n2, n3, n4, s1, s2⟩, fun k4 => ⟨by rw [e1]; exact f3 k4, fun y hy => ?_⟩⟩
      have hl3 : (W.step (iT c.reads) o m).2.list = W.list.set i (overR x' m) := by
        rw [hst, if_pos (.inr (.inl k4))]
        show (W.opAt (iT c.reads) o i x).2.list.modify i (fun x => overR x m) = _
        rw [hl, modify_set hx', List.set_set]
      cases hyo : y.over with
      | true => rfl
      | false =>
        exfalso
        have e := s2 y hy hyo
        obtain ⟨j, hj⟩ := List.mem_iff_getElem?.1 hy
        have hn := w'.mi.num j y hj
        rw [hl3] at hj
        rcases set_cases hj with ⟨_, e4⟩ | ⟨h5, _⟩
        · rw [e4] at hyo; cases hyo
        · omega
theorem AlI.begins (h : AlI c n W tx s) (hs : s ≤ 4000000000) (o : Opn) (m : Int) (hk : o.kind = 0) (hall : ∀ x ∈ W.list, x.over = true) : (W.step (iT c.reads) o m).1 = 0 ∧ ∃ x, (W.step (iT c.reads) o m).2.list = W.list ++ [x] ∧ AlI c n (W.step (iT c.reads) o m).2 x.tx (s + 1) := by
  obtain ⟨⟨G', w'⟩, n2, n3, n4⟩ := h.next hs o m
  have hcap := h.cap.caps
  obtain ⟨b1, b2⟩ := begin_one (h.none hall) hcap.1 h.cap.last.1
  have hst : W.step (iT c.reads) o m = (0, { W with m := W.m.begin.2, list := W.list ++ [⟨W.m.begin.1.1, W.m.begin.1.2.1, m, 0, false, false, [], []⟩], bad := W.bad || W.m.begin.1.2.1 != W.m.begin.2.now }) := by
    unfold Wld.step
    rw [if_pos hk, if_pos b1]
  refine ⟨by rw [hst], ⟨W.m.begin.1.1, W.m.begin.1.2.1, m, 0, false, false, [], []⟩, by rw [hst], ⟨G', w'⟩, by rw [hst]; exact b2, n2, n3, n4, ?_, ?_⟩
  · have hl : (W.step (iT c.reads) o m).2.list[W.list.length]? = some ⟨W.m.begin.1.1, W.m.begin.1.2.1, m, 0, false, false, [], []⟩ := by rw [hst]; simp
    have hn := w'.mi.num _ _ hl
    have hlen : (W.step (iT c.reads) o m).2.list.length = W.list.length + 1 := by rw [hst]; simp
    rw [hlen]
    dsimp only at hn ⊢
    push_cast
    omega
  · intro y hy ho
    rw [hst] at hy
    rcases List.mem_append.1 hy with hy | hy
    · rw [hall y hy] at ho; cases ho
    · rw [List.mem_singleton.1 hy]
end
/-- without reads -/
structure UnI (c : Cp) (n : Nat) (W : Wld St) (s : Nat) : Prop where
  wl : ∃ G, WL (iT c.reads) (okS c) W G s
  nr : NR (iT c.reads) (okS c) W.m
  caps : W.m.caps = c
  cap : Cap W.m s 0
  bd : Bd W s n
theorem UnI.start {c : Cp} (h : mayC c = true) (xs : List Opn) : UnI c xs.length (W0 c xs) 0 where
  wl := ⟨[], WL.start c St0 _ ((okT c).2 (may_reads h)) (hasT _)⟩
  nr := ⟨(okT c).2 (may_reads h), hasT _, fun t ht => (by cases ht), fun t ht => (by cases ht), Int.le_refl _⟩
  caps := rfl
  cap := Cap.start c 0 h (Int.le_refl _)
  bd := Bd.start _ _ _ (rowsN_len _ _)
theorem UnI.good {c : Cp} {n s : Nat} {W : Wld St} (h : UnI c n W s) : W.bad = false := by
  obtain ⟨G, w⟩ := h.wl
  exact w.good
theorem UnI.step {c : Cp} {n s : Nat} {W : Wld St} (h : UnI c n W s) (hs : s ≤ 4000000000) (o : Opn) (m : Int) (hk : o.kind ≠ 1 ∧ o.kind ≠ 2) : UnI c n (W.step (iT c.reads) o m).2 (s + 1) ∧ (W.step (iT c.reads) o m).1 ≠ 100 := by
  obtain ⟨G, w⟩ := h.wl
  obtain ⟨G', w'⟩ := step_WL (iT_law c.reads) w (by omega) o m
  have hc := step_cap (I := iT c.reads) h.cap o m
  obtain ⟨r1, r2⟩ := NR.step (iT_law c.reads) h.nr o m hk
  exact ⟨⟨⟨G', by push_cast; exact w'⟩, r1, by rw [step_caps]; exact h.caps, by push_cast; exact hc, h.bd.step o m⟩, r2⟩
section
variable {w3 wr : World} {b q p : Nat} {U : Nat → Prop} {rv : Value}
/-- a step of a world at any count -/
theorem Lw.any {c : Cp} {n s : Nat} {W : Wld St} (h : Lw w3 b q p U rv W wr) (hc : W.m.caps = c) (hcap : Cap W.m s 0) (hB : Bd W s n) (hs : s ≤ 1048576) (hn : n ≤ 1048576) (o : Opn) (ho : o.OK) (m : Int) (g1 : W.bad = false) (g2 : (W.step (iT c.reads) o m).2.bad = false) :
    Calls Tryz.prog 19 #[ptr q, .agg #[.int .i64 o.kind, .int .i64 o.tx, .string o.at_.1, .string o.at_.2, .string o.to_, .int .i64 o.last], .int .i64 m] wr fun e w' => e = .returned (.int .i64 (W.step (iT c.reads) o m).1) ∧ Lw w3 b q p U rv (W.step (iT c.reads) o m).2 w' ∧ KeepW U wr w' := by
  obtain ⟨F', vv, lv, xs', H, kp⟩ := h
  have e1 := step_iT W.m.caps.reads W o m ho.at_.t ho.at_.k ho.to_
  rw [hc] at e1
  have D := do_calls H hcap (by omega) (by omega) hB hs hn o ho m g1 (by rw [hc, e1]; exact g2)
  rw [hc, e1] at D
  refine D.mono ?_
  rintro e2 w' ⟨rfl, F2, vv2, lv2, xs2, H2, k2⟩
  exact ⟨rfl, ⟨F2, vv2, lv2, xs2, H2, kp.trans k2⟩, k2⟩
end
end Go.Proofs.YthaoedfalkebbaaGreat
