/- Cut by a program out of the seat's texts (XL ZA ZB ZC): what the theorem needs, one behind the other. -/
import Derived.Test.YthaoedfalkebbaaGreatPCI
import Derived.Test.YthaoedfalkebbaaGreatPCK
import Derived.Test.YthaoedfalkebbaaGreatPCJ
import Derived.OwnWalk
import Derived.Laws.Rows
namespace Go.Proofs.YthaoedfalkebbaaGreat
open Go.RowKit Go.Maps Go.Sort Go.Lib
set_option linter.unusedVariables false
set_option linter.unusedSimpArgs false
set_option linter.unusedSectionVars false
instance rdOK (x : Rd) : Decidable x.OK := decidable_of_iff (x.t.size ≤ reachBytes ∧ (Lit.int .i64 x.k).wf = true ∧ x.f.size ≤ reachBytes ∧ x.u.size ≤ reachBytes) ⟨fun ⟨a, b, c, d⟩ => ⟨a, b, c, d⟩, fun h => ⟨h.t, h.k, h.f, h.u⟩⟩
/-- the machine's notes; a note that never comes is refused -/
def iT (most : Int) : RdI St := ⟨fun r t x => if x.OK then noteP r most t x else (4, r), fun r t => (dropP r t).2, readP, fun r t => !(ofP r t).isEmpty, fun r => r.n⟩
theorem noteS_iT (most : Int) (S : Sm St) (t : Tx) (x : Rd) (f u : ByteArray) (h : x.OK) : S.noteS (iS most) t x f u = S.noteS (iT most) t x f u := by
  have e : (iT most).note S.reads t.num x = (iS most).note S.reads t.num x := by
    show (if x.OK then noteP S.reads most t.num x else (4, S.reads)) = _
    rw [if_pos h]
    rfl
  unfold Sm.noteS
  rw [e]
  rfl
theorem cov_refl (a : Rd) : cov a a = true := by
  unfold cov
  rw [less_irrefl, less_irrefl]
  cases (spn a).2.2 <;> rfl
theorem cov_trans {a b c : Rd} (h : cov a b = true) (k : cov b c = true) : cov a c = true := by
  unfold cov at *
  simp only [Bool.and_eq_true, Bool.or_eq_true, Bool.not_eq_true'] at *
  obtain ⟨h1, h2⟩ := h
  obtain ⟨k1, k2⟩ := k
  refine ⟨le_trans' h1 k1, ?_⟩
  rcases h2 with h2 | ⟨h2, h3⟩
  · exact .inl h2
  · rw [h2] at k2
    rcases k2 with k2 | ⟨k2, k3⟩
    · cases k2
    · exact .inr ⟨k2, le_trans' k3 h3⟩
theorem cov_whole (t : ByteArray) (z : Rd) : cov (whole t) z = true := by
  have e : spn (whole t) = (⟨#[]⟩, ⟨#[]⟩, false) := by unfold spn whole; simp
  unfold cov
  rw [e]
  have : (⟨#[]⟩ : ByteArray).toList = [] := by rw [Lib.toList_data]
  simp only [this, less_nil]
  rfl
/-- some note at the place covers the note -/
def HasC (R : Pl → List Rd) (q : Pl) (z : Rd) : Prop := ∃ y ∈ R q, cov y z = true
theorem HasC.left {R : Pl → List Rd} {q : Pl} {z : Rd} (h : HasC R q z) (t : Int) (x : Rd) : HasC (put1 R (t, x.t) (left (R (t, x.t)) x)) q z := by
  obtain ⟨y, hy, hc⟩ := h
  unfold HasC
  by_cases e : q = (t, x.t)
  · rw [e] at hy ⊢
    rw [put1_same]
    cases hxy : cov x y with
    | true => exact ⟨x, by unfold YthaoedfalkebbaaGreat.left; simp, cov_trans hxy hc⟩
    | false => exact ⟨y, by unfold YthaoedfalkebbaaGreat.left; exact List.mem_append_left _ (List.mem_filter.2 ⟨hy, by simp [hxy]⟩), hc⟩
  · rw [put1_other _ _ e]
    exact ⟨y, hy, hc⟩
theorem HasC.whole {R : Pl → List Rd} {p : Pl} {z : Rd} (h : HasC R p z) (q : Pl) : HasC (put1 R q [YthaoedfalkebbaaGreat.whole q.2]) p z := by
  obtain ⟨y, hy, hc⟩ := h
  unfold HasC
  by_cases e : p = q
  · rw [e, put1_same]
    exact ⟨_, List.mem_singleton.2 rfl, cov_whole _ _⟩
  · rw [put1_other _ _ e]
    exact ⟨y, hy, hc⟩
/-- what Note leaves: nothing is lost -/
theorem noteP_keeps {S : St} (hI : InvK S) {most t : Int} {x : Rd} (hx : x.OK) {q : Pl} {z : Rd} (h : HasC S.R q z) : HasC (noteP S most t x).2.R q z := by
  unfold noteP
  split
  · exact h
  · rename_i h1
    simp only [not_or, Int.not_lt, Bool.not_eq_false] at h1
    split
    · exact h
    · rename_i h2
      split
      · exact h
      · rename_i R' n' he
        have hn := hI.note h1.1 hx h1.2 (by simpa using h2)
        exact (coarse_keeps (most := most) (fun R => HasC R q z) (fun R p hR _ => hR.whole p) _ _ _ R' n' (Nat.le_refl _) hn (h.left t x) he).2.1
theorem noteP_new {S : St} (hI : InvK S) {most t : Int} {x : Rd} (hx : x.OK) (h0 : (noteP S most t x).1 = 0) : HasC (noteP S most t x).2.R (t, x.t) x := by
  unfold noteP at h0 ⊢
  split
  · rename_i h1
    rw [if_pos h1] at h0
    cases h0
  · rename_i h1
    rw [if_neg h1] at h0
    simp only [not_or, Int.not_lt, Bool.not_eq_false] at h1
    split
    · rename_i h2
      obtain ⟨y, hy, hc⟩ := List.any_eq_true.1 h2
      exact ⟨y, hy, hc⟩
    · rename_i h2
      rw [if_neg h2] at h0
      split
      · rename_i he
        rw [he] at h0
        cases h0
      · rename_i R' n' he
        have hn := hI.note h1.1 hx h1.2 (by simpa using h2)
        refine (coarse_keeps (most := most) (fun R => HasC R (t, x.t) x) (fun R p hR _ => hR.whole p) _ _ _ R' n' (Nat.le_refl _) hn ?_ he).2.1
        exact ⟨x, by rw [put1_same]; unfold left; simp, cov_refl _⟩
theorem noteP_K {S : St} {most t : Int} {x : Rd} : ∀ q ∈ (noteP S most t x).2.K, q ∈ S.K ∨ q.1 = t := by
  intro q hq
  unfold noteP at hq
  split at hq
  · exact .inl hq
  · split at hq
    · exact .inl hq
    · split at hq
      · exact .inl hq
      · rcases mem_keysK.1 hq with rfl | h
        · exact .inr rfl
        · exact .inl h
theorem mem_readP {S : St} {tab key : ByteArray} {n : Int} : n ∈ readP S tab key ↔ ∃ q ∈ S.K, q.1 = n ∧ q.2.toList = tab.toList ∧ ∃ y ∈ S.R q, holdB y key = true := by
  unfold readP
  rw [(rise_spec _).2]
  constructor
  · intro h
    obtain ⟨q, hq, e⟩ := List.mem_map.1 h
    obtain ⟨h1, h2⟩ := List.mem_filter.1 hq
    rw [Bool.and_eq_true, List.any_eq_true] at h2
    exact ⟨q, h1, e, by simpa using h2.1, h2.2⟩
  · rintro ⟨q, h1, e, h2, h3⟩
    refine List.mem_map.2 ⟨q, List.mem_filter.2 ⟨h1, ?_⟩, e⟩
    rw [Bool.and_eq_true, List.any_eq_true]
    exact ⟨by simpa using h2, h3⟩
theorem has_iff {S : St} (h : InvK S) (n : Int) : (!(ofP S n).isEmpty) = true ↔ ∃ q ∈ S.K, q.1 = n := by
  unfold ofP
  rw [Bool.not_eq_true', ← Bool.not_eq_true, List.isEmpty_iff]
  constructor
  · intro h2
    by_cases e : ∃ q ∈ S.K, q.1 = n
    · exact e
    · exfalso
      apply h2
      have : S.K.filter (fun q => q.1 == n) = [] := by
        rw [List.filter_eq_nil_iff]
        intro q hq h3
        exact e ⟨q, hq, by simpa using h3⟩
      rw [this]
      rfl
  · rintro ⟨q, hq, e⟩ h2
    have hp := h.pos q hq
    apply hp
    have : ∀ z, z ∈ (S.K.filter (fun q => q.1 == n)).flatMap S.R → False := fun z hz => by rw [h2] at hz; cases hz
    cases hR : S.R q with
    | nil => rfl
    | cons z l => exact (this z (List.mem_flatMap.2 ⟨q, List.mem_filter.2 ⟨hq, by simpa using e⟩, by rw [hR]; exact List.mem_cons_self⟩)).elim
theorem dropP_inv {S : St} (h : InvK S) (t : Int) : InvK (dropP S t).2 := by
  unfold dropP
  split
  · exact h
  · exact dropS_inv h t
theorem dropP_le {S : St} (h : InvK S) (t : Int) : (dropP S t).2.n ≤ S.n := by
  unfold dropP
  split
  · exact Int.le_refl _
  · exact dropS_le h t
theorem iT_law (most : Int) : RdL (iT most) (fun r => InvK r ∧ r.n ≤ most) most where
  note_ok r t x h := by
    show InvK (if x.OK then noteP r most t x else (4, r)).2 ∧ (if x.OK then noteP r most t x else (4, r)).2.n ≤ most
    split
    · rename_i hx; exact noteP_inv h.1 hx h.2
    · exact h
  note_bad r t x h h0 := by
    change (if x.OK then noteP r most t x else (4, r)).1 ≠ 0 at h0
    show (if x.OK then noteP r most t x else (4, r)).2 = r
    split
    · rename_i hx
      rw [if_pos hx] at h0
      unfold noteP at h0 ⊢
      split
      · rfl
      · rename_i h1
        rw [if_neg h1] at h0
        split
        · rfl
        · rename_i h2
          rw [if_neg h2] at h0
          split
          · rfl
          · rename_i R' n' he
            rw [he] at h0
            exact absurd rfl h0
    · rfl
  note_err r t x h ht hm := by
    show (if x.OK then noteP r most t x else (4, r)).1 = 0 ∨ (if x.OK then noteP r most t x else (4, r)).1 = 4
    split
    · unfold noteP
      rw [if_neg (by rw [hm]; simp; omega)]
      split
      · exact .inl rfl
      · split
        · exact .inr rfl
        · exact .inl rfl
    · exact .inr rfl
  note_keep r t x tb key n h hn := by
    change n ∈ readP r tb key at hn
    show n ∈ readP (if x.OK then noteP r most t x else (4, r)).2 tb key
    split
    · rename_i hx
      rw [mem_readP] at hn ⊢
      obtain ⟨q, hq, e, h2, y, hy, h3⟩ := hn
      obtain ⟨z, hz, hc⟩ := noteP_keeps h.1 hx (most := most) (t := t) (x := x) ⟨y, hy, cov_refl y⟩
      have hI := noteP_inv h.1 hx h.2 (t := t)
      refine ⟨q, ?_, e, h2, z, hz, cov_holds hc h3⟩
      by_cases h4 : q ∈ (noteP r most t x).2.K
      · exact h4
      · rw [hI.1.off q h4] at hz; cases hz
    · exact hn
  note_new r t x key h h0 hh := by
    change (if x.OK then noteP r most t x else (4, r)).1 = 0 at h0
    show t ∈ readP (if x.OK then noteP r most t x else (4, r)).2 x.t key
    split
    · rename_i hx
      rw [if_pos hx] at h0
      obtain ⟨z, hz, hc⟩ := noteP_new h.1 hx h0
      have hI := noteP_inv h.1 hx h.2 (t := t)
      rw [mem_readP]
      refine ⟨(t, x.t), ?_, rfl, rfl, z, hz, cov_holds hc hh⟩
      by_cases h4 : (t, x.t) ∈ (noteP r most t x).2.K
      · exact h4
      · rw [hI.1.off _ h4] at hz; cases hz
    · rename_i hx
      rw [if_neg hx] at h0
      cases h0
  note_has r t x n h h0 := by
    change (!(ofP (if x.OK then noteP r most t x else (4, r)).2 n).isEmpty) = true at h0
    show (!(ofP r n).isEmpty) = true ∨ n = t
    split at h0
    · rename_i hx
      rw [has_iff (noteP_inv h.1 hx h.2 (t := t)).1] at h0
      obtain ⟨q, hq, e⟩ := h0
      rcases noteP_K q hq with h2 | h2
      · exact .inl ((has_iff h.1 n).2 ⟨q, h2, e⟩)
      · exact .inr (e.symm.trans h2)
    · exact .inl h0
  drop_ok r t h := ⟨dropP_inv h.1 t, Int.le_trans (dropP_le h.1 t) h.2⟩
  drop_rdrs r t tb key n h ht hne hn := by
    change n ∈ readP r tb key at hn
    show n ∈ readP (dropP r t).2 tb key
    rw [dropP_pos r ht]
    rw [mem_readP] at hn ⊢
    obtain ⟨q, hq, e, h2, y, hy, h3⟩ := hn
    refine ⟨q, List.mem_filter.2 ⟨hq, by simp; omega⟩, e, h2, y, ?_, h3⟩
    show y ∈ dropR r.R t q
    rw [dropR_other _ (by omega)]
    exact hy
  drop_has r t n h ht h0 := by
    change (!(ofP (dropP r t).2 n).isEmpty) = true at h0
    show (!(ofP r n).isEmpty) = true ∧ n ≠ t
    rw [has_iff (dropP_inv h.1 t)] at h0
    obtain ⟨q, hq, e⟩ := h0
    rw [dropP_pos r ht] at hq
    obtain ⟨h1, h2⟩ := List.mem_filter.1 hq
    have h2 : q.1 ≠ t := by simpa using h2
    exact ⟨(has_iff h.1 n).2 ⟨q, h1, e⟩, by omega⟩
  rdrs_has r tb key n h hn := by
    change n ∈ readP r tb key at hn
    show (!(ofP r n).isEmpty) = true
    obtain ⟨q, hq, e, _⟩ := mem_readP.1 hn
    exact (has_iff h.1 n).2 ⟨q, hq, e⟩
  len_le r h := h.2
  len_none r h h0 := by
    show r.n = 0
    have e : r.K = [] := by
      cases hK : r.K with
      | nil => rfl
      | cons q K =>
        have h2 : (!(ofP r q.1).isEmpty) = true := (has_iff h.1 q.1).2 ⟨q, by rw [hK]; exact List.mem_cons_self, rfl⟩
        have h3 : (!(ofP r q.1).isEmpty) = false := h0 q.1
        rw [h2] at h3
        cases h3
    rw [h.1.sum, e]
    rfl
end Go.Proofs.YthaoedfalkebbaaGreat
namespace Go.Proofs.YthaoedfalkebbaaGreat
open Go.RowKit Go.Maps Go.Sort Go.Lib Go.Shelf Go.Proofs.YthaoedfalkebbaaGreatW.PrintWords Go.Proofs.YthaoedfalkebbaaGreatW.PrintLast Go.Proofs.YthaoedfalkebbaaGreatW.PrintMore
set_option linter.unusedVariables false
set_option linter.unusedSimpArgs false
set_option linter.unusedSectionVars false
theorem fld60 (x y z k : Int) (w : World) : (Instr.field 60 (.agg #[.int .i64 x, .int .i64 y, .int .i64 z, .int .i64 k]) 3).run Tryz.prog w = .ok (.int .i64 k) w := by kernel_rfl
theorem Pm.ownLow {w : World} {base : Nat} {l : Loc} {S : Sm St} (h : Pm w base l S) : ∀ k, l.own S.txs k → base ≤ k := by
  intro k hk
  obtain ⟨h1, h2, h3, h4, h5, h6⟩ := h.low
  rcases hk with rfl | rfl | rfl | rfl | rfl | ⟨t, ht, rfl⟩
  · exact h1
  · exact h2
  · exact h4
  · exact h.reads.low
  · exact h5
  · exact h6 t ht
/-- ahead of the manager nothing changes -/
theorem StQ.below {base : Nat} {l : Loc} {S S' : Sm St} {w w' : World} (h : StQ base l S S' w w') (P : Pm w base l S) (hb : base ≤ w.heap.size) : Below base w w' := by
  obtain ⟨l', _, _, _, F, _⟩ := h
  exact F.below hb P.ownLow
def bgC : Cp := ⟨2, 2, 2, 2⟩
def bg1 : Sm St := begS (S0 bgC 5)
theorem bg_begin : (S0 bgC 5).begin = ((1, 5, 0), bg1) := rfl
theorem bg_write (a : Lk) : bg1.write (iS 2) 1 a 0 = (0, { bg1 with locks := [(a, 1)] }) := by
  unfold Sm.write
  have e : bg1.actv 1 = some (newT (S0 bgC 5)) := rfl
  rw [e]
  dsimp only
  rw [if_neg (by decide), if_neg (by simp [bg1, begS, S0, holder])]
  have e2 : tk bg1.caps.locks bg1.locks 1 (newT (S0 bgC 5)).snap 0 a = (0, [(a, 1)]) := rfl
  rw [e2]
  dsimp only
  rw [if_neg (by simp)]
  have e3 : bg1.txs.any (fun o => concB (newT (S0 bgC 5)) o && (!o.act && decide (a ∈ o.wrote))) = false := rfl
  rw [if_neg (by rw [e3]; decide)]
  refine put_nil (I := iS 2) { bg1 with locks := [(a, 1)] } (newT (S0 bgC 5)) false (.inl rfl) _ (fun o ho => ?_)
  refine decide_eq_false (fun hm => ?_)
  obtain ⟨q, hq, _⟩ := mem_readP.1 (show o.num ∈ readP St0 a.1 a.2 from hm)
  cases hq
theorem bg_cap0 : Cap (S0 bgC 5) 0 5 := Cap.start bgC 5 (by decide) (by decide)
theorem bg_cap1 : Cap bg1 1 5 := bg_cap0.begin
set_option maxHeartbeats 16000000 in
set_option maxRecDepth 100000 in
theorem begun_calls (w : World) : Calls Tryz.prog 11 #[] w fun e w' => e = .returned (.bool true) ∧ Below w.heap.size w w' := by
  have NW := New_s bgC 5 w.heap.size (fun _ => False) w (Nat.le_refl _) (by decide) (by decide)
  have BG : ∀ l W, Pm W w.heap.size l (S0 bgC 5) → Calls Tryz.prog 13 #[ptr l.p] W fun e w' => e = .returned (.tuple #[.int .i64 1, .int .i64 5, .int .i64 0]) ∧ ∃ l' : Loc, l'.p = l.p ∧ Pm w' w.heap.size l' bg1 ∧ (w.heap.size ≤ W.heap.size → Below w.heap.size W w') := fun l W P => by
    have := Begin_s w.heap.size l (S0 bgC 5) W 0 5 P bg_cap0 (by decide)
    rw [bg_begin] at this
    refine this.mono ?_
    rintro e w' ⟨rfl, hS⟩
    have hS2 := hS
    obtain ⟨l', h1, h2, h3, h4⟩ := hS
    exact ⟨rfl, l', h1, h3, fun hb => hS2.below P hb⟩
  have WR : ∀ l W (s u : ByteArray), Pm W w.heap.size l bg1 → s.size ≤ reachBytes → u.size ≤ reachBytes → Calls Tryz.prog 15 #[ptr l.p, .int .i64 1, .agg #[.string s, .string u], .int .i64 0] W fun e w' => e = .returned (.int .i64 0) ∧ ∃ l' : Loc, l'.p = l.p ∧ Pm w' w.heap.size l' { bg1 with locks := [((s, u), 1)] } ∧ (w.heap.size ≤ W.heap.size → Below w.heap.size W w') := fun l W s u P h1 h2 => by
    have := Write_s w.heap.size l bg1 1 (s, u) 0 W 1 5 P bg_cap1 (by show (Lit.int .i64 1).wf = true; decide) ⟨h1, h2⟩
    refine this.mono ?_
    intro e w' hQ
    obtain ⟨h3, hS⟩ := hQ.st (write_nums _ _ _ _)
    have e1 := bg_write (s, u)
    rw [show bg1.caps.reads = 2 from rfl, e1] at h3 hS
    have hS2 := hS
    obtain ⟨l', g1, g2, g3, g4⟩ := hS
    exact ⟨h3, l', g1, g3, fun hb => hS2.below P hb⟩
  have TR : ∀ l W (s u : ByteArray), Pm W w.heap.size l { bg1 with locks := [((s, u), 1)] } → Calls Tryz.prog 24 #[ptr l.p] W fun e w' => ∃ x y z, e = .returned (.agg #[.int .i64 x, .int .i64 y, .int .i64 z, .int .i64 1]) ∧ Below W.heap.size W w' := fun l W s u P => by
    have := Tracked_s w.heap.size l _ W 1 5 P (bg_cap1.lks (by show ((1 : Nat) : Int) ≤ 2; decide))
    refine this.mono ?_
    rintro e w' ⟨rfl, h2⟩
    exact ⟨_, _, _, rfl, h2⟩
  replace BG := Aside0.mk BG
  replace WR := Aside0.mk WR
  replace TR := Aside0.mk TR
  unfold bgC Cp.cells at NW
  dsimp only at NW
  go_enter Tryz.func11, Tryz.ntmps11
  go_wp2_with fail
  refine NW.mono ?_
  rintro e w1 ⟨l, rfl, P1, B1, -, -⟩
  have BG1 := BG.out l w1 P1
  obtain ⟨p, hp⟩ : ∃ p, p = l.p := ⟨_, rfl⟩
  rw [← hp] at BG1 ⊢
  clear NW P1 hp
  go_wp2_with fail
  refine BG1.mono ?_
  rintro e w2 ⟨rfl, l2, e2, P2, B2⟩
  have B2' := B1.trans (B2 B1.size)
  have WR2 := fun s u => WR.out l2 w2 s u P2
  rw [e2] at WR2
  clear BG1 B2 P2
  replace e2 := Aside0.mk e2
  go_wp2_with fail
  refine (WR2 _ _ (by decide) (by decide)).mono ?_
  rintro e w3 ⟨rfl, l3, e3, P3, B3⟩
  have B3' := B2'.trans (B3 B2'.size)
  have TR2 := TR.out l3 w3 _ _ P3
  rw [e3] at TR2
  clear WR2 B3 P3 e3 e2
  go_wp2_with fail
  refine TR2.mono ?_
  rintro e w4 ⟨x, y, z, rfl, B4⟩
  clear TR2
  have B4' := below_then B3' B3'.size B4
  have hf := fld60 x y z 1 w4
  go_wp2
  go_ret
  exact ⟨rfl, B4'⟩
end Go.Proofs.YthaoedfalkebbaaGreat
namespace Go.Proofs.YthaoedfalkebbaaGreat
open Go.RowKit Go.Maps Go.Sort Go.Lib Go.Shelf Go.Proofs.YthaoedfalkebbaaGreatW.PrintWords Go.Proofs.YthaoedfalkebbaaGreatW.PrintLast Go.Proofs.YthaoedfalkebbaaGreatW.PrintMore
set_option linter.unusedVariables false
set_option linter.unusedSimpArgs false
set_option linter.unusedSectionVars false
structure Opn.OK (x : Opn) : Prop where
  kind : (Lit.int .i64 x.kind).wf = true
  tx : okN x.tx
  at_ : LkOK x.at_
  to_ : x.to_.size ≤ reachBytes
  last : (Lit.int .i64 x.last).wf = true
end Go.Proofs.YthaoedfalkebbaaGreat
namespace Go.Proofs.YthaoedfalkebbaaGreat
open Go.ChangeShapes Go.WideShapes Go.ChangeAt Go.RowKit Go.Lib Go.Proofs.YthaoedfalkebbaaGreatW.PrintWords Go.Proofs.YthaoedfalkebbaaGreatW.PrintLast Go.Proofs.YthaoedfalkebbaaGreatW.PrintMore
open Go.Deep (open_slice)
set_option linter.unusedVariables false
set_option linter.unusedSimpArgs false
set_option linter.unusedSectionVars false
theorem cellsT2 : Tryz.prog.cellsOf 2 = 1 := by kernel_rfl
theorem cellsT3 : Tryz.prog.cellsOf 3 = 1 := by kernel_rfl
theorem cells9' : Tryz.prog.cellsOf 9 = 1 := by kernel_rfl
theorem cells23' : Tryz.prog.cellsOf 23 = 2 := by kernel_rfl
section
variable {H : Type} {enc : TypeId × Value → H} {w : World} {base : Nat} {spare : Nat → Bool} {held : Bool}
set_option maxRecDepth 100000 in
theorem opens_lk {fuel : Nat} {cs : List Value} {y : DataW H × List MemPlace} (h : DataW.trod enc Tryz.prog w base spare held fuel 23 cs = some y) (hl : Light Tryz.prog 23 y.1) : ∃ a : Lk, cs = [.string a.1, .string a.2] ∧ LkOK a := by
  obtain ⟨hc, hf⟩ := opens_fields Tryz.underlying23 h hl
  have hc2 : cs.length = 2 := hc.trans cells23'
  match cs, hc2 with
  | [v0, v1], _ =>
    have f0 : FldAt enc Tryz.prog w base spare held [v0, v1] 9 0 := hf 0 _ rfl
    obtain ⟨n0, y0, t0, g0⟩ := f0
    have f1 : FldAt enc Tryz.prog w base spare held [v0, v1] 9 1 := hf 1 _ rfl
    obtain ⟨n1, y1, t1, g1⟩ := f1
    simp only [cells9', List.drop_zero, List.drop_succ_cons, List.take_succ_cons, List.take_zero] at t0 t1
    obtain ⟨s, e0, w0⟩ := opens_string Tryz.underlying9 _ _ _ t0 g0
    obtain ⟨u, e1, w1⟩ := opens_string Tryz.underlying9 _ _ _ t1 g1
    cases e0; cases e1
    exact ⟨(s, u), rfl, w0, w1⟩
def encOn (o : Opn) : List Value := [.int .i64 o.kind, .int .i64 o.tx, .string o.at_.1, .string o.at_.2, .string o.to_, .int .i64 o.last]
abbrev dOn : Kd Opn := Kd.flat encOn 6 (fun _ => rfl) (fun o u hu => by simp only [encOn, List.mem_cons, List.not_mem_nil, or_false] at hu; rcases hu with rfl | rfl | rfl | rfl | rfl | rfl <;> rfl)
set_option maxRecDepth 100000 in
theorem opens_opn : Opens enc Tryz.prog w base spare held 36 dOn Opn.OK := by
  intro fuel cs y h hl
  obtain ⟨hc, hf⟩ := opens_fields Tryz.underlying36 h hl
  have hc6 : cs.length = 6 := hc.trans (by kernel_rfl)
  match cs, hc6 with
  | [v0, v1, v2, v3, v4, v5], _ =>
    have f0 : FldAt enc Tryz.prog w base spare held [v0, v1, v2, v3, v4, v5] 3 0 := hf 0 _ rfl
    obtain ⟨n0, y0, t0, g0⟩ := f0
    have f1 : FldAt enc Tryz.prog w base spare held [v0, v1, v2, v3, v4, v5] 2 1 := hf 1 _ rfl
    obtain ⟨n1, y1, t1, g1⟩ := f1
    have f2 : FldAt enc Tryz.prog w base spare held [v0, v1, v2, v3, v4, v5] 23 2 := hf 2 _ rfl
    obtain ⟨n2, y2, t2, g2⟩ := f2
    have f3 : FldAt enc Tryz.prog w base spare held [v0, v1, v2, v3, v4, v5] 9 4 := hf 3 _ rfl
    obtain ⟨n3, y3, t3, g3⟩ := f3
    have f4 : FldAt enc Tryz.prog w base spare held [v0, v1, v2, v3, v4, v5] 2 5 := hf 4 _ rfl
    obtain ⟨n4, y4, t4, g4⟩ := f4
    simp only [cellsT2, cellsT3, cells9', cells23', List.drop_zero, List.drop_succ_cons, List.take_succ_cons, List.take_zero] at t0 t1 t2 t3 t4
    obtain ⟨a0, e0, w0⟩ := opens_int (k := .i64) Tryz.underlying3 _ _ _ t0 g0
    obtain ⟨a1, e1, w1⟩ := opens_int (k := .i64) Tryz.underlying2 _ _ _ t1 g1
    obtain ⟨a2, e2, w2⟩ := opens_lk t2 g2
    obtain ⟨a3, e3, w3⟩ := opens_string Tryz.underlying9 _ _ _ t3 g3
    obtain ⟨a4, e4, w4⟩ := opens_int (k := .i64) Tryz.underlying2 _ _ _ t4 g4
    cases e0; cases e1; cases e2; cases e3; cases e4
    exact ⟨⟨a0, a1, a2, a3, a4⟩, rfl, ⟨w0, w1, w2, w3, w4⟩⟩
structure Cp.OK (c : Cp) : Prop where
  a : (Lit.int .i64 c.active).wf = true
  k : (Lit.int .i64 c.kept).wf = true
  r : (Lit.int .i64 c.reads).wf = true
  l : (Lit.int .i64 c.locks).wf = true
set_option maxRecDepth 100000 in
theorem open_cp {ts : List TypeId} {ds : List (DataW H)} (hsz : (DataW.weightsEach Tryz.prog ts ds).all (· ≤ reachBytes) = true) {j : Nat} {r : Reach} {b0 : Nat} {v : Value} {d : DataW H} {p : List MemPlace} (ht : ts[j]? = some 31) (hd : ds[j]? = some d)
    (hv : Value.okWide Tryz.prog w r b0 31 v) (h : DataW.Trod enc Tryz.prog w base spare held 31 v d p) : ∃ c : Cp, v = .agg c.cells ∧ c.OK := by
  obtain ⟨cs, rfl, hc, hf⟩ := opens_param Tryz.underlying31 hv h (light_of hsz ht hd)
  have hc4 : cs.length = 4 := hc.trans (by kernel_rfl)
  match cs, hc4 with
  | [v0, v1, v2, v3], _ =>
    have f0 : FldAt enc Tryz.prog w base spare held [v0, v1, v2, v3] 3 0 := hf 0 _ rfl
    obtain ⟨n0, y0, t0, g0⟩ := f0
    have f1 : FldAt enc Tryz.prog w base spare held [v0, v1, v2, v3] 3 1 := hf 1 _ rfl
    obtain ⟨n1, y1, t1, g1⟩ := f1
    have f2 : FldAt enc Tryz.prog w base spare held [v0, v1, v2, v3] 3 2 := hf 2 _ rfl
    obtain ⟨n2, y2, t2, g2⟩ := f2
    have f3 : FldAt enc Tryz.prog w base spare held [v0, v1, v2, v3] 3 3 := hf 3 _ rfl
    obtain ⟨n3, y3, t3, g3⟩ := f3
    simp only [cellsT3, List.drop_zero, List.drop_succ_cons, List.take_succ_cons, List.take_zero] at t0 t1 t2 t3
    obtain ⟨a0, e0, w0⟩ := opens_int (k := .i64) Tryz.underlying3 _ _ _ t0 g0
    obtain ⟨a1, e1, w1⟩ := opens_int (k := .i64) Tryz.underlying3 _ _ _ t1 g1
    obtain ⟨a2, e2, w2⟩ := opens_int (k := .i64) Tryz.underlying3 _ _ _ t2 g2
    obtain ⟨a3, e3, w3⟩ := opens_int (k := .i64) Tryz.underlying3 _ _ _ t3 g3
    cases e0; cases e1; cases e2; cases e3
    exact ⟨⟨a0, a1, a2, a3⟩, rfl, ⟨w0, w1, w2, w3⟩⟩
structure Scp where
  A : Option Addr
  c : Nat
  xs : List Opn
def Scp.val (z : Scp) : Value := .slice z.A z.xs.length z.c
structure Scp.OK (z : Scp) (w : World) : Prop where
  reads : dOn.C w z.A z.xs.length z.xs
  ops : ∀ x ∈ z.xs, x.OK
  len : z.xs.length * 72 ≤ reachBytes
set_option maxRecDepth 100000 in
theorem open_scp {ts : List TypeId} {ds : List (DataW H)} (hsz : (DataW.weightsEach Tryz.prog ts ds).all (· ≤ reachBytes) = true) {j : Nat} {r : Reach} {b0 : Nat} {v : Value} {d : DataW H} {p : List MemPlace} (ht : ts[j]? = some 24) (hd : ds[j]? = some d)
    (hv : Value.okWide Tryz.prog w r b0 24 v) (h : DataW.Trod enc Tryz.prog w base spare held 24 v d p) : ∃ z : Scp, v = z.val ∧ z.OK w := by
  obtain ⟨a, n, c, rfl⟩ := okWide_slice Tryz.underlying24 hv
  obtain ⟨fuel, hf⟩ := h
  obtain ⟨A, c', xs, e, h1, h2, h3, h4, h5⟩ := opens_C (d := dOn) Tryz.underlying24 (by kernel_rfl) opens_opn hf (light_of hsz ht hd)
  simp [Value.cells] at e
  obtain ⟨rfl, rfl, rfl⟩ := e
  refine ⟨⟨a, c, xs⟩, rfl, h3, h5, ?_⟩
  have hb : Tryz.prog.bytesOf 36 = 72 := by kernel_rfl
  rw [hb] at h4
  exact h4
end
end Go.Proofs.YthaoedfalkebbaaGreat
