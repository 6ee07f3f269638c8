import Derived.Test.YteikmnokmcnmcaaGreatMH
namespace Go.Proofs.YteikmnokmcnmcaaGreat
open Go.RowKit Go.Maps Go.Sort Go.Lib Go.Proofs.YteikmnokmcnmcaaGreatW.PrintWords Go.Proofs.YteikmnokmcnmcaaGreatW.PrintLast Go.Proofs.YteikmnokmcnmcaaGreatW.PrintMore
set_option linter.unusedVariables false
set_option linter.unusedSimpArgs false
set_option linter.unusedSectionVars false
/-! ### program and document, plain -/
/-- the notes of the program's manager are the document's -/
structure Rel (S : St) (N : List Nt) : Prop where
  rows : ∀ q, S.R q = (N.filter (fun a => decide (plN a = q))).map (·.2)
  size : S.n = (N.length : Nat)
theorem Rel.empty : Rel St0 [] := ⟨fun _ => rfl, rfl⟩
theorem atPl_eq (q : Pl) (a : Nt) : atPl q.1 q.2 a = decide (plN a = q) := by
  unfold atPl plN
  rw [Bool.eq_iff_iff]
  simp only [Bool.and_eq_true, beq_iff_eq, decide_eq_true_eq]
  constructor
  · rintro ⟨h1, h2⟩
    exact Prod.ext h1 (toList_inj h2)
  · rintro rfl
    exact ⟨rfl, rfl⟩
theorem Rel.cnt {S : St} {N : List Nt} (h : Rel S N) (a : Nt) : cnt N a = (S.R (plN a)).length := by
  rw [h.rows, List.length_map]
  unfold YteikmnokmcnmcaaGreat.cnt countN
  congr 1
  exact List.filter_congr (fun b _ => atPl_eq (plN a) b)
theorem Rel.mem_K {S : St} {N : List Nt} (hI : InvK S) (h : Rel S N) (q : Pl) : q ∈ S.K ↔ ∃ a ∈ N, plN a = q := by
  constructor
  · intro hq
    have h1 := hI.pos q hq
    rw [h.rows] at h1
    obtain ⟨y, hy⟩ := List.exists_mem_of_ne_nil _ h1
    obtain ⟨a, ha, _⟩ := List.mem_map.1 hy
    rw [List.mem_filter] at ha
    exact ⟨a, ha.1, by simpa using ha.2⟩
  · rintro ⟨a, ha, e⟩
    refine Classical.byContradiction fun hq => ?_
    have h1 := hI.off q hq
    rw [h.rows] at h1
    have : a.2 ∈ (N.filter (fun a => decide (plN a = q))).map (·.2) := List.mem_map.2 ⟨a, List.mem_filter.2 ⟨ha, by simpa using e⟩, rfl⟩
    rw [h1] at this
    cases this
theorem crs_first (n : Pl → Nat) : ∀ (ks : List Pl) (s : Pl × Nat), crs n s ks = s ∨ ∃ pre q suf, ks = pre ++ q :: suf ∧ crs n s ks = (q, n q) ∧ s.2 < n q ∧ ∀ p ∈ pre, n p < n q
  | [], s => .inl rfl
  | q :: ks, s => by
    have e : crs n s (q :: ks) = crs n (if s.2 < n q then (q, n q) else s) ks := rfl
    rw [e]
    by_cases h : s.2 < n q
    · rw [if_pos h]
      rcases crs_first n ks (q, n q) with h1 | ⟨pre, p, suf, h1, h2, h3, h4⟩
      · exact .inr ⟨[], q, ks, rfl, h1, h, by simp⟩
      · refine .inr ⟨q :: pre, p, suf, by rw [h1]; rfl, h2, Nat.lt_trans h h3, fun x hx => ?_⟩
        rcases List.mem_cons.1 hx with rfl | hx
        · exact h3
        · exact h4 x hx
    · rw [if_neg h]
      rcases crs_first n ks s with h1 | ⟨pre, p, suf, h1, h2, h3, h4⟩
      · exact .inl h1
      · refine .inr ⟨q :: pre, p, suf, by rw [h1]; rfl, h2, h3, fun x hx => ?_⟩
        rcases List.mem_cons.1 hx with rfl | hx
        · omega
        · exact h4 x hx
/-- the place that the document makes coarse is the program's -/
theorem pick_of_CS {S : St} {N : List Nt} (hI : InvK S) (h : Rel S N) {b m : Int} (hc : CS N N.length b m) :
    (b = -1 ∧ ¬ 1 < (pick S.K S.R).2) ∨ ∃ (k : Nat) (hk : k < N.length), b = (k : Int) ∧ 1 < (pick S.K S.R).2 ∧ (pick S.K S.R).1 = plN N[k] := by
  have hmax := crs_max (fun q => (S.R q).length) (srtC cmpPl S.K) (pl0, 1)
  have hperm := srtC_perm (c := cmpPl) S.K
  have hall : ∀ i (hi : i < N.length), YteikmnokmcnmcaaGreat.cnt N N[i] ≤ (pick S.K S.R).2 := fun i hi => by
    rw [h.cnt]
    exact hmax.2 _ (hperm.mem_iff.2 ((h.mem_K hI _).2 ⟨_, List.getElem_mem hi, rfl⟩))
  rcases hc with ⟨rfl, rfl, hle⟩ | ⟨k, hk, _, rfl, rfl, h2, hbest⟩
  · refine .inl ⟨rfl, fun hgt => ?_⟩
    obtain ⟨h1, h2⟩ := pick_inK hgt
    obtain ⟨a, ha, e⟩ := (h.mem_K hI _).1 h1
    obtain ⟨i, hi, rfl⟩ := List.mem_iff_getElem.1 ha
    have := hle i hi hi
    rw [h.cnt, e, ← h2] at this
    omega
  · have hgt : 1 < (pick S.K S.R).2 := by have := hall k hk; omega
    refine .inr ⟨k, hk, rfl, hgt, ?_⟩
    rcases crs_first (fun q => (S.R q).length) (srtC cmpPl S.K) (pl0, 1) with e | ⟨pre, q, suf, hks, e, _, hpre⟩
    · have : (pick S.K S.R).2 = 1 := by unfold pick; rw [e]
      omega
    · have e1 : (pick S.K S.R).1 = q := by unfold pick; rw [e]
      have e2 : (pick S.K S.R).2 = (S.R q).length := by unfold pick; rw [e]
      rw [e1]
      have hqK : q ∈ S.K := hperm.mem_iff.1 (by rw [hks]; simp)
      obtain ⟨a, ha, ea⟩ := (h.mem_K hI _).1 hqK
      obtain ⟨i, hi, rfl⟩ := List.mem_iff_getElem.1 ha
      have hi2 := hall k hk
      have hb := hbest i hi hi
      have hci : YteikmnokmcnmcaaGreat.cnt N N[i] = (S.R q).length := by rw [h.cnt, ea]
      have h5 := hb.2 (by omega)
      rw [ea] at h5
      have hkK : plN N[k] ∈ srtC cmpPl S.K := hperm.mem_iff.2 ((h.mem_K hI _).2 ⟨_, List.getElem_mem hk, rfl⟩)
      have hck : (S.R (plN N[k])).length = (S.R q).length := by
        have := h.cnt N[k]
        omega
      have hsort := srtC_rising ord_Pl S.K
      rw [hks, List.pairwise_append] at hsort
      rw [hks, List.mem_append] at hkK
      have h6 : cmpPl q (plN N[k]) ≤ 0 := by
        rcases hkK with hm | hm
        · have hh : (S.R (plN N[k])).length < (S.R q).length := hpre _ hm
          omega
        · rcases List.mem_cons.1 hm with e | hm
          · rw [e, ord_Pl.refl]; omega
          · exact (List.pairwise_cons.1 hsort.2.1).1 _ hm
      refine cmpPl_eq ?_
      have := ord_Pl.anti q (plN N[k])
      have := ord_Pl.anti (plN N[k]) q
      omega
theorem filter_part {α : Type} (p q : α → Bool) : ∀ l : List α, (l.filter p).length = (l.filter (fun a => p a && q a)).length + (l.filter (fun a => p a && !q a)).length
  | [] => rfl
  | a :: l => by
    have ih := filter_part p q l
    simp only [List.filter_cons]
    cases p a <;> cases q a <;> simp <;> omega
theorem filter_part1 {α : Type} (q : α → Bool) : ∀ l : List α, l.length = (l.filter q).length + (l.filter (fun a => !q a)).length
  | [] => rfl
  | a :: l => by
    have ih := filter_part1 q l
    simp only [List.filter_cons, List.length_cons]
    cases q a <;> simp <;> omega
theorem any_eq {α : Type} {f g : α → Bool} : ∀ {l : List α}, (∀ a ∈ l, f a = g a) → l.any f = l.any g
  | [], _ => rfl
  | a :: l, h => by rw [List.any_cons, List.any_cons, h a List.mem_cons_self, any_eq (fun b hb => h b (List.mem_cons_of_mem _ hb))]
theorem flat_eq {α β : Type} {f g : α → List β} : ∀ {l : List α}, (∀ a ∈ l, f a = g a) → l.flatMap f = l.flatMap g
  | [], _ => rfl
  | a :: l, h => by rw [List.flatMap_cons, List.flatMap_cons, h a List.mem_cons_self, flat_eq (fun b hb => h b (List.mem_cons_of_mem _ hb))]
theorem parts_perm : ∀ (K : List Pl) (M : List Nt), K.Nodup → (∀ a ∈ M, plN a ∈ K) → (K.flatMap fun q => (M.filter (fun a => decide (plN a = q))).map (·.2)).Perm (M.map (·.2))
  | [], M, _, hm => by
    have : M = [] := List.eq_nil_iff_forall_not_mem.2 (fun a ha => by have := hm a ha; cases this)
    subst this
    exact List.Perm.refl _
  | q :: K, M, hK, hm => by
    rw [List.nodup_cons] at hK
    have ih := parts_perm K (M.filter (fun a => !decide (plN a = q))) hK.2 (fun a ha => by
      rw [List.mem_filter] at ha
      have h1 := hm a ha.1
      have h2 : ¬ plN a = q := by simpa using ha.2
      exact (List.mem_cons.1 h1).resolve_left h2)
    rw [List.flatMap_cons]
    have h1 : (K.flatMap fun p => ((M.filter (fun a => !decide (plN a = q))).filter (fun a => decide (plN a = p))).map (·.2)) = (K.flatMap fun p => (M.filter (fun a => decide (plN a = p))).map (·.2)) := by
      refine flat_eq fun p hp => ?_
      rw [List.filter_filter]
      congr 1
      refine List.filter_congr fun a _ => ?_
      by_cases e : plN a = p
      · have : ¬ plN a = q := by rintro e2; rw [← e, e2] at hp; exact hK.1 hp
        simp [e, this]
        exact fun e3 => hK.1 (e3 ▸ hp)
      · simp [e]
    rw [h1] at ih
    refine (List.Perm.append_left _ ih).trans ?_
    rw [← List.map_append]
    exact (List.filter_append_perm _ M).map _
theorem plN_whole (q : Pl) : plN (q.1, whole q.2) = q := rfl
/-- made coarse, here and there -/
theorem Rel.whole {S : St} {N : List Nt} (h : Rel S N) (q : Pl) {m : Nat} (hm : m = (S.R q).length) : Rel ⟨S.K, put1 S.R q [whole q.2], S.n - ((m : Int) - 1)⟩ (coarseN N q.1 q.2) where
  rows p := by
    show put1 S.R q [YteikmnokmcnmcaaGreat.whole q.2] p = _
    unfold coarseN
    rw [List.filter_append, List.map_append, List.filter_filter]
    by_cases e : p = q
    · subst e
      rw [put1_same]
      have : N.filter (fun a => decide (plN a = p) && !atPl p.1 p.2 a) = [] := by
        rw [List.filter_eq_nil_iff]
        intro a _
        rw [atPl_eq]
        cases decide (plN a = p) <;> simp
      rw [this]
      simp [plN_whole]
    · rw [put1_other _ _ e, h.rows]
      have h1 : N.filter (fun a => decide (plN a = p) && !atPl q.1 q.2 a) = N.filter (fun a => decide (plN a = p)) := by
        refine List.filter_congr fun a _ => ?_
        rw [atPl_eq]
        by_cases e2 : plN a = p
        · have : plN a ≠ q := fun e3 => e (e2.symm.trans e3)
          simp [e2, this, e]
        · simp [e2]
      rw [h1]
      have h2 : decide (plN (q.1, YteikmnokmcnmcaaGreat.whole q.2) = p) = false := by rw [plN_whole]; simpa using fun e' => e e'.symm
      simp [List.filter_cons, h2]
  size := by
    show S.n - ((m : Int) - 1) = _
    unfold coarseN
    rw [List.length_append, List.length_singleton, h.size, hm, h.rows, List.length_map]
    have := filter_part1 (fun a => atPl q.1 q.2 a) N
    have e : (N.filter (fun a => atPl q.1 q.2 a)).length = (N.filter (fun a => decide (plN a = q))).length := by
      congr 1
      exact List.filter_congr fun a _ => atPl_eq q a
    omega
def heldN (N : List Nt) (t : Int) (x : Rd) : Bool := N.any (fun a => (a.1 == t) && covB a.2 x)
def leftN (N : List Nt) (t : Int) (x : Rd) : List Nt := N.filter (fun a => !((a.1 == t) && covB x a.2)) ++ [(t, x)]
theorem covB_may {a b : Rd} (ha : mayB a = true) (hb : mayB b = true) (ht : a.t = b.t) : covB a b = cov a b := by
  unfold covB
  rw [ha, hb, ht]
  simp
theorem covB_tab {a b : Rd} (ht : a.t ≠ b.t) : covB a b = false := covB_other ht
theorem Rel.note_mem {S : St} {N : List Nt} (h : Rel S N) {a : Nt} (ha : a ∈ N) : a.2 ∈ S.R (plN a) := by
  rw [h.rows]
  exact List.mem_map.2 ⟨a, List.mem_filter.2 ⟨ha, by simp⟩, rfl⟩
theorem Rel.held {S : St} {N : List Nt} (hI : InvK S) (h : Rel S N) (t : Int) (x : Rd) (hx : mayB x = true) : heldN N t x = (S.R (t, x.t)).any (fun y => cov y x) := by
  unfold heldN
  rw [h.rows, List.any_map, List.any_filter]
  refine any_eq fun a ha => ?_
  have hm := (hI.tab _ _ (h.note_mem ha)).2.1
  by_cases e1 : a.1 = t
  · by_cases e2 : a.2.t = x.t
    · have : plN a = (t, x.t) := Prod.ext e1 e2
      rw [covB_may hm hx e2]
      simp [e1, this]
    · have : ¬ plN a = (t, x.t) := fun e => e2 (congrArg Prod.snd e)
      rw [covB_tab e2]
      simp [this]
  · have : ¬ plN a = (t, x.t) := fun e => e1 (congrArg Prod.fst e)
    have e1' : (a.1 == t) = false := by simpa using e1
    simp [e1', this]
theorem Rel.left {S : St} {N : List Nt} (hI : InvK S) (h : Rel S N) (t : Int) (x : Rd) (hx : mayB x = true) :
    Rel ⟨keysK S.K (t, x.t), put1 S.R (t, x.t) (left (S.R (t, x.t)) x), S.n - (S.R (t, x.t)).length + (left (S.R (t, x.t)) x).length⟩ (leftN N t x) := by
  have key : ∀ a ∈ N, ((a.1 == t) && covB x a.2) = (decide (plN a = (t, x.t)) && cov x a.2) := by
    intro a ha
    have hm := (hI.tab _ _ (h.note_mem ha)).2.1
    by_cases e1 : a.1 = t
    · by_cases e2 : x.t = a.2.t
      · have : plN a = (t, x.t) := Prod.ext e1 e2.symm
        rw [covB_may hx hm e2]
        simp [e1, this]
      · have : ¬ plN a = (t, x.t) := fun e => e2 (congrArg Prod.snd e).symm
        rw [covB_tab e2]
        simp [this]
    · have : ¬ plN a = (t, x.t) := fun e => e1 (congrArg Prod.fst e)
      have e1' : (a.1 == t) = false := by simpa using e1
      simp [e1', this]
  have hN : leftN N t x = N.filter (fun a => !(decide (plN a = (t, x.t)) && cov x a.2)) ++ [(t, x)] := by
    unfold leftN
    congr 1
    exact List.filter_congr fun a ha => by rw [key a ha]
  have hl : (YteikmnokmcnmcaaGreat.left (S.R (t, x.t)) x).length = (N.filter (fun a => decide (plN a = (t, x.t)) && !cov x a.2)).length + 1 := by
    unfold YteikmnokmcnmcaaGreat.left
    rw [List.length_append, List.length_singleton, h.rows, List.filter_map, List.length_map, List.filter_filter]
    congr 2
    exact List.filter_congr fun a _ => by simp [Bool.and_comm, Function.comp]
  rw [hN]
  refine ⟨fun p => ?_, ?_⟩
  · show put1 S.R (t, x.t) (YteikmnokmcnmcaaGreat.left (S.R (t, x.t)) x) p = _
    rw [List.filter_append, List.map_append, List.filter_filter]
    by_cases e : p = (t, x.t)
    · subst e
      rw [put1_same]
      unfold YteikmnokmcnmcaaGreat.left
      have h1 : decide (plN ((t, x) : Nt) = (t, x.t)) = true := by simp [plN]
      rw [h.rows, List.filter_map, List.filter_filter]
      simp only [List.filter_cons, h1, if_true, List.filter_nil, List.map_cons, List.map_nil]
      congr 2
      refine List.filter_congr fun a _ => ?_
      by_cases e2 : plN a = (t, x.t) <;> simp [e2, Function.comp]
    · rw [put1_other _ _ e, h.rows]
      have h1 : decide (plN ((t, x) : Nt) = p) = false := decide_eq_false (fun e' => e (Eq.symm e'))
      simp only [List.filter_cons, h1, List.filter_nil, Bool.false_eq_true, if_false, List.map_nil, List.append_nil]
      congr 1
      refine List.filter_congr fun a _ => ?_
      by_cases e2 : plN a = p
      · have : ¬ plN a = (t, x.t) := fun e3 => e (e2.symm.trans e3)
        simp [e2, this, e]
      · simp [e2]
  · show S.n - ((S.R (t, x.t)).length : Int) + _ = _
    rw [hl, h.size, h.rows, List.length_map, List.length_append, List.length_singleton]
    have h1 := filter_part1 (fun a => decide (plN a = (t, x.t)) && cov x a.2) N
    have h2 := filter_part (fun a => decide (plN a = (t, x.t))) (fun a => cov x a.2) N
    omega
/-! answers -/
theorem Rel.readers {S : St} {N : List Nt} (hI : InvK S) (h : Rel S N) (tab key : ByteArray) : rise ((N.filter (fun a => hasB a.2 tab key)).map (·.1)) = readP S tab key := by
  unfold readP
  refine rise_congr fun z => ?_
  simp only [List.mem_map, List.mem_filter, Bool.and_eq_true, List.any_eq_true]
  constructor
  · rintro ⟨a, ⟨ha, hh⟩, rfl⟩
    unfold hasB at hh
    rw [Bool.and_eq_true] at hh
    exact ⟨plN a, ⟨(h.mem_K hI _).2 ⟨a, ha, rfl⟩, hh.1, a.2, h.note_mem ha, hh.2⟩, rfl⟩
  · rintro ⟨q, ⟨hq, ht, y, hy, hh⟩, rfl⟩
    rw [h.rows] at hy
    obtain ⟨a, ha, rfl⟩ := List.mem_map.1 hy
    rw [List.mem_filter, decide_eq_true_eq] at ha
    obtain ⟨ha, rfl⟩ := ha
    exact ⟨a, ⟨ha, by unfold hasB; rw [hh, Bool.and_true]; exact ht⟩, rfl⟩
theorem Rel.txns {S : St} {N : List Nt} (hI : InvK S) (h : Rel S N) : rise (N.map (·.1)) = rise (S.K.map (·.1)) := by
  refine rise_congr fun z => ?_
  simp only [List.mem_map]
  constructor
  · rintro ⟨a, ha, rfl⟩
    exact ⟨plN a, (h.mem_K hI _).2 ⟨a, ha, rfl⟩, rfl⟩
  · rintro ⟨q, hq, rfl⟩
    obtain ⟨a, ha, rfl⟩ := (h.mem_K hI _).1 hq
    exact ⟨a, ha, rfl⟩
theorem Rel.drop {S : St} {N : List Nt} (hI : InvK S) (h : Rel S N) (t : Int) : (dropN N t).1 = (dropP S t).1 ∧ Rel (dropP S t).2 (dropN N t).2 := by
  unfold dropN dropP
  by_cases ht : t < 1
  · rw [if_pos ht, if_pos ht]
    exact ⟨rfl, h⟩
  · rw [if_neg ht, if_neg ht]
    have hr : ∀ q, dropR S.R t q = ((N.filter (fun a => a.1 != t)).filter (fun a => decide (plN a = q))).map (·.2) := by
      intro q
      rw [List.filter_filter]
      by_cases e : q.1 = t
      · rw [dropR_same _ e]
        have : N.filter (fun a => decide (plN a = q) && (a.1 != t)) = [] := by
          rw [List.filter_eq_nil_iff]
          intro a _ hh
          rw [Bool.and_eq_true, decide_eq_true_eq] at hh
          have h1 : a.1 = t := by rw [← e, ← hh.1]; rfl
          rw [h1] at hh
          simp at hh
        rw [this]
        rfl
      · rw [dropR_other _ e, h.rows]
        congr 1
        refine List.filter_congr fun a _ => ?_
        by_cases e2 : plN a = q
        · have h1 : (a.1 != t) = true := by
            rw [bne_iff_ne]
            intro e3
            exact e (by rw [← e2]; exact e3)
          simp [e2, h1]
        · simp [e2]
    refine ⟨rfl, ⟨hr, ?_⟩⟩
    have hD := dropS_inv hI t
    have hsum : ∀ (M : List Nt) (K : List Pl), K.Nodup → (∀ a ∈ M, plN a ∈ K) → (K.map fun q => ((M.filter (fun a => decide (plN a = q))).map (·.2)).length).sum = M.length := by
      intro M K hK hm
      have := (parts_perm K M hK hm).length_eq
      rw [List.length_flatMap, List.length_map] at this
      exact this
    show (dropS S t).n = _
    rw [hD.sum]
    have h1 : ((dropS S t).K.map fun q => ((dropS S t).R q).length) = ((dropS S t).K.map fun q => (((N.filter (fun a => a.1 != t)).filter (fun a => decide (plN a = q))).map (·.2)).length) := by
      refine List.map_congr_left fun q _ => ?_
      rw [← hr q]
      rfl
    rw [h1, hsum _ _ hD.nodup]
    intro a ha
    rw [List.mem_filter] at ha
    show plN a ∈ S.K.filter (fun q => q.1 != t)
    rw [List.mem_filter]
    exact ⟨(h.mem_K hI _).2 ⟨a, ha.1, rfl⟩, ha.2⟩
end Go.Proofs.YteikmnokmcnmcaaGreat
namespace Go.Proofs.YteikmnokmcnmcaaGreat
open Go.RowKit Go.Maps Go.Sort Go.Lib Go.Proofs.YteikmnokmcnmcaaGreatW.PrintWords Go.Proofs.YteikmnokmcnmcaaGreatW.PrintLast Go.Proofs.YteikmnokmcnmcaaGreatW.PrintMore
set_option linter.unusedVariables false
set_option linter.unusedSimpArgs false
set_option linter.unusedSectionVars false
/-! ### a transaction's notes in order, plain -/
theorem sorted_unique {α : Type} {c : α → α → Int} (h : Ord3 c) (he : ∀ a b, c a b = 0 → a = b) : ∀ {xs ys : List α}, xs.Pairwise (fun x y => c x y ≤ 0) → ys.Pairwise (fun x y => c x y ≤ 0) → xs.Perm ys → xs = ys
  | [], ys, _, _, hp => (List.nil_perm.1 hp).symm
  | x :: xs, [], _, _, hp => by have := hp.length_eq; simp at this
  | x :: xs, y :: ys, hx, hy, hp => by
    rw [List.pairwise_cons] at hx hy
    have hxy : x = y := by
      have h1 : c x y ≤ 0 := by
        rcases List.mem_cons.1 (hp.mem_iff.2 List.mem_cons_self : y ∈ x :: xs) with e | hm
        · rw [e, h.refl]; omega
        · exact hx.1 y hm
      have h2 : c y x ≤ 0 := by
        rcases List.mem_cons.1 (hp.mem_iff.1 List.mem_cons_self : x ∈ y :: ys) with e | hm
        · rw [e, h.refl]; omega
        · exact hy.1 x hm
      have := h.anti x y
      have := h.anti y x
      exact he _ _ (by omega)
    subst hxy
    rw [sorted_unique h he hx.2 hy.2 (List.Perm.cons_inv hp)]
def ofN (N : List Nt) (t : Int) : List Rd := (N.filter (fun a => a.1 == t)).map (·.2)
theorem Rel.of {S : St} {N : List Nt} (hI : InvK S) (h : Rel S N) (t : Int) : (ofP S t).Perm (ofN N t) := by
  unfold ofP ofN
  have hn : (S.K.filter (fun q => q.1 == t)).Nodup := hI.nodup.filter _
  have := parts_perm (S.K.filter (fun q => q.1 == t)) (N.filter (fun a => a.1 == t)) hn (fun a ha => by
    rw [List.mem_filter] at ha ⊢
    exact ⟨(h.mem_K hI _).2 ⟨a, ha.1, rfl⟩, ha.2⟩)
  refine List.Perm.trans (List.Perm.of_eq ?_) this
  refine flat_eq fun q hq => ?_
  rw [h.rows, List.filter_filter]
  congr 1
  refine List.filter_congr fun a _ => ?_
  rw [List.mem_filter] at hq
  by_cases e : plN a = q
  · have : (a.1 == t) = true := by rw [← hq.2, ← e]; rfl
    simp [e, this]
  · simp [e]
/-- sorted by insertion: what the document's loop keeps -/
def InsD (ys xs : List Rd) : Prop := ys.Pairwise (fun x y => cmpRd x y ≤ 0) ∧ ys.Perm xs
theorem InsD.done {ys xs zs : List Rd} (h : InsD ys xs) (hp : zs.Perm xs) : srtC cmpRd zs = ys :=
  sorted_unique ord_Rd (fun _ _ => cmpRd_eq) (srtC_rising ord_Rd zs) h.1 ((srtC_perm zs).trans (hp.trans h.2.symm))
theorem InsD.put {ys xs : List Rd} (h : InsD ys xs) (x : Rd) (k : Nat) (hk : k ≤ ys.length) (h1 : ∀ j (hj : j < ys.length), j < k → aheadB ys[j] x = true) (h2 : ∀ hj : k < ys.length, aheadB ys[k] x = false) : InsD (ys.take k ++ [x] ++ ys.drop k) (xs ++ [x]) := by
  refine ⟨?_, ?_⟩
  · have h3 : (ys.take k ++ ys.drop k).Pairwise (fun x y => cmpRd x y ≤ 0) := by rw [List.take_append_drop]; exact h.1
    rw [List.pairwise_append] at h3
    have hd : ∀ y ∈ ys.drop k, cmpRd x y ≤ 0 := by
      intro y hy
      obtain ⟨j, hj, rfl⟩ := List.mem_iff_getElem.1 hy
      rw [List.length_drop] at hj
      have h4 := h2 (by omega)
      rw [aheadB_cmp, decide_eq_false_iff_not] at h4
      have h5 : cmpRd x ys[k] ≤ 0 := by
        have := ord_Rd.anti x ys[k]
        have := ord_Rd.anti ys[k] x
        omega
      rw [List.getElem_drop]
      rcases Nat.eq_zero_or_pos j with h0 | h0
      · subst h0; exact h5
      · have := List.pairwise_iff_getElem.1 h.1 k (k + j) (by omega) (by omega) (by omega)
        exact (ord_Rd.trans _ _ _ h5 this).1
    have ht : ∀ y ∈ ys.take k, cmpRd y x ≤ 0 := by
      intro y hy
      obtain ⟨j, hj, rfl⟩ := List.mem_iff_getElem.1 hy
      rw [List.length_take] at hj
      rw [List.getElem_take]
      have := h1 j (by omega) (by omega)
      rw [aheadB_cmp, decide_eq_true_iff] at this
      omega
    rw [List.append_assoc, List.pairwise_append]
    refine ⟨h3.1, ?_, ?_⟩
    · rw [List.singleton_append, List.pairwise_cons]
      exact ⟨hd, h3.2.1⟩
    · intro y hy z hz
      rw [List.singleton_append] at hz
      rcases List.mem_cons.1 hz with rfl | hz
      · exact ht y hy
      · exact h3.2.2 y hy z hz
  · refine List.Perm.trans ?_ (h.2.append_right [x])
    rw [List.append_assoc]
    have e : (ys.take k ++ ([x] ++ ys.drop k)).Perm (ys.take k ++ (ys.drop k ++ [x])) := List.Perm.append_left _ List.perm_append_comm
    refine e.trans ?_
    rw [← List.append_assoc, List.take_append_drop]
end Go.Proofs.YteikmnokmcnmcaaGreat
namespace Go.Proofs.YteikmnokmcnmcaaGreat
open Go.RowKit Go.Maps Go.Sort Go.Lib Go.Proofs.YteikmnokmcnmcaaGreatW.PrintWords Go.Proofs.YteikmnokmcnmcaaGreatW.PrintLast Go.Proofs.YteikmnokmcnmcaaGreatW.PrintMore
set_option linter.unusedVariables false
set_option linter.unusedSimpArgs false
set_option linter.unusedSectionVars false
/-! ### the document's Of -/
theorem appsR {W : World} {base : Nat} {v : Value} {xs ys : List Rd} (h : dR.R 31 W base (fun _ => True) v xs) (A : Option Addr) (c : Nat) (hs : Src cellsR 4 W A ys) (hl : xs.length + ys.length ≤ 1000000) (hb : base ≤ W.heap.size) :
    ∃ v' w', (Builtin.append_ #[40, 40] 40 #[v, .slice A ys.length c]).run Tryz.prog W = .ok v' w' ∧ dR.R 31 w' base (fun _ => True) v' (xs ++ ys) ∧ W.grownBy w' v.ownBlock :=
  flat_appS h 40 40 _ 56 Tryz.underlying40 info23 rfl (by decide) (by decide) A c hs (by omega) hb (fun _ _ => trivial)
theorem appR1 {W : World} {base : Nat} {v : Value} {xs : List Rd} (h : dR.R 31 W base (fun _ => True) v xs) (x : Rd) (hl : xs.length ≤ 1000000) (hb : base ≤ W.heap.size) :
    ∃ v' w', (Builtin.append_ #[40, 40] 40 #[v, .slice (some ⟨W.heap.size, 0, none⟩) 1 1]).run Tryz.prog (W.alloc (.cells #[.string x.t, .int .i64 x.k, .string x.f, .string x.u] 31)) = .ok v' w' ∧ dR.R 31 w' base (fun _ => True) v' (xs ++ [x]) ∧ W.grownBy w' v.ownBlock :=
  flat_app h 40 40 _ 56 Tryz.underlying40 info23 rfl (by decide) (by decide) x (by omega) hb
def OJr (w : World) (base q : Nat) (most : Int) (N : List Nt) (t : Int) (v5 v6 : Value) (wr : World) : Prop :=
  ∃ (j : Nat) (ys : List Rd), j ≤ N.length ∧ v6 = .int .i64 (j : Int) ∧ dR.R 31 wr w.heap.size (fun _ => True) v5 ys ∧ InsD ys (ofN (N.take j) t) ∧ RM wr base q most N ∧ Below w.heap.size w wr
def PJr (w : World) (base0 base q : Nat) (most : Int) (N : List Nt) (x : Rd) (ys : List Rd) (v5 v7 : Value) (wr : World) : Prop :=
  ∃ k : Nat, k ≤ ys.length ∧ v7 = .int .i64 (k : Int) ∧ (∀ j (hj : j < ys.length), j < k → aheadB ys[j] x = true) ∧ dR.R 31 wr base0 (fun _ => True) v5 ys ∧ RM wr base q most N ∧ Below w.heap.size w wr
def OfPost (w : World) (N : List Nt) (t : Int) (e : Ending) (w' : World) : Prop := ∃ v ys, e = .returned v ∧ dR.R 31 w' w.heap.size (fun _ => True) v ys ∧ InsD ys (ofN N t) ∧ Below w.heap.size w w'
theorem ofN_len (N : List Nt) (t : Int) : (ofN N t).length ≤ N.length := by unfold ofN; rw [List.length_map]; exact List.length_filter_le _ _
set_option maxHeartbeats 8000000 in
set_option maxRecDepth 100000 in
theorem ROf_calls (base q : Nat) (most : Int) (N : List Nt) (t : Int) (w : World) (h : RM w base q most N) (hl : N.length ≤ 65536) :
    Calls Tryz.prog 45 #[.pointer (some ⟨q, 0, none⟩), .int .i64 t] w fun e w' => OfPost w N t e w' := by
  have J0 : OJr w base q most N t (.slice none 0 0) (.int .i64 0) w := ⟨0, [], Nat.zero_le _, rfl, Kd.R_nil _ _ _ _ _, ⟨List.Pairwise.nil, List.Perm.refl _⟩, h, Below.refl _ _⟩
  clear h
  go_enter Tryz.func45, Tryz.ntmps45
  go_wp2_with fail
  go_loopw [5, 6] (fun v5 v6 wr => OJr w base q most N t v5 v6 wr) (fun _ v6 _ => N.length - (intOf v6).toNat)
  case atStart => exact J0
  case round =>
    clear J0
    obtain ⟨j, ys, hj, rfl, hys, hin, hM, hB⟩ := hrel
    obtain ⟨u, hc, hrow⟩ := hM.cells
    have hrN := Lo.ofR hrow
    obtain ⟨A, c, rfl, hlc, hA⟩ := hrN.slice
    have c1 := cell_of_row wr q 1 _ 26 (0, 0) hc
    by_cases hlt : j < N.length
    · obtain ⟨g, rfl, _⟩ := hA (by omega)
      have hyl : ys.length ≤ 65536 := by
        have h1 := hin.2.length_eq
        have h2 := ofN_len (N.take j) t
        rw [List.length_take] at h2
        omega
      have htk : ofN (N.take (j + 1)) t = ofN (N.take j) t ++ (if N[j].1 == t then [N[j].2] else []) := by
        unfold ofN
        rw [List.take_succ_eq_append_getElem hlt, List.filter_append, List.map_append]
        congr 1
        rw [List.filter_cons]
        split <;> simp
      obtain ⟨q0, q1, q2, q3, q4⟩ := RowN.at hrN j N[j] (List.getElem?_eq_getElem hlt)
      generalize N[j] = x at q0 q1 q2 q3 q4 htk
      cases hx : x.1 == t with
      | false =>
        have hx' : (x.1 != t) = true := by simpa using hx
        rw [hx, if_neg (by decide), List.append_nil] at htk
        have fin : OJr w base q most N t u5 (.int .i64 ((j : Int) + 1)) wr := ⟨j + 1, ys, by omega, by simp, hys, by rw [htk]; exact hin, hM, hB⟩
        replace fin := Aside0.mk fin
        clear hys hin hM hrow hrN hc htk
        replace hx := Aside0.mk hx
        go_wp2
        refine ⟨fin.out, ?_⟩
        simp [intOf]
        omega
      | true =>
        have hx' : (x.1 != t) = false := by simpa using hx
        rw [hx, if_pos rfl] at htk
        have hxk : x.1 = t := by simpa using hx
        obtain ⟨wo, rfl⟩ : ∃ wo : World, wo = wr := ⟨_, rfl⟩
        obtain ⟨Ay, cy, rfl, hly, hAy⟩ := (Lo.ofR hys).slice
        have J1 : PJr wo w.heap.size base q most N x.2 ys (.slice Ay ys.length cy) (.int .i64 0) wo := ⟨0, Nat.zero_le _, rfl, fun _ _ h => by omega, hys, hM, Below.refl _ _⟩
        have hlen0 : (Ay = none → ys.length = 0) := fun e => by
          rcases Nat.eq_zero_or_pos ys.length with h0 | h0
          · exact h0
          · obtain ⟨g', e', _⟩ := hAy h0
            rw [e] at e'
            cases e'
        clear hys hM hrow hrN
        replace hin := Aside0.mk hin
        replace htk := Aside0.mk htk
        replace hx := Aside0.mk hx
        replace hxk := Aside0.mk hxk
        replace hlen0 := Aside0.mk hlen0
        go_wp2_with fail
        go_loopw [7] (fun v7 W => PJr wo w.heap.size base q most N x.2 ys (.slice Ay ys.length cy) v7 W) (fun v7 _ => ys.length - (intOf v7).toNat)
        case atStart => exact J1
        case round =>
          clear J1
          obtain ⟨k, hk, rfl, hpre, hys, hM, hBi⟩ := hrel
          have up : ∀ {W : World} (B : Below wo.heap.size wo W) {p : Addr} {v : Value}, wo.cell? p = some v → W.cell? p = some v := fun {W} B {p v} hv => (B.cell (World.block_lt_of_cell? _ _ hv)).trans hv
          have d0 := up hBi q0
          have d1 := up hBi q1
          have d2 := up hBi q2
          have d3 := up hBi q3
          have d4 := up hBi q4
          have e1 := up hBi c1
          have hrowY := Lo.ofR hys
          have rest : ∀ W, Below wr.heap.size wr W → (∀ hj : k < ys.length, aheadB ys[k] x.2 = false) → ∃ v1 w1 v2 w2 v3 w3, (Builtin.append_ #[40, 40] 40 #[.slice none 0 0, .slice Ay k cy]).run Tryz.prog W = .ok v1 w1 ∧
              (Builtin.append_ #[40, 40] 40 #[v1, .slice (some ⟨w1.heap.size, 0, none⟩) 1 1]).run Tryz.prog (w1.alloc (.cells #[.string x.2.t, .int .i64 x.2.k, .string x.2.f, .string x.2.u] 31)) = .ok v2 w2 ∧
              (Builtin.append_ #[40, 40] 40 #[v2, .slice (if cy = k then Ay else Ay.map (·.add (k * 4))) (ys.length - k) (cy - k)]).run Tryz.prog w2 = .ok v3 w3 ∧ OJr w base q most N t v3 (.int .i64 ((j : Int) + 1)) w3 ∧
              w1.cell? ⟨q, 1, none⟩ = some (.slice (some ⟨g, 0, none⟩) N.length c) ∧ w1.cell? ⟨g, j * 5 + 1, none⟩ = some (.string x.2.t) ∧ w1.cell? ⟨g, j * 5 + 2, none⟩ = some (.int .i64 x.2.k) ∧ w1.cell? ⟨g, j * 5 + 3, none⟩ = some (.string x.2.f) ∧ w1.cell? ⟨g, j * 5 + 4, none⟩ = some (.string x.2.u) := by
            intro W BW hgt
            have hysW := Kd.R_below hys BW
            have hrW := Lo.ofR hysW
            have BoW := below_then hBi hBi.size BW
            have hs1 := Lo.srcTake hrW rfl hk
            have htl : (ys.take k).length = k := by rw [List.length_take]; omega
            have hdl : (ys.drop k).length = ys.length - k := List.length_drop
            obtain ⟨v1, w1, r1, R1, G1⟩ := appsR (Kd.R_nil dR 31 W W.heap.size (fun _ => True)) Ay cy hs1 (by rw [htl]; simp only [List.length_nil]; omega) (Nat.le_refl _)
            rw [htl] at r1
            rw [List.nil_append] at R1
            have B1 : Below W.heap.size W w1 := (Below.refl _ W).grown G1 (Nat.le_refl _) (by simp [Value.ownBlock])
            obtain ⟨v2, w2, r2, R2, G2⟩ := appR1 R1 x.2 (by rw [htl]; omega) B1.size
            have B2 : Below W.heap.size W w2 := B1.grown G2 B1.size (Kd.R_base R1)
            have hrow2 := hrW.grown (grown_of_below B2 none) (by simp)
            have hs2 := Lo.srcDrop hrow2 rfl hk
            obtain ⟨v3, w3, r3, R3, G3⟩ := appsR R2 _ (cy - k) hs2 (by rw [List.length_append, htl, hdl]; simp only [List.length_cons, List.length_nil]; omega) B2.size
            rw [hdl] at r3
            have B3 : Below W.heap.size W w3 := B2.grown G3 B2.size (Kd.R_base R2)
            have Bo3 := below_then BoW BoW.size B3
            have Bo1 := below_then BoW BoW.size B1
            refine ⟨v1, w1, v2, w2, v3, w3, r1, r2, r3, ⟨j + 1, _, by omega, by simp, Kd.R_lower R3 (Nat.le_trans hB.size BoW.size), ?_, (hM.below BW).below B3, below_then hB hB.size Bo3⟩, up Bo1 c1, up Bo1 q1, up Bo1 q2, up Bo1 q3, up Bo1 q4⟩
            rw [htk.out]
            exact hin.out.put x.2 k hk hpre hgt
          have cut1 := cutTo (P := Tryz.prog) 40 31 Tryz.underlying40 info23 Ay ys.length cy k (by omega)
          have cut2 := cutOff (P := Tryz.prog) 40 31 Tryz.underlying40 info23 Ay ys.length cy k (by omega)
          generalize (if cy = k then Ay else Ay.map (·.add (k * 4))) = A3 at rest cut2
          by_cases hkl : k < ys.length
          · obtain ⟨gy, rfl, _⟩ := hAy (by omega)
            obtain ⟨y0, y1, y2, y3⟩ := RowR.at hrowY k ys[k] (List.getElem?_eq_getElem hkl)
            have AH := fun W => ahead_calls ys[k] x.2 W
            have dk : decide ((k : Int) < (ys.length : Int)) = true := decide_eq_true (by omega)
            cases hah : aheadB ys[k] x.2 with
            | true =>
              have fin : ∀ W, Below wr.heap.size wr W → PJr wo w.heap.size base q most N x.2 ys (.slice (some ⟨gy, 0, none⟩) ys.length cy) (.int .i64 ((k : Int) + 1)) W := fun W BW => by
                refine ⟨k + 1, by omega, by simp, fun i hi hik => ?_, Kd.R_below hys BW, hM.below BW, below_then hBi hBi.size BW⟩
                rcases Nat.lt_or_ge i k with h2 | h2
                · exact hpre i hi h2
                · obtain rfl : i = k := by omega
                  exact hah
              rw [hah] at AH
              generalize ys[k] = y at y0 y1 y2 y3 AH
              clear rest cut1 cut2 hpre hys hM hrowY hah
              replace fin := Aside0.mk fin
              go_wp2_with fail
              go_region_held3 (fun V => V.cell? ⟨gy, k * 4, none⟩ = some (.string y.t) ∧ V.cell? ⟨gy, k * 4 + 1, none⟩ = some (.int .i64 y.k) ∧ V.cell? ⟨gy, k * 4 + 2, none⟩ = some (.string y.f) ∧ V.cell? ⟨gy, k * 4 + 3, none⟩ = some (.string y.u) ∧ V.cell? ⟨q, 1, none⟩ = some (.slice (some ⟨g, 0, none⟩) N.length c) ∧
                  V.cell? ⟨g, j * 5 + 1, none⟩ = some (.string x.2.t) ∧ V.cell? ⟨g, j * 5 + 2, none⟩ = some (.int .i64 x.2.k) ∧ V.cell? ⟨g, j * 5 + 3, none⟩ = some (.string x.2.f) ∧ V.cell? ⟨g, j * 5 + 4, none⟩ = some (.string x.2.u))
                (first | exact ⟨y0, y1, y2, y3, e1, d1, d2, d3, d4⟩ | exact ⟨K9 _ _ y0, K9 _ _ y1, K9 _ _ y2, K9 _ _ y3, K9 _ _ e1, K9 _ _ d1, K9 _ _ d2, K9 _ _ d3, K9 _ _ d4⟩)
                ((go_at_call 65; refine (AH _).mono ?_; rintro e W' ⟨rfl, B'⟩; have K9 : ∀ q v, wr.cell? q = some v → W'.cell? q = some v := fun q v hv => (B'.cell (World.block_lt_of_cell? _ _ hv)).trans hv))
              have BD : Below wr.heap.size wr (wr.drewN 1) := (Below.refl _ wr).grown (drewNG wr 1) (Nat.le_refl _) (by simp)
              have F := fin.out W' (below_then BD BD.size B')
              replace F := Aside0.mk F
              go_wp2
              refine ⟨F.out, ?_⟩
              simp [intOf]
              omega
            | false =>
              have rest2 := fun W BW => rest W BW (fun _ => hah)
              rw [hah] at AH
              generalize ys[k] = y at y0 y1 y2 y3 AH
              clear rest hpre hys hM hrowY hah
              replace rest2 := Aside0.mk rest2
              go_wp2_with fail
              go_region_held3 (fun V => V.cell? ⟨gy, k * 4, none⟩ = some (.string y.t) ∧ V.cell? ⟨gy, k * 4 + 1, none⟩ = some (.int .i64 y.k) ∧ V.cell? ⟨gy, k * 4 + 2, none⟩ = some (.string y.f) ∧ V.cell? ⟨gy, k * 4 + 3, none⟩ = some (.string y.u) ∧ V.cell? ⟨q, 1, none⟩ = some (.slice (some ⟨g, 0, none⟩) N.length c) ∧
                  V.cell? ⟨g, j * 5 + 1, none⟩ = some (.string x.2.t) ∧ V.cell? ⟨g, j * 5 + 2, none⟩ = some (.int .i64 x.2.k) ∧ V.cell? ⟨g, j * 5 + 3, none⟩ = some (.string x.2.f) ∧ V.cell? ⟨g, j * 5 + 4, none⟩ = some (.string x.2.u))
                (first | exact ⟨y0, y1, y2, y3, e1, d1, d2, d3, d4⟩ | exact ⟨K9 _ _ y0, K9 _ _ y1, K9 _ _ y2, K9 _ _ y3, K9 _ _ e1, K9 _ _ d1, K9 _ _ d2, K9 _ _ d3, K9 _ _ d4⟩)
                ((go_at_call 65; refine (AH _).mono ?_; rintro e W' ⟨rfl, B'⟩; have K9 : ∀ q v, wr.cell? q = some v → W'.cell? q = some v := fun q v hv => (B'.cell (World.block_lt_of_cell? _ _ hv)).trans hv))
              have BD : Below wr.heap.size wr (wr.drewN 1) := (Below.refl _ wr).grown (drewNG wr 1) (Nat.le_refl _) (by simp)
              obtain ⟨v1, w1, v2, w2, v3, w3, r1, r2, r3, F, f0, f1, f2, f3, f4⟩ := rest2.out W' (below_then BD BD.size B')
              replace F := Aside0.mk F
              clear y0 y1 y2 y3 d0 d1 d2 d3 d4 q0 q1 q2 q3 q4 c1 e1 AH
              go_upto_region 11 with (at_builtin; refine app_list rfl rfl rfl rfl r1 ?_)
              clear r1 cut1
              go_upto_region 12 with (at_builtin; refine app_list rfl rfl rfl rfl r2 ?_)
              clear r2
              go_wp2_with (at_builtin; refine app_list rfl rfl rfl rfl r3 ?_)
              refine ⟨F.out, ?_⟩
              simp [intOf]
              omega
          · have dk : decide (k < ys.length) = false := decide_eq_false (by omega)
            have rest2 := fun n => rest (wr.drewN n) ((Below.refl _ wr).grown (drewNG wr n) (Nat.le_refl _) (by simp)) (fun hj => absurd hj hkl)
            have hkl' : k = ys.length := by omega
            clear rest hpre hys hM hrowY hkl
            replace rest2 := Aside0.mk rest2
            replace hkl' := Aside0.mk hkl'
            rcases Ay with _ | ad
            all_goals
              go_wp2_with fail
              go_quiet (fail)
              rename_i nq
              obtain ⟨v1, w1, v2, w2, v3, w3, r1, r2, r3, F, f0, f1, f2, f3, f4⟩ := rest2.out nq
              replace F := Aside0.mk F
              clear d0 d1 d2 d3 d4 q0 q1 q2 q3 q4 c1 e1
              go_upto_region 11 with (at_builtin; refine app_list rfl rfl rfl rfl r1 ?_)
              clear r1 cut1
              go_upto_region 12 with (at_builtin; refine app_list rfl rfl rfl rfl r2 ?_)
              clear r2
              go_wp2_with (at_builtin; refine app_list rfl rfl rfl rfl r3 ?_)
              refine ⟨F.out, ?_⟩
              simp [intOf]
              omega
    · have hje : j = N.length := by omega
      have hge : ¬ (j : Int) < (N.length : Int) := by omega
      rw [hje, List.take_length] at hin
      replace hje := Aside0.mk hje
      replace hin := Aside0.mk hin
      clear hM hrow hrN hc
      go_wp2
      go_ret
      exact ⟨_, ys, rfl, hys, hin.out, hB⟩
end Go.Proofs.YteikmnokmcnmcaaGreat
