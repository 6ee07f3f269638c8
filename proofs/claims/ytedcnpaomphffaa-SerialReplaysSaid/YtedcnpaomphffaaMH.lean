import Derived.Test.YtedcnpaomphffaaMD
import Derived.Test.YtedcnpaomphffaaMG
namespace Go.Proofs.Ytedcnpaomphffaa
set_option linter.unusedVariables false
set_option linter.unusedSimpArgs false
/-! ### how many lead to one; the free ones, one behind the other: plain -/
def lefts (g : List Dp) (names D : List Int) (b : Int) : List Int := names.filter (fun a => !decide (a ∈ D) && leadsB g a b)
def cnt (g : List Dp) (names D : List Int) (b : Int) : Int := ((lefts g names D b).length : Int)
theorem cnt_nonneg (g : List Dp) (names D : List Int) (b : Int) : 0 ≤ cnt g names D b := by unfold cnt; omega
theorem cnt_le (g : List Dp) (names D : List Int) (b : Int) : cnt g names D b ≤ (names.length : Int) := by
  unfold cnt lefts
  have := List.length_filter_le (fun a => !decide (a ∈ D) && leadsB g a b) names
  omega
theorem mem_lefts {g : List Dp} {names D : List Int} {b a : Int} : a ∈ lefts g names D b ↔ a ∈ names ∧ a ∉ D ∧ leadsB g a b = true := by
  unfold lefts
  rw [List.mem_filter]
  simp
theorem cnt_zero {g : List Dp} {names D : List Int} (hg : ∀ d ∈ g, d.f ∈ names ∧ d.t ∈ names) {b : Int} : cnt g names D b = 0 ↔ ∀ d ∈ g, d.t = b → d.f ∈ D := by
  unfold cnt
  constructor
  · intro h d hd e
    have h' : lefts g names D b = [] := List.eq_nil_of_length_eq_zero (by omega)
    refine Classical.byContradiction fun hn => ?_
    have : d.f ∈ lefts g names D b := mem_lefts.2 ⟨(hg d hd).1, hn, leadsB_iff.2 ⟨d, hd, rfl, e⟩⟩
    rw [h'] at this
    cases this
  · intro h
    have h' : lefts g names D b = [] := by
      rw [List.eq_nil_iff_forall_not_mem]
      intro a ha
      obtain ⟨_, h2, h3⟩ := mem_lefts.1 ha
      obtain ⟨d, hd, rfl, e⟩ := leadsB_iff.1 h3
      exact h2 (h d hd e)
    rw [h']
    rfl
theorem cnt_snoc {g : List Dp} {names D : List Int} (hn : names.Nodup) {a b : Int} (ha : a ∈ names) (hD : a ∉ D) : cnt g names (D ++ [a]) b = if leadsB g a b = true then cnt g names D b - 1 else cnt g names D b := by
  have e : lefts g names (D ++ [a]) b = (lefts g names D b).erase a := by
    have hnd : (lefts g names D b).Nodup := hn.filter _
    rw [hnd.erase_eq_filter]
    unfold lefts
    rw [List.filter_filter]
    refine List.filter_congr fun x _ => ?_
    by_cases hx : x = a
    · subst hx
      simp
    · simp [hx]
  unfold cnt
  rw [e]
  by_cases hl : leadsB g a b = true
  · rw [if_pos hl]
    have hm : a ∈ lefts g names D b := mem_lefts.2 ⟨ha, hD, hl⟩
    rw [List.length_erase_of_mem hm]
    have := List.length_pos_of_mem hm
    omega
  · rw [if_neg hl, List.erase_of_not_mem (fun hm => hl (mem_lefts.1 hm).2.2)]
/-- the name at a place -/
def nm (names : List Int) (p : Nat) : Int := names.getD p 0
theorem nm_eq {names : List Int} {p : Nat} (h : p < names.length) : nm names p = names[p] := by
  unfold nm
  rw [List.getD_eq_getElem?_getD, List.getElem?_eq_getElem h]
  rfl
theorem nm_mem {names : List Int} {p : Nat} (h : p < names.length) : nm names p ∈ names := by rw [nm_eq h]; exact List.getElem_mem h
theorem nm_inj {names : List Int} (hn : names.Nodup) {p q : Nat} (hp : p < names.length) (hq : q < names.length) (h : nm names p = nm names q) : p = q := by
  rw [nm_eq hp, nm_eq hq] at h
  exact (List.getElem_inj hn).1 h
theorem nm_ex {names : List Int} {a : Int} (h : a ∈ names) : ∃ p, p < names.length ∧ nm names p = a := by
  obtain ⟨p, hp, rfl⟩ := List.mem_iff_getElem.1 h
  exact ⟨p, hp, nm_eq hp⟩
/-- the places that a place leads to, rising -/
def adj (g : List Dp) (names : List Int) (i : Nat) : List Nat := (List.range names.length).filter (fun j => leadsB g (nm names i) (nm names j))
theorem mem_adj {g : List Dp} {names : List Int} {i j : Nat} : j ∈ adj g names i ↔ j < names.length ∧ leadsB g (nm names i) (nm names j) = true := by
  unfold adj
  rw [List.mem_filter, List.mem_range]
theorem adj_nodup (g : List Dp) (names : List Int) (i : Nat) : (adj g names i).Nodup := List.nodup_range.filter _
theorem adj_len (g : List Dp) (names : List Int) (i : Nat) : (adj g names i).length ≤ names.length := by
  unfold adj
  have := List.length_filter_le (fun j => leadsB g (nm names i) (nm names j)) (List.range names.length)
  rwa [List.length_range] at this
theorem mem_map_nm {names : List Int} (hn : names.Nodup) {l : List Nat} (hl : ∀ p ∈ l, p < names.length) {j : Nat} (hj : j < names.length) : nm names j ∈ l.map (nm names) ↔ j ∈ l := by
  constructor
  · intro h
    obtain ⟨p, hp, e⟩ := List.mem_map.1 h
    rw [← nm_inj hn (hl p hp) hj e]
    exact hp
  · exact fun h => List.mem_map.2 ⟨j, h, rfl⟩
structure KO (g : List Dp) (names : List Int) (k : Nat) (fr : List Nat) (cs : List Int) : Prop where
  nd : fr.Nodup
  lt : ∀ p ∈ fr, p < names.length
  le : k ≤ fr.length
  len : cs.length = names.length
  cs : ∀ j (hj : j < cs.length), cs[j] = cnt g names ((fr.take k).map (nm names)) (nm names j)
  mem : ∀ j, j < names.length → (j ∈ fr ↔ cnt g names ((fr.take k).map (nm names)) (nm names j) = 0)
  pre : ∀ a p b, fr = a ++ p :: b → ∀ d ∈ g, d.t = nm names p → d.f ∈ a.map (nm names)
/-- the free ones of a beginning of a list -/
def opened (g : List Dp) (names D : List Int) (l : List Nat) : List Nat := l.filter (fun j => decide (cnt g names D (nm names j) = 0))
theorem KO.start {g : List Dp} {names : List Int} (hg : ∀ d ∈ g, d.f ∈ names ∧ d.t ∈ names) {cs : List Int} (hl : cs.length = names.length) (hc : ∀ j (hj : j < cs.length), cs[j] = cnt g names [] (nm names j)) : KO g names 0 (opened g names [] (List.range names.length)) cs where
  nd := List.nodup_range.filter _
  lt := fun p hp => List.mem_range.1 (List.mem_filter.1 hp).1
  le := Nat.zero_le _
  len := hl
  cs := hc
  mem := fun j hj => by
    unfold opened
    rw [List.mem_filter, List.mem_range]
    simp [hj]
  pre := fun a p b e d hd hdt => by
    have hp : p ∈ opened g names [] (List.range names.length) := by rw [e]; simp
    have := (List.mem_filter.1 hp).2
    rw [decide_eq_true_iff, cnt_zero hg] at this
    exact absurd (this d hd hdt) (by simp)
theorem KO.fr_len {g : List Dp} {names : List Int} {k : Nat} {fr : List Nat} {cs : List Int} (h : KO g names k fr cs) : fr.length ≤ names.length := by
  have := List.Nodup.length_le_of_subset h.nd (l₂ := List.range names.length) (fun p hp => List.mem_range.2 (h.lt p hp))
  rwa [List.length_range] at this
/-- within the round of the place fr[k], after e of those that it leads to -/
structure KI (g : List Dp) (names : List Int) (k : Nat) (fr0 : List Nat) (i0 e : Nat) (fr : List Nat) (cs : List Int) : Prop where
  fr : fr = fr0 ++ opened g names ((fr0.take (k + 1)).map (nm names)) ((adj g names i0).take e)
  len : cs.length = names.length
  cs : ∀ j (hj : j < cs.length), cs[j] = cnt g names ((fr0.take (if j ∈ (adj g names i0).take e then k + 1 else k)).map (nm names)) (nm names j)
theorem KO.begin {g : List Dp} {names : List Int} {k : Nat} {fr : List Nat} {cs : List Int} (h : KO g names k fr cs) (i0 : Nat) : KI g names k fr i0 0 fr cs where
  fr := by simp [opened]
  len := h.len
  cs := fun j hj => by simpa using h.cs j hj
section
variable {g : List Dp} {names : List Int} {k i0 : Nat} {fr0 fr : List Nat} {cs cs0 : List Int}
theorem KO.step (hn : names.Nodup) (h : KO g names k fr0 cs0) (hk : fr0[k]? = some i0) (j : Nat) : cnt g names ((fr0.take (k + 1)).map (nm names)) (nm names j) = if leadsB g (nm names i0) (nm names j) = true then cnt g names ((fr0.take k).map (nm names)) (nm names j) - 1 else cnt g names ((fr0.take k).map (nm names)) (nm names j) := by
  obtain ⟨hlt, rfl⟩ := List.getElem?_eq_some_iff.1 hk
  have hi : fr0[k] < names.length := h.lt _ (List.getElem_mem hlt)
  have htk : fr0.take (k + 1) = fr0.take k ++ [fr0[k]] := List.take_succ_eq_append_getElem hlt
  rw [htk, List.map_append]
  refine cnt_snoc hn (nm_mem hi) fun hm => ?_
  rw [mem_map_nm hn (fun p hp => h.lt p (List.mem_of_mem_take hp)) hi] at hm
  obtain ⟨q, hq, e⟩ := List.mem_take_iff_getElem.1 hm
  have := (List.getElem_inj h.nd).1 e
  omega
theorem KI.next (hn : names.Nodup) (h : KO g names k fr0 cs0) (hk : fr0[k]? = some i0) {e : Nat} (hi : KI g names k fr0 i0 e fr cs) {j : Nat} (hj : (adj g names i0)[e]? = some j) (hjl : j < cs.length) :
    KI g names k fr0 i0 (e + 1) (if cs[j] - 1 = 0 then fr ++ [j] else fr) (cs.set j (cs[j] - 1)) := by
  obtain ⟨he, ej⟩ := List.getElem?_eq_some_iff.1 hj
  have htk : (adj g names i0).take (e + 1) = (adj g names i0).take e ++ [j] := by rw [List.take_succ_eq_append_getElem he, ej]
  have hjn : j ∉ (adj g names i0).take e := fun hm => by
    obtain ⟨q, hq, e2⟩ := List.mem_take_iff_getElem.1 hm
    have := (List.getElem_inj (adj_nodup g names i0)).1 (e2.trans ej.symm)
    omega
  have hja := (mem_adj.1 (List.mem_of_getElem? hj))
  have hc : cs[j] - 1 = cnt g names ((fr0.take (k + 1)).map (nm names)) (nm names j) := by
    rw [hi.cs j hjl, if_neg hjn, KO.step hn h hk, if_pos hja.2]
  refine ⟨?_, by rw [List.length_set]; exact hi.len, fun m hm => ?_⟩
  · rw [htk]
    unfold opened
    rw [List.filter_append]
    by_cases h0 : cs[j] - 1 = 0
    · rw [if_pos h0]
      have : decide (cnt g names ((fr0.take (k + 1)).map (nm names)) (nm names j) = 0) = true := decide_eq_true (hc ▸ h0)
      rw [List.filter_cons, if_pos this, hi.fr]
      simp [opened]
    · rw [if_neg h0]
      have : ¬ decide (cnt g names ((fr0.take (k + 1)).map (nm names)) (nm names j) = 0) = true := fun e => h0 (hc ▸ of_decide_eq_true e)
      rw [List.filter_cons, if_neg this, hi.fr]
      simp [opened]
  · rw [List.length_set] at hm
    by_cases e2 : j = m
    · subst e2
      rw [List.getElem_set_self, htk, if_pos (by simp), hc]
    · rw [List.getElem_set_ne e2, hi.cs m hm, htk]
      have : (m ∈ (adj g names i0).take e ++ [j]) ↔ m ∈ (adj g names i0).take e := by
        rw [List.mem_append, List.mem_singleton]
        exact ⟨fun x => x.resolve_right (fun y => e2 y.symm), .inl⟩
      simp only [this]
theorem KI.done (hg : ∀ d ∈ g, d.f ∈ names ∧ d.t ∈ names) (hn : names.Nodup) (h : KO g names k fr0 cs0) (hk : fr0[k]? = some i0) (hi : KI g names k fr0 i0 (adj g names i0).length fr cs) : KO g names (k + 1) fr cs := by
  have hlt : k < fr0.length := (List.getElem?_eq_some_iff.1 hk).1
  have hi0 : i0 < names.length := h.lt _ (List.mem_of_getElem? hk)
  have hfr := hi.fr
  rw [List.take_length] at hfr
  have htk : fr.take (k + 1) = fr0.take (k + 1) := by rw [hfr, List.take_append_of_le_length (by omega)]
  have hc : ∀ j (hj : j < cs.length), cs[j] = cnt g names ((fr0.take (k + 1)).map (nm names)) (nm names j) := fun j hj => by
    rw [hi.cs j hj, List.take_length]
    by_cases hm : j ∈ adj g names i0
    · rw [if_pos hm]
    · rw [if_neg hm, KO.step hn h hk, if_neg (fun hl => hm (mem_adj.2 ⟨by rw [← hi.len]; exact hj, hl⟩))]
  -- what is opened in this round was not free before
  have new : ∀ j ∈ opened g names ((fr0.take (k + 1)).map (nm names)) (adj g names i0), j < names.length ∧ cnt g names ((fr0.take (k + 1)).map (nm names)) (nm names j) = 0 ∧ j ∉ fr0 := fun j hj => by
    obtain ⟨h1, h2⟩ := List.mem_filter.1 hj
    obtain ⟨h3, h4⟩ := mem_adj.1 h1
    have h2 := of_decide_eq_true h2
    refine ⟨h3, h2, fun hf => ?_⟩
    have h5 := (h.mem j h3).1 hf
    rw [KO.step hn h hk, if_pos h4, h5] at h2
    omega
  refine ⟨?_, ?_, by rw [hfr, List.length_append]; omega, hi.len, fun j hj => by rw [htk]; exact hc j hj, fun j hj => ?_, fun a p b e d hd hdt => ?_⟩
  · rw [hfr, List.nodup_append]
    exact ⟨h.nd, (adj_nodup g names i0).filter _, fun a ha b hb e => (new b hb).2.2 (e ▸ ha)⟩
  · intro p hp
    rw [hfr, List.mem_append] at hp
    rcases hp with hp | hp
    · exact h.lt p hp
    · exact (new p hp).1
  · rw [htk, hfr, List.mem_append]
    constructor
    · rintro (hf | hf)
      · have h5 := (h.mem j hj).1 hf
        have h6 := KO.step hn h hk j
        have h7 := cnt_nonneg g names ((fr0.take (k + 1)).map (nm names)) (nm names j)
        split at h6 <;> omega
      · exact (new j hf).2.1
    · intro h0
      by_cases hl : leadsB g (nm names i0) (nm names j) = true
      · exact .inr (List.mem_filter.2 ⟨mem_adj.2 ⟨hj, hl⟩, decide_eq_true h0⟩)
      · rw [KO.step hn h hk, if_neg hl] at h0
        exact .inl ((h.mem j hj).2 h0)
  · rw [hfr] at e
    rcases List.append_eq_append_iff.1 e with ⟨a', e1, e2⟩ | ⟨c', e1, e2⟩
    · -- behind fr0
      have hp : p ∈ opened g names ((fr0.take (k + 1)).map (nm names)) (adj g names i0) := by rw [e2]; simp
      obtain ⟨_, h6, _⟩ := new p hp
      rw [cnt_zero hg] at h6
      have h7 := h6 d hd hdt
      obtain ⟨q, hq, eq⟩ := List.mem_map.1 h7
      refine List.mem_map.2 ⟨q, ?_, eq⟩
      rw [e1]
      exact List.mem_append_left _ (List.mem_of_mem_take hq)
    · rcases c' with _ | ⟨c0, c'⟩
      · rw [List.append_nil] at e1
        rw [List.nil_append] at e2
        have hp : p ∈ opened g names ((fr0.take (k + 1)).map (nm names)) (adj g names i0) := by rw [← e2]; simp
        obtain ⟨_, h6, _⟩ := new p hp
        rw [cnt_zero hg] at h6
        have h7 := h6 d hd hdt
        obtain ⟨q, hq, eq⟩ := List.mem_map.1 h7
        refine List.mem_map.2 ⟨q, ?_, eq⟩
        rw [← e1]
        exact List.mem_of_mem_take hq
      · injection e2 with e3 e4
        subst e3
        exact h.pre a p c' e1 d hd hdt
end
/-- when all that are free have been gone through: there is an order just if these are all -/
theorem kahn_end {g : List Dp} {names : List Int} (hg : ∀ d ∈ g, d.f ∈ names ∧ d.t ∈ names) (hn : names.Nodup) {fr : List Nat} {cs : List Int} (h : KO g names fr.length fr cs) : decide (fr.length = names.length) = (greedy g names names.length []).isSome := by
  have hpre : Pre g names (fr.map (nm names)) := by
    refine ⟨?_, fun n hm => ?_, fun a n b e d hd hdt => ?_⟩
    · rw [List.nodup_iff_pairwise_ne, List.pairwise_map]
      exact (List.nodup_iff_pairwise_ne.1 h.nd).imp_of_mem fun {a b} ha hb hab e => hab (nm_inj hn (h.lt a ha) (h.lt b hb) e)
    · obtain ⟨p, hp, rfl⟩ := List.mem_map.1 hm
      exact nm_mem (h.lt p hp)
    · obtain ⟨l1, l2, e1, e2, e3⟩ := List.map_eq_append_iff.1 e
      obtain ⟨p, l3, e4, e5, e6⟩ := List.map_eq_cons_iff.1 e3
      subst e2 e5
      rw [e4] at e1
      exact h.pre l1 p l3 e1 d hd hdt
  have hlen := h.fr_len
  rw [Bool.eq_iff_iff, decide_eq_true_iff]
  constructor
  · intro e
    have ht : Topo g names (fr.map (nm names)) := ⟨hpre, (sub_len hpre.1 hpre.2.1 hn).2 (by rw [List.length_map]; exact e)⟩
    exact (greedy_enum ht hn names.length [] (Pre.nil g names) (by simp)).2
  · intro hs
    obtain ⟨L, hL⟩ := Option.isSome_iff_exists.1 hs
    have ht := greedy_topo hn names.length [] L (Pre.nil g names) (by simp) hL
    refine Classical.byContradiction fun hne => ?_
    obtain ⟨n, hc⟩ := cand_some ht hn hpre (by rw [List.length_map]; omega)
    obtain ⟨c1, c2, c3⟩ := mem_cand.1 hc
    obtain ⟨p, hp, rfl⟩ := nm_ex c1
    have := (h.mem p hp).2 ((cnt_zero hg).2 (by rw [List.take_length]; exact c3))
    exact c2 (List.mem_map.2 ⟨p, this, rfl⟩)
end Go.Proofs.Ytedcnpaomphffaa
namespace Go.Proofs.Ytedcnpaomphffaa
set_option linter.unusedVariables false
set_option linter.unusedSimpArgs false
/-! ### how far, by a row of those that are still to be gone through: plain -/
/-- the places that lead to a place, rising -/
def bck (g : List Dp) (names : List Int) (p : Nat) : List Nat := (List.range names.length).filter (fun q => leadsB g (nm names q) (nm names p))
theorem mem_bck {g : List Dp} {names : List Int} {p q : Nat} : q ∈ bck g names p ↔ q < names.length ∧ leadsB g (nm names q) (nm names p) = true := by
  unfold bck
  rw [List.mem_filter, List.mem_range]
theorem bck_len (g : List Dp) (names : List Int) (i : Nat) : (bck g names i).length ≤ names.length := by
  unfold bck
  have := List.length_filter_le (fun j => leadsB g (nm names j) (nm names i)) (List.range names.length)
  rwa [List.length_range] at this
def dv (ds : List Int) (p : Nat) : Int := ds.getD p (-1)
theorem dv_eq {ds : List Int} {p : Nat} (h : p < ds.length) : dv ds p = ds[p] := by
  unfold dv
  rw [List.getD_eq_getElem?_getD, List.getElem?_eq_getElem h]
  rfl
theorem dv_set {ds : List Int} {p q : Nat} {x : Int} (h : p < ds.length) : dv (ds.set p x) q = if q = p then x else dv ds q := by
  unfold dv
  rw [List.getD_eq_getElem?_getD, List.getElem?_set, List.getD_eq_getElem?_getD]
  by_cases e : q = p
  · subst e
    rw [if_pos rfl, if_pos h, if_pos rfl]
    rfl
  · rw [if_neg (fun x => e x.symm), if_neg e]
structure BQ (g : List Dp) (names : List Int) (t : Nat) (i : Nat) (qs : List Nat) (ds : List Int) : Prop where
  len : ds.length = names.length
  nd : qs.Nodup
  lt : ∀ p ∈ qs, p < names.length
  out : ∀ j, j < names.length → j ∉ qs → dv ds j = -1
  ins : ∀ j ∈ qs, ∃ m : Nat, dv ds j = (m : Int) ∧ IsMin g (nm names t) m (nm names j)
  sorted : qs.Pairwise (fun p q => dv ds p ≤ dv ds q)
  closed : ∀ p ∈ qs.take i, ∀ q, q < names.length → leadsB g (nm names q) (nm names p) = true → q ∈ qs
  near : ∀ p0, qs[i]? = some p0 → ∀ p ∈ qs, dv ds p ≤ dv ds p0 + 1
  has : t ∈ qs
theorem BQ.start {g : List Dp} {names : List Int} {t : Nat} (ht : t < names.length) {ds : List Int} (hl : ds.length = names.length) (h0 : dv ds t = 0) (h1 : ∀ j, j < names.length → j ≠ t → dv ds j = -1) : BQ g names t 0 [t] ds where
  len := hl
  nd := by simp
  lt := fun p hp => by rw [List.mem_singleton.1 hp]; exact ht
  out := fun j hj hn => h1 j hj (by simpa using hn)
  ins := fun j hj => by rw [List.mem_singleton.1 hj]; exact ⟨0, h0, rfl, fun j hj => by omega⟩
  sorted := by simp
  closed := fun p hp => by simp at hp
  near := fun p0 hp p hp2 => by
    simp at hp
    rw [List.mem_singleton.1 hp2, ← hp]
    omega
  has := by simp
section
variable {g : List Dp} {names : List Int} {t i : Nat} {qs : List Nat} {ds : List Int}
theorem BQ.level (hg : ∀ d ∈ g, d.f ∈ names ∧ d.t ∈ names) (hn : names.Nodup) (h : BQ g names t i qs ds) {p0 : Nat} (hp : qs[i]? = some p0) : ∀ (m : Nat) (a : Nat), a < names.length → IsMin g (nm names t) m (nm names a) → (m : Int) ≤ dv ds p0 → a ∈ qs
  | 0, a, ha, hm, _ => by
    have e : nm names a = nm names t := hm.1
    have := nm_inj hn ha (h.lt t h.has) e
    rw [this]
    exact h.has
  | m + 1, a, ha, hm, hle => by
    obtain ⟨c, hc, hmc⟩ := hm.next
    have hcn : c ∈ names := by
      obtain ⟨d, hd, _, rfl⟩ := leadsB_iff.1 hc
      exact (hg d hd).2
    obtain ⟨q, hq, rfl⟩ := nm_ex hcn
    have hqs := BQ.level hg hn h hp m q hq hmc (by omega)
    obtain ⟨m', e1, e2⟩ := h.ins q hqs
    have hmm := e2.unique hmc
    obtain ⟨j, hj, ej⟩ := List.mem_iff_getElem.1 hqs
    obtain ⟨hi, ei⟩ := List.getElem?_eq_some_iff.1 hp
    refine h.closed q ?_ a ha hc
    rw [List.mem_take_iff_getElem]
    refine ⟨j, ?_, ej⟩
    rcases Nat.lt_trichotomy j i with e | e | e
    · omega
    · subst e
      rw [ei] at ej
      subst ej
      omega
    · have := List.pairwise_iff_getElem.1 h.sorted i j hi hj e
      rw [ei, ej] at this
      omega
/-- one more that leads to the place that is gone through -/
theorem BQ.push (hg : ∀ d ∈ g, d.f ∈ names ∧ d.t ∈ names) (hn : names.Nodup) (h : BQ g names t i qs ds) {p0 : Nat} (hp : qs[i]? = some p0) {k : Nat} (hk : k < names.length) (hl : leadsB g (nm names k) (nm names p0) = true) (h0 : dv ds k < 0) : BQ g names t i (qs ++ [k]) (ds.set k (dv ds p0 + 1)) ∧ (qs ++ [k])[i]? = some p0 := by
  have hkl : k < ds.length := by rw [h.len]; exact hk
  have hkq : k ∉ qs := fun hm => by
    obtain ⟨m, e, _⟩ := h.ins k hm
    omega
  obtain ⟨hi, ei⟩ := List.getElem?_eq_some_iff.1 hp
  have hpq : p0 ∈ qs := List.mem_of_getElem? hp
  obtain ⟨s, es, hs⟩ := h.ins p0 hpq
  have hp0k : p0 ≠ k := fun e => hkq (e ▸ hpq)
  have same : ∀ p ∈ qs, dv (ds.set k (dv ds p0 + 1)) p = dv ds p := fun p hpm => by
    rw [dv_set hkl, if_neg (fun e : p = k => hkq (e ▸ hpm))]
  have hmin : IsMin g (nm names t) (s + 1) (nm names k) := by
    refine ⟨⟨_, hl, hs.1⟩, fun j hj hw => ?_⟩
    obtain ⟨m, hm, hmm⟩ := isMin_of hw
    exact hkq (h.level hg hn hp m k hk hmm (by omega))
  have hi' : (qs ++ [k])[i]? = some p0 := by rw [List.getElem?_append_left hi]; exact hp
  refine ⟨⟨by rw [List.length_set]; exact h.len, ?_, ?_, ?_, ?_, ?_, ?_, ?_, List.mem_append_left _ h.has⟩, hi'⟩
  · rw [List.nodup_append]
    exact ⟨h.nd, by simp, fun a ha b hb e => hkq (by rw [List.mem_singleton.1 hb] at e; exact e ▸ ha)⟩
  · intro p hpm
    rcases List.mem_append.1 hpm with hpm | hpm
    · exact h.lt p hpm
    · rw [List.mem_singleton.1 hpm]; exact hk
  · intro j hj hjn
    rw [List.mem_append, List.mem_singleton] at hjn
    rw [dv_set hkl, if_neg (fun e => hjn (.inr e))]
    exact h.out j hj (fun e => hjn (.inl e))
  · intro j hj
    rcases List.mem_append.1 hj with hj | hj
    · rw [same j hj]; exact h.ins j hj
    · rw [List.mem_singleton.1 hj]
      refine ⟨s + 1, ?_, hmin⟩
      rw [dv_set hkl, if_pos rfl, es]
      simp
  · rw [List.pairwise_append]
    refine ⟨h.sorted.imp_of_mem fun {a b} ha hb hab => by rw [same a ha, same b hb]; exact hab, by simp, fun a ha b hb => ?_⟩
    rw [List.mem_singleton.1 hb, same a ha, dv_set hkl, if_pos rfl]
    exact h.near p0 hp a ha
  · intro p hpm q hq hlq
    rw [List.take_append_of_le_length (by omega)] at hpm
    exact List.mem_append_left _ (h.closed p hpm q hq hlq)
  · intro p1 hp1 p hpm
    rw [hi'] at hp1
    injection hp1 with hp1
    subst hp1
    rw [same p0 hpq]
    rcases List.mem_append.1 hpm with hpm | hpm
    · rw [same p hpm]; exact h.near p0 hp p hpm
    · rw [List.mem_singleton.1 hpm, dv_set hkl, if_pos rfl]
      omega
/-- all that lead to it have been seen -/
theorem BQ.next (h : BQ g names t i qs ds) {p0 : Nat} (hp : qs[i]? = some p0) (hall : ∀ k ∈ bck g names p0, k ∈ qs) : BQ g names t (i + 1) qs ds := by
  obtain ⟨hi, ei⟩ := List.getElem?_eq_some_iff.1 hp
  have htk : qs.take (i + 1) = qs.take i ++ [p0] := by rw [List.take_succ_eq_append_getElem hi, ei]
  refine ⟨h.len, h.nd, h.lt, h.out, h.ins, h.sorted, fun p hpm q hq hlq => ?_, fun p1 hp1 p hpm => ?_, h.has⟩
  · rw [htk, List.mem_append, List.mem_singleton] at hpm
    rcases hpm with hpm | rfl
    · exact h.closed p hpm q hq hlq
    · exact hall q (mem_bck.2 ⟨hq, hlq⟩)
  · obtain ⟨hi1, ei1⟩ := List.getElem?_eq_some_iff.1 hp1
    have h1 := List.pairwise_iff_getElem.1 h.sorted i (i + 1) hi hi1 (by omega)
    rw [ei, ei1] at h1
    have := h.near p0 hp p hpm
    omega
theorem BQ.len_le (h : BQ g names t i qs ds) : qs.length ≤ names.length := by
  have := List.Nodup.length_le_of_subset h.nd (l₂ := List.range names.length) (fun p hp => List.mem_range.2 (h.lt p hp))
  rwa [List.length_range] at this
theorem BQ.val (h : BQ g names t i qs ds) {p : Nat} (hp : p ∈ qs) : 0 ≤ dv ds p := by
  obtain ⟨m, e, _⟩ := h.ins p hp
  omega
theorem BQ.far (hg : ∀ d ∈ g, d.f ∈ names ∧ d.t ∈ names) (hn : names.Nodup) (h : BQ g names t qs.length qs ds) : Far g names ds (nm names t) := by
  have all : ∀ (m : Nat) (a : Nat), a < names.length → Walk g m (nm names a) (nm names t) → a ∈ qs := by
    intro m
    induction m with
    | zero =>
      intro a ha hw
      have e : nm names a = nm names t := hw
      rw [nm_inj hn ha (h.lt t h.has) e]
      exact h.has
    | succ m ih =>
      rintro a ha ⟨c, hc, hw⟩
      have hcn : c ∈ names := by
        obtain ⟨d, hd, _, rfl⟩ := leadsB_iff.1 hc
        exact (hg d hd).2
      obtain ⟨q, hq, rfl⟩ := nm_ex hcn
      exact h.closed q (by rw [List.take_length]; exact ih q hq hw) a ha hc
  refine ⟨h.len, fun k hk hk' => ?_⟩
  rw [← dv_eq hk', ← nm_eq hk]
  by_cases hm : k ∈ qs
  · obtain ⟨m, e, hmin⟩ := h.ins k hm
    rw [e]
    exact hmin.dist
  · exact .inl ⟨h.out k hk hm, fun m hw => hm (all m k hk hw)⟩
end
/-! the best way round from a place -/
def BestL (ds : List Int) (l : List Nat) (b : Int) : Prop := (b = 0 ∧ ∀ k ∈ l, dv ds k < 0) ∨ (∃ k ∈ l, 0 ≤ dv ds k ∧ b = dv ds k + 1 ∧ ∀ j ∈ l, 0 ≤ dv ds j → b ≤ dv ds j + 1)
theorem BestL.nil (ds : List Int) : BestL ds [] 0 := .inl ⟨rfl, by simp⟩
theorem BestL.nonneg {ds : List Int} {l : List Nat} {b : Int} (h : BestL ds l b) : 0 ≤ b := by
  rcases h with ⟨rfl, _⟩ | ⟨k, _, h, rfl, _⟩ <;> omega
theorem BestL.skip {ds : List Int} {l : List Nat} {b : Int} {j : Nat} (h : BestL ds l b) (hs : dv ds j < 0 ∨ (b ≠ 0 ∧ b ≤ dv ds j + 1)) : BestL ds (l ++ [j]) b := by
  rcases h with ⟨rfl, h⟩ | ⟨k, hk, h0, hb, h⟩
  · refine .inl ⟨rfl, fun k hk => ?_⟩
    rcases List.mem_append.1 hk with hk | hk
    · exact h k hk
    · rw [List.mem_singleton.1 hk]
      rcases hs with hs | hs
      · exact hs
      · exact absurd rfl hs.1
  · refine .inr ⟨k, List.mem_append_left _ hk, h0, hb, fun i hi hi0 => ?_⟩
    rcases List.mem_append.1 hi with hi | hi
    · exact h i hi hi0
    · rw [List.mem_singleton.1 hi] at hi0 ⊢
      rcases hs with hs | hs
      · omega
      · exact hs.2
theorem BestL.take {ds : List Int} {l : List Nat} {b : Int} {j : Nat} (h : BestL ds l b) (h0 : 0 ≤ dv ds j) (hb : b = 0 ∨ dv ds j + 1 < b) : BestL ds (l ++ [j]) (dv ds j + 1) := by
  refine .inr ⟨j, by simp, h0, rfl, fun i hi hi0 => ?_⟩
  rcases List.mem_append.1 hi with hi | hi
  · rcases h with ⟨_, h⟩ | ⟨k, hk, hk0, hbk, h⟩
    · have := h i hi
      omega
    · have := h i hi hi0
      omega
  · rw [List.mem_singleton.1 hi]
    exact Int.le_refl _
theorem BestL.thr {g : List Dp} {names ds : List Int} {i : Nat} {b : Int} (hg : ∀ d ∈ g, d.f ∈ names ∧ d.t ∈ names) (hF : Far g names ds (nm names i)) (h : BestL ds (adj g names i) b) : IsThr g (nm names i) b := by
  refine BestT.thr (ds := ds) hg hF ?_
  have via : ∀ k, Via g names ds (nm names i) k ↔ k ∈ adj g names i ∧ 0 ≤ dv ds k := fun k => by
    constructor
    · rintro ⟨hk, hk', hl, h0⟩
      exact ⟨mem_adj.2 ⟨hk, by rw [nm_eq hk]; exact hl⟩, by rw [dv_eq hk']; exact h0⟩
    · rintro ⟨hm, h0⟩
      obtain ⟨hk, hl⟩ := mem_adj.1 hm
      have hk' : k < ds.length := by rw [hF.1]; exact hk
      exact ⟨hk, hk', by rw [← nm_eq hk]; exact hl, by rw [← dv_eq hk']; exact h0⟩
  rcases h with ⟨rfl, h⟩ | ⟨k, hk, h0, rfl, h⟩
  · refine .inl ⟨rfl, fun k _ hv => ?_⟩
    obtain ⟨h1, h2⟩ := (via k).1 hv
    have := h k h1
    omega
  · have hkn := (mem_adj.1 hk).1
    have hk' : k < ds.length := by rw [hF.1]; exact hkn
    refine .inr ⟨k, hk', hkn, (via k).2 ⟨hk, h0⟩, by rw [dv_eq hk'], fun j hj _ hv => ?_⟩
    obtain ⟨h1, h2⟩ := (via j).1 hv
    have := h j h1 h2
    rwa [dv_eq hj] at this
end Go.Proofs.Ytedcnpaomphffaa
namespace Go.Proofs.Ytedcnpaomphffaa
open Go.RowKit Go.Maps Go.Sort Go.Lib Go.Shelf Go.Proofs.YtedcnpaomphffaaW.PrintWords Go.Proofs.YtedcnpaomphffaaW.PrintLast Go.Proofs.YtedcnpaomphffaaW.PrintMore
set_option linter.unusedVariables false
set_option linter.unusedSimpArgs false
set_option linter.unusedSectionVars false
/-! ### deps -/
theorem Hist.below {w w' : World} {base hb b2 b3 : Nat} {h : Hs} {L2 : List (ByteArray × Sv)} {L3 : List (Pl × Int)} (H : Hist w base hb h b2 b3 L2 L3) (B : Below w.heap.size w w') : Hist w' base hb h b2 b3 L2 L3 where
  c2 := (B.cell (World.block_lt_of_cell? _ _ H.c2)).trans H.c2
  c3 := (B.cell (World.block_lt_of_cell? _ _ H.c3)).trans H.c3
  vs := H.vs.kept (grown_of_below B none)
  t3 := H.t3.kept (grown_of_below B none) (by simp)
  len := H.len
  got3 := H.got3
  pl := by
    obtain ⟨b1, L1, h1, h2, h3⟩ := H.pl
    exact ⟨b1, L1, (B.cell (World.block_lt_of_cell? _ _ h1)).trans h1, h2.kept (grown_of_below B none) (by simp), h3⟩
/-- a table of dependencies under way: those of S -/
structure DpT (w wr : World) (p b : Nat) (L : List (Dp × Int)) (S : Dp → Prop) : Prop where
  below : Below w.heap.size w wr
  cp : wr.heap[p]? = some (.cells #[.map (some b)] 61 (0, 0))
  tab : TabD wr b L.length L
  mem : ∀ d, (∃ v, (d, v) ∈ L) ↔ S d
  lo : w.heap.size ≤ b
  bp : b < p
section
variable {w wr w2 : World} {p b : Nat} {L : List (Dp × Int)} {S S' : Dp → Prop}
theorem DpT.congr (h : DpT w wr p b L S) (e : ∀ d, S d ↔ S' d) : DpT w wr p b L S' := ⟨h.below, h.cp, h.tab, fun d => (h.mem d).trans (e d), h.lo, h.bp⟩
theorem DpT.plt (h : DpT w wr p b L S) : p < wr.heap.size := (Array.getElem?_eq_some_iff.1 h.cp).1
theorem DpT.kept (h : DpT w wr p b L S) (hg : wr.grownBy w2 none) : DpT w w2 p b L S where
  below := h.below.grown hg h.below.size (by simp)
  cp := (hg.block p h.plt (by simp)).trans h.cp
  tab := h.tab.kept hg (by simp)
  mem := h.mem
  lo := h.lo
  bp := h.bp
theorem DpT.turned (h : DpT w wr p b L S) {r : Nat} (hg : wr.grownBy w2 (some r)) (hr : p < r) : DpT w w2 p b L S where
  below := h.below.grown hg h.below.size (fun k hk => by injection hk with hk; have := h.lo; have := h.bp; omega)
  cp := (hg.block p h.plt (fun e => by injection e with e; omega)).trans h.cp
  tab := h.tab.kept hg (fun e => by injection e with e; have := h.bp; omega)
  mem := h.mem
  lo := h.lo
  bp := h.bp
theorem DpT.put {n : Nat} {d : Dp} (h : DpT w wr p b L S) (hT : TabD w2 b n (upd L d 1)) (hm : wr.mapTurned w2 b) : DpT w w2 p b (upd L d 1) (fun x => x = d ∨ S x) where
  below := h.below.grown (turned_grown hm) h.below.size (fun k hk => by injection hk with hk; have := h.lo; omega)
  cp := ((turned_grown hm).block p h.plt (fun e => by injection e with e; have := h.bp; omega)).trans h.cp
  tab := hT.exact
  mem := fun x => by
    constructor
    · rintro ⟨v, hv⟩
      rcases (upd_mem h.tab.tidy d 1 _).1 hv with e | ⟨h1, _⟩
      · injection e with e; exact .inl e
      · exact .inr ((h.mem x).1 ⟨v, h1⟩)
    · rintro (rfl | hx)
      · exact ⟨1, (upd_mem h.tab.tidy x 1 _).2 (.inl rfl)⟩
      · by_cases e : x = d
        · subst e; exact ⟨1, (upd_mem h.tab.tidy x 1 _).2 (.inl rfl)⟩
        · obtain ⟨v, hv⟩ := (h.mem x).2 hx
          exact ⟨v, (upd_mem h.tab.tidy d 1 _).2 (.inr ⟨hv, e⟩)⟩
  lo := h.lo
  bp := h.bp
theorem DpT.cell (h : DpT w wr p b L S) : wr.cell? ⟨p, 0, none⟩ = some (.map (some b)) := cell_of_row wr _ 0 _ 61 (0, 0) h.cp
theorem DpT.len (h : DpT w wr p b L S) {G : List Dp} (hS : ∀ d, S d → d ∈ G) : L.length ≤ G.length := by
  have hn : (L.map Prod.fst).Nodup := by
    rw [List.nodup_iff_pairwise_ne, List.pairwise_map]
    exact h.tab.tidy
  have := List.Nodup.length_le_of_subset hn (l₂ := G) (fun d hd => by
    obtain ⟨e, he, rfl⟩ := List.mem_map.1 hd
    exact hS _ ((h.mem _).1 ⟨e.2, he⟩))
  rwa [List.length_map] at this
end
def AddPost (w wr : World) (p b : Nat) (d : Dp) (S : Dp → Prop) (e : Ending) (w' : World) : Prop := e = .returned (.tuple #[]) ∧ (∃ L', DpT w w' p b L' (fun x => (x = d ∧ d.f ≠ d.t) ∨ S x)) ∧ wr.grownBy w' (some b)
set_option maxHeartbeats 2000000 in
set_option maxRecDepth 100000 in
theorem add_calls {w wr : World} {p b : Nat} {L : List (Dp × Int)} {S : Dp → Prop} (h : DpT w wr p b L S) (hl : L.length ≤ 65536) (d : Dp) (hd : okDp d) :
    Calls Try.prog 49 #[.int .i64 d.f, .int .i64 d.t, .int .i64 d.k, .pointer (some ⟨p, 0, none⟩)] wr (AddPost w wr p b d S) := by
  have c0 := h.cell
  obtain ⟨w2, hst, hT, hm⟩ := Tab.store (t := 61) keyD valI Try.underlying61 h.tab (by simp only [maxLen]; omega) hd 1
  unfold mkN at hst
  by_cases e : d.f = d.t
  · have F : AddPost w wr p b d S (.returned (.tuple #[])) wr := ⟨rfl, ⟨L, h.congr fun x => ⟨.inr, fun k => k.resolve_left (fun k => k.2 e)⟩⟩, ⟨rfl, rfl, rfl, Nat.le_refl _, fun _ _ _ => rfl⟩⟩
    have e' : (d.f != d.t) = false := by simpa using e
    obtain ⟨f, t, k⟩ := d
    clear h hT hm hst e hd
    dsimp only at *
    replace F := Aside0.mk F
    go_enter Try.func49, Try.ntmps49
    go_wp2
    go_end0
    exact F.out
  · have F : AddPost w wr p b d S (.returned (.tuple #[])) w2 := ⟨rfl, ⟨_, (h.put hT hm).congr fun x => ⟨fun k => k.imp (fun k => ⟨k, e⟩) id, fun k => k.imp (fun k => k.1) id⟩⟩, turned_grown hm⟩
    have e' : (d.f != d.t) = true := by simpa using e
    obtain ⟨f, t, k⟩ := d
    clear h hT hm e hd
    dsimp only at *
    replace F := Aside0.mk F
    go_enter Try.func49, Try.ntmps49
    go_wp2
    go_end0
    exact F.out
/-- within the range over the versions -/
def D1J (w : World) (h : Hs) (b2 r p b : Nat) (L2 : List (ByteArray × Sv)) (wr : World) : Prop :=
  ∃ (vis rem : List (ByteArray × Sv)) (L : List (Dp × Int)), (vis ++ rem).Perm L2 ∧ RngV wr b2 r L2.length L2 rem ∧ DpT w wr p b L (fun d => ∃ e ∈ vis, pairD (vers h e.1) d)
/-- the pairs of a row, as far as the second of them -/
def pairT (l : List Int) (i : Nat) (d : Dp) : Prop := ∃ j, j + 1 < i ∧ d.k = 2 ∧ l[j]? = some d.f ∧ l[j + 1]? = some d.t
def D1I (w : World) (b2 r p b : Nat) (L2 rem : List (ByteArray × Sv)) (S : Dp → Prop) (xs : List Int) (m : Nat) (v : Value) (wr : World) : Prop :=
  ∃ (i : Nat) (L : List (Dp × Int)), v = .int .i64 (i : Int) ∧ i ≤ xs.length ∧ RngV wr b2 r L2.length L2 rem ∧ wr.rangeLeft b2 r = m ∧ DpT w wr p b L (fun d => pairT xs i d ∨ S d)
def D2J (w : World) (h : Hs) (p b : Nat) (v : Value) (wr : World) : Prop :=
  ∃ (k : Nat) (L : List (Dp × Int)), v = .int .i64 (k : Int) ∧ k ≤ h.A.length ∧ DpT w wr p b L (fun d => (∃ item, pairD (vers h item) d) ∨ ∃ a ∈ h.A.take k, readD h a d)
theorem pair_graph {h : Hs} (k : OkH h) {item : ByteArray} {d : Dp} (hp : pairD (vers h item) d) : d ∈ depsL h := (deps_iff k d).2 (.inl ⟨item, hp⟩)
theorem pairT_all {l : List Int} {i : Nat} (hi : l.length ≤ i) (d : Dp) : pairT l i d ↔ pairD l d := by
  constructor
  · rintro ⟨j, _, h1, h2, h3⟩
    exact ⟨j, h1, h2, h3⟩
  · rintro ⟨j, h1, h2, h3⟩
    have := (List.getElem?_eq_some_iff.1 h3).1
    exact ⟨j, by omega, h1, h2, h3⟩
theorem pairT_one (l : List Int) (d : Dp) : ¬ pairT l 0 d := by
  rintro ⟨j, h, _⟩
  omega
theorem pairT_first (l : List Int) (d : Dp) : ¬ pairT l 1 d := by
  rintro ⟨j, h, _⟩
  omega
theorem pairT_next {l : List Int} {i : Nat} (hi : i + 1 < l.length) (hn : l.Nodup) (d : Dp) : pairT l (i + 2) d ↔ (d = ⟨l[i], l[i + 1], 2⟩ ∧ l[i] ≠ l[i + 1]) ∨ pairT l (i + 1) d := by
  have hne : l[i] ≠ l[i + 1] := fun e => by
    have := (List.getElem_inj hn).1 e
    omega
  constructor
  · rintro ⟨j, h0, h1, h2, h3⟩
    rcases Nat.lt_or_ge (j + 1) (i + 1) with e | e
    · exact .inr ⟨j, e, h1, h2, h3⟩
    · obtain rfl : j = i := by omega
      obtain ⟨_, e2⟩ := List.getElem?_eq_some_iff.1 h2
      obtain ⟨_, e3⟩ := List.getElem?_eq_some_iff.1 h3
      obtain ⟨f, t, k⟩ := d
      simp only at h1 e2 e3
      subst h1
      exact .inl ⟨by rw [e2, e3], hne⟩
  · rintro (⟨rfl, _⟩ | ⟨j, h0, h⟩)
    · exact ⟨i, by omega, rfl, List.getElem?_eq_getElem (by omega), List.getElem?_eq_getElem hi⟩
    · exact ⟨j, by omega, h⟩
theorem okN_vers {h : Hs} (hc : ∀ x ∈ h.C, okN x) {item : ByteArray} {x : Int} (hx : x ∈ vers h item) : okN x := hc x (mem_vers.1 hx).1
theorem deps_small {h : Hs} (k : OkH h) : (depsL h).length ≤ 8192 := by
  have := deps_len h
  have := k.la
  omega
def DepsPost (w : World) (h : Hs) (e : Ending) (w' : World) : Prop := ∃ b L, e = .returned (.map (some b)) ∧ TabD w' b L.length L ∧ (∀ d, (∃ v, (d, v) ∈ L) ↔ d ∈ depsL h) ∧ L.length ≤ 8192 ∧ w.heap.size ≤ b ∧ Below w.heap.size w w'
def atOf (h : Hs) (a : Ac) : Nat := if a.v = 0 then 0 else (vers h a.item).idxOf a.v + 1
def D2C (w1 : World) (h : Hs) (p b bt : Nat) (S0 : Dp → Prop) (a : Ac) (v : Value) (wx : World) : Prop :=
  ∃ L : List (Dp × Int), v = .int .i64 (atOf h a : Int) ∧ DpT w1 wx p b L (fun d => (d = ⟨a.v, a.t, 1⟩ ∧ a.v ≠ 0 ∧ a.v ≠ a.t) ∨ S0 d) ∧ wx.heap[bt]? = some (.cells #[.int .i64 a.t, .bool a.wr, .string a.item, .int .i64 a.v] 40 (0, 0)) ∧ L.length ≤ 8192
theorem DpT.start {w1 : World} : DpT w1 ((w1.alloc (.map #[] 0)).alloc (.cells #[.map (some w1.heap.size)] 61)) (w1.heap.size + 1) w1.heap.size [] (fun _ => False) := by
  obtain ⟨m1, hm1⟩ : ∃ m1, m1 = w1.alloc (.map #[] 0) := ⟨_, rfl⟩
  have s1 : m1.heap.size = w1.heap.size + 1 := by rw [hm1]; simp
  have g1 : w1.grownBy m1 none := by rw [hm1]; exact World.grownBy_alloc _ _ _
  have g2 : m1.grownBy (m1.alloc (.cells #[.map (some w1.heap.size)] 61)) none := World.grownBy_alloc _ _ _
  have t1 : TabD m1 w1.heap.size 0 [] := by rw [hm1]; exact Tab.made w1
  have hn := heap_alloc_new m1 (.cells #[.map (some w1.heap.size)] 61)
  rw [s1] at hn
  rw [← hm1]
  exact ⟨(Below.refl _ w1).grown (trans_grown g1 g2) (Nat.le_refl _) (by simp), hn, t1.kept g2 (by simp), fun d => by simp, Nat.le_refl _, by omega⟩
theorem read_last {h : Hs} {a : Ac} (hw : a.wr = false) (hv : a.v ≠ a.t) (S : Dp → Prop) (hlt : ¬ atOf h a < (vers h a.item).length) (d : Dp) : ((d = ⟨a.v, a.t, 1⟩ ∧ a.v ≠ 0 ∧ a.v ≠ a.t) ∨ S d) ↔ (S d ∨ readD h a d) := by
  have hn : (vers h a.item)[if a.v = 0 then 0 else (vers h a.item).idxOf a.v + 1]? = none := List.getElem?_eq_none (by unfold atOf at hlt; omega)
  constructor
  · rintro (⟨rfl, h1, h2⟩ | h1)
    · exact .inr ⟨hw, hv, h2, .inl ⟨h1, rfl⟩⟩
    · exact .inl h1
  · rintro (h1 | ⟨_, _, h2, ⟨h3, rfl⟩ | ⟨w, h3, _⟩⟩)
    · exact .inr h1
    · exact .inl ⟨rfl, h3, hv⟩
    · rw [hn] at h3; cases h3
theorem read_more {h : Hs} {a : Ac} (hw : a.wr = false) (hv : a.v ≠ a.t) (S : Dp → Prop) (hlt : atOf h a < (vers h a.item).length) (d : Dp) : ((d = ⟨a.t, (vers h a.item)[atOf h a], 3⟩ ∧ a.t ≠ (vers h a.item)[atOf h a]) ∨ ((d = ⟨a.v, a.t, 1⟩ ∧ a.v ≠ 0 ∧ a.v ≠ a.t) ∨ S d)) ↔ (S d ∨ readD h a d) := by
  have hn : (vers h a.item)[if a.v = 0 then 0 else (vers h a.item).idxOf a.v + 1]? = some (vers h a.item)[atOf h a] := List.getElem?_eq_getElem hlt
  constructor
  · rintro (⟨rfl, h1⟩ | ⟨rfl, h1, h2⟩ | h1)
    · exact .inr ⟨hw, hv, h1, .inr ⟨_, hn, rfl⟩⟩
    · exact .inr ⟨hw, hv, h2, .inl ⟨h1, rfl⟩⟩
    · exact .inl h1
  · rintro (h1 | ⟨_, _, h2, ⟨h3, rfl⟩ | ⟨w, h3, rfl⟩⟩)
    · exact .inr (.inr h1)
    · exact .inr (.inl ⟨rfl, h3, hv⟩)
    · rw [hn] at h3
      injection h3 with h3
      subst h3
      exact .inl ⟨rfl, h2⟩
set_option maxHeartbeats 16000000 in
set_option maxRecDepth 100000 in
theorem deps_calls (z : HV) (w : World) (hz : z.OK w) (hok : OkH z.h) {base hb b2 b3 : Nat} {L2 : List (ByteArray × Sv)} {L3 : List (Pl × Int)} (H : Hist w base hb z.h b2 b3 L2 L3) :
    Calls Try.prog 28 #[.pointer (some ⟨hb, 0, none⟩), mkH z] w (DepsPost w z.h) := by
  obtain ⟨w1, hw1, B1, hz1, b0, b1⟩ := hv_box z w hz
  obtain ⟨bx, hbx⟩ : ∃ bx, bx = w.heap.size := ⟨_, rfl⟩
  have hcN : ∀ x ∈ z.h.C, okN x := hz.cw
  have haN := hz.aw
  obtain ⟨A1, c1, A2, c2, h⟩ := z
  have H1 := H.below B1
  have hbl : hb < w1.heap.size := Nat.lt_of_lt_of_le (World.block_lt_of_cell? _ _ H.c2) B1.size
  have hb2 : b2 < w1.heap.size := Nat.lt_of_lt_of_le H.vs.tab.lt B1.size
  have hb3 : b3 < w1.heap.size := Nat.lt_of_lt_of_le H.t3.lt B1.size
  dsimp only [mkH] at *
  have T0 := @DpT.start w1
  obtain ⟨w2, hw2⟩ : ∃ w2, w2 = (w1.alloc (.map #[] 0)).alloc (.cells #[.map (some w1.heap.size)] 61) := ⟨_, rfl⟩
  obtain ⟨b, hbb⟩ : ∃ b, b = w1.heap.size := ⟨_, rfl⟩
  obtain ⟨p, hpp⟩ : ∃ p, p = w1.heap.size + 1 := ⟨_, rfl⟩
  rw [← hw2, ← hpp, ← hbb] at T0
  have hvN : ∀ item, (vers h item).Nodup := fun item => vers_nodup hok item
  have row : ∀ W, Below w1.heap.size w1 W → ∀ item, dI.R 3 W base (fun _ => True) (mvS ((got L2 item).getD none)) (vers h item) := fun W B item => (H1.below B).vs.row item
  have rowL : ∀ W, Below w1.heap.size w1 W → ∀ e ∈ L2, dI.R 3 W base (fun _ => True) (mvS e.2) (vers h e.1) := fun W B e he => (H1.below B).vs.rows e he
  have hoff := H1.vs.off
  have rowlt : ∀ e ∈ L2, ∀ k, (mvS e.2).ownBlock = some k → k < w1.heap.size := fun e he k hk => (H1.vs.typed he hk).2.1
  have rowlt2 : ∀ item k, (mvS ((got L2 item).getD none)).ownBlock = some k → k < w1.heap.size := fun item k hk => (flat_typed (H1.vs.row item) k hk).2.1
  have cell1 : ∀ W, Below w1.heap.size w1 W → W.cell? ⟨hb, 1, none⟩ = some (.map (some b2)) := fun W B => (H1.below B).c2
  have cell2 : ∀ W, Below w1.heap.size w1 W → W.cell? ⟨hb, 2, none⟩ = some (.map (some b3)) := fun W B => (H1.below B).c3
  have look2 : ∀ W, Below w1.heap.size w1 W → ∀ item, okT item → (Instr.lookup 78 (.map (some b2)) (.string item) false).run Try.prog W = .ok (mvS ((got L2 item).getD none)) W := fun W B item hi => Tab.look1 (t := 78) keyT valS Try.underlying78 (H1.below B).vs.tab (zero22 _) hi
  have look3 : ∀ W, Below w1.heap.size w1 W → ∀ q : Pl, okP q → (Instr.lookup 79 (.map (some b3)) (.agg #[.int .i64 q.1, .string q.2]) false).run Try.prog W = .ok (.int .i64 ((got L3 q).getD 0)) W := fun W B q hq => Tab.look1 (t := 79) keyP valI Try.underlying79 (H1.below B).t3 (zero3 _) hq
  have got3 := H1.got3
  have H2 := H1.below T0.below
  obtain ⟨wR, hrng, hR0, gR, sR⟩ := Tab.range (t := 78) keyT Try.underlying78 H2.vs.tab
  have hpr : p < w2.heap.size := T0.plt
  have hb12 := T0.bp
  have hlo := T0.lo
  have J0 : D1J w1 h b2 w2.heap.size p b L2 wR := ⟨[], L2, [], List.Perm.refl _, hR0, (T0.kept gR).congr fun d => by simp⟩
  have d1 := cell1 _ T0.below
  obtain ⟨r, hr⟩ : ∃ r, r = w2.heap.size := ⟨_, rfl⟩
  rw [← hr] at hrng J0 hpr
  have n2b : b2 ≠ b := by omega
  have G8 := deps_small hok
  have hla := hok.la
  clear H H1 H2 hz T0 hR0 gR sR
  replace hr := Aside0.mk hr
  replace hbb := Aside0.mk hbb
  replace hpp := Aside0.mk hpp
  replace hw2 := Aside0.mk hw2
  replace J0 := Aside0.mk J0
  replace row := Aside0.mk row
  replace rowL := Aside0.mk rowL
  replace hoff := Aside0.mk hoff
  replace rowlt := Aside0.mk rowlt
  replace rowlt2 := Aside0.mk rowlt2
  replace cell1 := Aside0.mk cell1
  replace cell2 := Aside0.mk cell2
  replace look2 := Aside0.mk look2
  replace look3 := Aside0.mk look3
  replace got3 := Aside0.mk got3
  replace hvN := Aside0.mk hvN
  replace hcN := Aside0.mk hcN
  replace haN := Aside0.mk haN
  go_enter Try.func28, Try.ntmps28
  go_upto_region 1 with (fail)
  rw [← hw1, ← hbx]
  rw [← hbx] at b0 b1
  clear hw1
  replace hbx := Aside0.mk hbx
  have hmm := @run_makeMap Try.prog
  go_upto_region 3 with (fail)
  rw [← hw2.out, ← hpp.out, ← hbb.out]
  clear hmm
  go_wp2_with fail
  go_loopw [] (fun wr => D1J w1 h b2 r p b L2 wr) (fun wr => wr.rangeLeft b2 r)
  case atStart => exact J0.out
  case round =>
    clear J0 hrng d1
    obtain ⟨vis, rem, L, hp, hrg, T⟩ := hrel
    rcases hrg.next keyT valS 0 with ⟨hnil, hrun1⟩ | ⟨item, sv, w3, hmem, hokT, hrun1, hr3, hlt3, hg3, hs3, hent⟩
    · subst hnil
      rw [List.append_nil] at hp
      have J2 : D2J w1 h p b (.int .i64 0) wr := ⟨0, L, rfl, Nat.zero_le _, T.congr fun d => by
        constructor
        · rintro ⟨e, _, hd⟩
          exact .inl ⟨_, hd⟩
        · rintro (⟨item, hd⟩ | ⟨a, ha, _⟩)
          · cases hg : got L2 item with
            | none =>
              have := hoff.out item hg
              obtain ⟨j, _, hj, _⟩ := hd
              rw [this] at hj
              cases hj
            | some s => exact ⟨(item, s), hp.mem_iff.2 (got_mem hg), hd⟩
          · simp at ha⟩
      have hBW := T.below
      have d0 := (hBW.cell (World.block_lt_of_cell? _ _ b0)).trans b0
      have d1 := (hBW.cell (World.block_lt_of_cell? _ _ b1)).trans b1
      clear T hrg hp hBW
      replace J2 := Aside0.mk J2
      go_wp2_with fail
      go_loopw [47] (fun v wr => D2J w1 h p b v wr) (fun v _ => h.A.length - (intOf v).toNat)
      case atStart => exact J2.out
      case round =>
        clear J2 hrun1 d0 d1
        obtain ⟨k, L, rfl, hk, T⟩ := hrel
        have hzr := hz1.below T.below
        by_cases hlt5 : k < h.A.length
        · obtain ⟨ad, e1, q0, q1, q2, q3⟩ := CA_at hzr.a k hlt5
          dsimp only at e1 q0 q1 q2 q3
          have hm := List.getElem_mem hlt5
          have htk : h.A.take (k + 1) = h.A.take k ++ [h.A[k]] := List.take_succ_eq_append_getElem hlt5
          obtain ⟨hok1, hok2, hok3⟩ := haN.out _ hm
          generalize h.A[k] = a at *
          obtain ⟨W3, hW3⟩ : ∃ W3, W3 = wr.alloc (.cells #[.int .i64 a.t, .bool a.wr, .string a.item, .int .i64 a.v] 40) := ⟨_, rfl⟩
          have g3 : wr.grownBy W3 none := by rw [hW3]; exact World.grownBy_alloc _ _ _
          have T3 := T.kept g3
          have ob : W3.heap[wr.heap.size]? = some (.cells #[.int .i64 a.t, .bool a.wr, .string a.item, .int .i64 a.v] 40 (0, 0)) := by rw [hW3]; exact heap_alloc_new wr _
          have t0 := cell_of_row W3 _ 0 _ 40 (0, 0) ob
          have t1 := cell_of_row W3 _ 1 _ 40 (0, 0) ob
          have t2 := cell_of_row W3 _ 2 _ 40 (0, 0) ob
          have t3 := cell_of_row W3 _ 3 _ 40 (0, 0) ob
          have hpbt : p < wr.heap.size := T.plt
          obtain ⟨bt, hbt⟩ : ∃ bt, bt = wr.heap.size := ⟨_, rfl⟩
          rw [← hbt] at t0 t1 t2 t3 ob hpbt
          have Skip : (∀ d, ¬ readD h a d) → D2J w1 h p b (.int .i64 ((k : Int) + 1)) W3 := fun hno => ⟨k + 1, L, by simp, by omega, T3.congr fun d => by
            rw [htk]
            constructor
            · rintro (e | ⟨y, hy, e⟩)
              · exact .inl e
              · exact .inr ⟨y, List.mem_append_left _ hy, e⟩
            · rintro (e | ⟨y, hy, e⟩)
              · exact .inl e
              · rcases List.mem_append.1 hy with hy | hy
                · exact .inr ⟨y, hy, e⟩
                · rw [List.mem_singleton.1 hy] at e
                  exact absurd e (hno d)⟩
          by_cases hsk : a.wr = true ∨ a.v = a.t
          · have N := Skip (fun d e => by
              obtain ⟨e1, e2, _⟩ := e
              rcases hsk with hsk | hsk
              · rw [hsk] at e1; cases e1
              · exact e2 hsk)
            clear Skip T T3 hzr hm htk ob
            replace N := Aside0.mk N
            cases kw : a.wr with
            | true =>
              rw [kw] at t1
              replace kw := Aside0.mk kw
              replace hsk := Aside0.mk hsk
              go_upto_region 15 with (fail)
              rw [← hW3, ← hbt]
              replace e1 := Aside0.mk e1
              clear hW3
              replace hbt := Aside0.mk hbt
              go_wp2
              refine ⟨N.out, ?_⟩
              simp [intOf]
              omega
            | false =>
              have hvt : a.v = a.t := hsk.resolve_left (fun e => by rw [kw] at e; cases e)
              have hvt' : (a.v == a.t) = true := by simpa using hvt
              rw [kw] at t1
              replace kw := Aside0.mk kw
              replace hsk := Aside0.mk hsk
              replace hvt := Aside0.mk hvt
              go_upto_region 15 with (fail)
              rw [← hW3, ← hbt]
              replace e1 := Aside0.mk e1
              clear hW3
              replace hbt := Aside0.mk hbt
              go_wp2
              refine ⟨N.out, ?_⟩
              simp [intOf]
              omega
          · have kw : a.wr = false := by
              cases hw : a.wr with
              | true => exact absurd (.inl hw) hsk
              | false => rfl
            have hvt : a.v ≠ a.t := fun e => hsk (.inr e)
            have hvt' : (a.v == a.t) = false := by simpa using hvt
            have hok' := okT
            have Go2 : ∀ L5 W5, DpT w1 W5 p b L5 (fun d => ((∃ item, pairD (vers h item) d) ∨ ∃ a ∈ h.A.take k, readD h a d) ∨ readD h a d) → D2J w1 h p b (.int .i64 ((k : Int) + 1)) W5 := fun L5 W5 T5 => ⟨k + 1, L5, by simp, by omega, T5.congr fun d => by
              rw [htk, or_assoc]
              refine or_congr Iff.rfl ?_
              constructor
              · rintro (⟨y, hy, e⟩ | e)
                · exact ⟨y, List.mem_append_left _ hy, e⟩
                · exact ⟨a, by simp, e⟩
              · rintro ⟨y, hy, e⟩
                rcases List.mem_append.1 hy with hy | hy
                · exact .inl ⟨y, hy, e⟩
                · rw [List.mem_singleton.1 hy] at e
                  exact .inr e⟩
            have hS0 : ∀ d, ((∃ item, pairD (vers h item) d) ∨ ∃ a ∈ h.A.take k, readD h a d) → d ∈ depsL h := fun d hd => (deps_iff hok d).2 (hd.imp id fun ⟨y, hy, e⟩ => ⟨y, List.mem_of_mem_take hy, e⟩)
            have hL8 : L.length ≤ 8192 := Nat.le_trans (T.len hS0) G8
            have hLen : ∀ L5 W5, DpT w1 W5 p b L5 (fun d => (d = ⟨a.v, a.t, 1⟩ ∧ a.v ≠ 0 ∧ a.v ≠ a.t) ∨ ((∃ item, pairD (vers h item) d) ∨ ∃ a ∈ h.A.take k, readD h a d)) → L5.length ≤ 8192 := fun L5 W5 T5 => Nat.le_trans (T5.len (fun d hd => by
              rcases hd with ⟨rfl, h1, h2⟩ | hd
              · exact (deps_iff hok _).2 (.inr ⟨a, hm, kw, hvt, h2, .inl ⟨h1, rfl⟩⟩)
              · exact hS0 d hd)) G8
            have hit : okT a.item := Nat.le_trans hok3 (by decide)
            have hgot := got3.out a.v a.item
            have hvm : a.v ≠ 0 → a.v ∈ vers h a.item := fun h0 => mem_vers.2 ((hok.rd a hm kw).resolve_left h0)
            generalize hSe : (fun d => (∃ item, pairD (vers h item) d) ∨ ∃ a ∈ h.A.take k, readD h a d) = S0 at *
            have hSe' : ∀ d, ((∃ item, pairD (vers h item) d) ∨ ∃ a ∈ h.A.take k, readD h a d) ↔ S0 d := fun d => by rw [← hSe]
            simp only [hSe'] at Go2 hS0 hLen
            clear Skip hzr hm htk hsk hSe hSe' hS0
            rw [kw] at t1 ob
            replace kw := Aside0.mk kw
            replace hvt := Aside0.mk hvt
            replace Go2 := Aside0.mk Go2
            replace hLen := Aside0.mk hLen
            replace hgot := Aside0.mk hgot
            replace hvm := Aside0.mk hvm
            go_upto_region 15 with (fail)
            rw [← hW3, ← hbt]
            replace e1 := Aside0.mk e1
            clear hW3
            replace hbt := Aside0.mk hbt
            clear T q0 q1 q2 q3 e1
            go_upto_if 62 with (fail)
            go_cut [12] (fun v12 wx => D2C w1 h p b bt S0 a v12 wx)
            case first =>
              by_cases h0 : a.v = 0
              · have h0' : (a.v != 0) = false := by simpa using h0
                have C : D2C w1 h p b bt S0 a (.int .i64 0) W3 := ⟨L, by unfold atOf; rw [if_pos h0]; rfl, T3.congr fun d => ⟨.inr, fun e => e.resolve_left (fun e => e.2.1 h0)⟩, kw.out ▸ ob, hL8⟩
                clear T3 ob
                replace h0 := Aside0.mk h0
                replace C := Aside0.mk C
                go_wp2
                go_meet
                exact C.out
              · have h0' : (a.v != 0) = true := by simpa using h0
                have ADD := add_calls T3 (by omega) ⟨a.v, a.t, 1⟩ ⟨hok2, hok1, by show (Lit.int .i64 1).wf = true; decide⟩
                have hat : (((vers h a.item).idxOf a.v : Int) + 1) = (atOf h a : Int) := by unfold atOf; rw [if_neg h0]; simp
                have hbtb : bt ≠ b := by have := T3.bp; omega
                have C : ∀ W4, AddPost w1 W3 p b ⟨a.v, a.t, 1⟩ S0 (.returned (.tuple #[])) W4 → Below w1.heap.size w1 W4 ∧ W4.heap[bt]? = some (.cells #[.int .i64 a.t, .bool false, .string a.item, .int .i64 a.v] 40 (0, 0)) ∧ (Instr.lookup 79 (.map (some b3)) (.agg #[.int .i64 a.v, .string a.item]) false).run Try.prog W4.drew = .ok (.int .i64 (atOf h a : Int)) W4.drew ∧ D2C w1 h p b bt S0 a (.int .i64 (atOf h a : Int)) W4.drew := by
                  rintro W4 ⟨_, ⟨L4, T4⟩, G4⟩
                  have ob4 := (G4.block bt (Array.getElem?_eq_some_iff.1 ob).1 (fun e => hbtb (by injection e))).trans ob
                  have T5 := T4.kept (drewG W4)
                  have T6 : DpT w1 W4.drew p b L4 (fun d => (d = ⟨a.v, a.t, 1⟩ ∧ a.v ≠ 0 ∧ a.v ≠ a.t) ∨ S0 d) := T5.congr fun d => ⟨fun e => e.imp (fun e => ⟨e.1, h0, e.2⟩) id, fun e => e.imp (fun e => ⟨e.1, e.2.2⟩) id⟩
                  have lk := look3.out W4.drew T5.below (a.v, a.item) ⟨hok2, hit⟩
                  rw [hgot.out, if_pos (hvm.out h0), Option.getD_some, hat] at lk
                  exact ⟨T4.below, ob4, lk, L4, rfl, T6, kw.out ▸ ob4, hLen.out _ _ T6⟩
                clear T3 hat
                dsimp only at ADD
                replace h0 := Aside0.mk h0
                replace C := Aside0.mk C
                go_wp2_with fail
                refine ADD.mono ?_
                rintro e W4 ⟨rfl, AP, G4⟩
                obtain ⟨B4, ob4, lk, C4⟩ := C.out W4 ⟨rfl, AP, G4⟩
                have d2 := cell2.out W4 B4
                have s2 := cell_of_row W4 _ 2 _ 40 (0, 0) ob4
                have s3 := cell_of_row W4 _ 3 _ 40 (0, 0) ob4
                clear AP G4 B4 ob4 t0 t1 t2 t3 ob ADD C
                replace C4 := Aside0.mk C4
                generalize (atOf h a : Int) = at5 at lk C4
                go_wp2_with fail
                go_region_held3 (fun V => V.cell? ⟨hb, 2, none⟩ = some (.map (some b3)) ∧ V.cell? ⟨bt, 2, none⟩ = some (.string a.item) ∧ V.cell? ⟨bt, 3, none⟩ = some (.int .i64 a.v)) (exact ⟨d2, s2, s3⟩) (fail)
                all_goals
                  go_wp2
                  go_meet
                  exact C4.out
            case rest =>
              clear T3 t0 t1 t2 t3 ob
              obtain ⟨L6, rfl, T6, ob6, hl6⟩ := hcut
              rw [kw.out] at ob6
              have s0 := cell_of_row wc _ 0 _ 40 (0, 0) ob6
              have s2 := cell_of_row wc _ 2 _ 40 (0, 0) ob6
              have d1 := cell1.out wc T6.below
              have T7 := T6.kept (drewG wc)
              have lk := look2.out wc.drew T7.below a.item hit
              have hrow := row.out wc.drew T7.below a.item
              have hlo5 := rowlt2.out a.item
              obtain ⟨A, n, c, hmv⟩ := mvS_slice ((got L2 a.item).getD none)
              rw [hmv] at lk hrow hlo5
              obtain rfl : n = (vers h a.item).length := (Kd.R_reads' hrow).1
              have hvl : (vers h a.item).length ≤ 4096 := by
                have := List.length_filter_le (fun c => wrs h.A c a.item) h.C
                have := hok.lc
                unfold vers
                omega
              replace hmv := Aside0.mk hmv
              by_cases hlt : atOf h a < (vers h a.item).length
              · obtain ⟨ad2, rfl, qx⟩ := row_cell hrow (atOf h a) hlt
                have hxN := okN_vers hcN.out (List.getElem_mem hlt)
                have ADD := fun n => add_calls (T7.kept (drewNG wc.drew n)) (by omega) ⟨a.t, (vers h a.item)[atOf h a], 3⟩ ⟨hok1, hxN, by show (Lit.int .i64 3).wf = true; decide⟩
                have N : ∀ W5 : World, (∃ L', DpT w1 W5 p b L' (fun x => (x = ⟨a.t, (vers h a.item)[atOf h a], 3⟩ ∧ a.t ≠ (vers h a.item)[atOf h a]) ∨ ((x = ⟨a.v, a.t, 1⟩ ∧ a.v ≠ 0 ∧ a.v ≠ a.t) ∨ S0 x))) → D2J w1 h p b (.int .i64 ((k : Int) + 1)) W5 := fun W5 ⟨L', T'⟩ => Go2.out L' W5 (T'.congr (read_more kw.out hvt.out S0 hlt))
                have hab0 : ad2.block ≠ b := by have := hlo5 ad2.block rfl; omega
                have hab : ∀ j, (ad2.add j).block ≠ b := fun j => by
                  have e1 : (ad2.add j).block = ad2.block := by unfold Addr.add; split <;> rfl
                  rw [e1]; exact hab0
                have hbtb : bt ≠ b := by have := T6.bp; omega
                have hlt' : (atOf h a : Int) < ((vers h a.item).length : Int) := by omega
                have h0' : (0 : Int) ≤ (atOf h a : Int) := by omega
                have hk5 : ∀ W', wc.drew.grownBy W' (some b) → ∀ q v, q.block ≠ b → wc.drew.cell? q = some v → W'.cell? q = some v := fun W' g q v hb hv => g.cell hv (fun e => hb (by injection e))
                dsimp only at ADD
                generalize (vers h a.item)[atOf h a] = x at qx ADD N
                generalize atOf h a = at5 at *
                clear T6 T7 hrow ob6 hxN hlo5
                replace N := Aside0.mk N
                replace hlt := Aside0.mk hlt
                go_wp2_with fail
                go_region_held3 (fun V => V.cell? ⟨hb, 1, none⟩ = some (.map (some b2)) ∧ V.cell? ⟨bt, 2, none⟩ = some (.string a.item)) (exact ⟨d1, s2⟩) (fail)
                all_goals
                  go_wp2_with fail
                  go_region_held3 (fun V => V.cell? ⟨bt, 0, none⟩ = some (.int .i64 a.t) ∧ V.cell? (ad2.add at5) = some (.int .i64 x)) (first | exact ⟨s0, qx⟩ | exact ⟨K9 _ _ hbtb s0, K9 _ _ (hab _) qx⟩)
                    ((go_at_call 49; refine (ADD _).mono ?_; rintro e W' ⟨rfl, AP, GP⟩; have K9 := hk5 W' (trans_grown (grown_none (drewNG wc.drew 1)) GP)))
                  have N2 := N.out W' AP
                  clear AP GP
                  replace N2 := Aside0.mk N2
                  go_wp2
                  refine ⟨N2.out, ?_⟩
                  simp [intOf]
                  omega
              · have N : D2J w1 h p b (.int .i64 ((k : Int) + 1)) wc.drew := Go2.out L6 wc.drew (T7.congr (read_last kw.out hvt.out S0 hlt))
                have hge : ¬ (atOf h a : Int) < ((vers h a.item).length : Int) := by omega
                clear T6 T7 hrow ob6 hlo5
                generalize atOf h a = at5 at *
                replace N := Aside0.mk N
                replace hlt := Aside0.mk hlt
                go_wp2_with fail
                go_region_held3 (fun V => V.cell? ⟨hb, 1, none⟩ = some (.map (some b2)) ∧ V.cell? ⟨bt, 2, none⟩ = some (.string a.item)) (exact ⟨d1, s2⟩) (fail)
                all_goals
                  go_wp2
                  refine ⟨N.out, ?_⟩
                  simp [intOf]
                  omega
        · obtain rfl : k = h.A.length := by omega
          have hs := B1.size
          have K : DepsPost w h (.returned (.map (some b))) wr := ⟨b, L, rfl, T.tab, fun d => (T.mem d).trans (by rw [List.take_length]; exact (deps_iff hok d).symm), Nat.le_trans (T.len (fun d hd => by rw [List.take_length] at hd; exact (deps_iff hok d).2 hd)) G8, by omega, below_then B1 B1.size T.below⟩
          have c0 := T.cell
          clear T hzr
          replace K := Aside0.mk K
          go_wp2
          go_ret
          exact K.out
    · have hmL : (item, sv) ∈ L2 := hp.mem_iff.1 (List.mem_append_right _ hmem)
      have hpn := perm_next hrg.apart hp hmem
      have T3 := T.turned hg3 hpr
      have hB3 := T3.below
      obtain ⟨A, n, c, hmv⟩ := mvS_slice sv
      have hn : n = (vers h item).length := by
        have := rowL.out w3 hB3 _ hmL
        rw [hmv] at this
        exact (Kd.R_reads' this).1
      subst hn
      have J4 : D1I w1 b2 r p b L2 (rem.filter (fun p => p.1 ≠ item)) (fun d => ∃ e ∈ vis, pairD (vers h e.1) d) (vers h item) (w3.rangeLeft b2 r) (.int .i64 0) w3 := ⟨0, L, rfl, Nat.zero_le _, hr3, rfl, T3.congr fun d => ⟨.inr, fun e => e.resolve_left (pairT_one _ _)⟩⟩
      have hvl : (vers h item).length ≤ 4096 := by
        have := List.length_filter_le (fun c => wrs h.A c item) h.C
        have := hok.lc
        unfold vers
        omega
      unfold mkT at hrun1 hent
      rw [hmv] at hrun1 hent
      have hsub : ∀ d, (∃ e ∈ vis, pairD (vers h e.1) d) → d ∈ depsL h := fun d ⟨e, _, hd⟩ => pair_graph hok hd
      have D4 : ∀ wr5 L5, RngV wr5 b2 r L2.length L2 (rem.filter (fun p => p.1 ≠ item)) → DpT w1 wr5 p b L5 (fun d => pairT (vers h item) (vers h item).length d ∨ ∃ e ∈ vis, pairD (vers h e.1) d) → D1J w1 h b2 r p b L2 wr5 := fun wr5 L5 h1 h2 => ⟨_, _, L5, hpn, h1, h2.congr fun d => by
        rw [pairT_all (Nat.le_refl _)]
        constructor
        · rintro (h | ⟨e, he, h⟩)
          · exact ⟨(item, sv), by simp, h⟩
          · exact ⟨e, List.mem_append_left _ he, h⟩
        · rintro ⟨e, he, h⟩
          rcases List.mem_append.1 he with he | he
          · exact .inr ⟨e, he, h⟩
          · rw [List.mem_singleton.1 he] at h
            exact .inl h⟩
      clear T T3 hp hrg hr3 hg3 hmem hpn hB3 hs3
      generalize hm4 : w3.rangeLeft b2 r = m4 at J4 hlt3
      replace hm4 := Aside0.mk hm4
      replace hmv := Aside0.mk hmv
      replace J4 := Aside0.mk J4
      replace D4 := Aside0.mk D4
      replace hsub := Aside0.mk hsub
      go_wp2_with fail
      go_loopw [27] (fun v wr => D1I w1 b2 r p b L2 (rem.filter (fun p => p.1 ≠ item)) (fun d => ∃ e ∈ vis, pairD (vers h e.1) d) (vers h item) m4 v wr) (fun v _ => (vers h item).length - (intOf v).toNat)
      case atStart => exact J4.out
      case round =>
        clear J4 hrun1 hent
        obtain ⟨i, L5, rfl, hi, hr5, hm5, T5⟩ := hrel
        by_cases hlt5 : i < (vers h item).length
        · rcases i with _ | i
          · have N : D1I w1 b2 r p b L2 (rem.filter (fun p => p.1 ≠ item)) (fun d => ∃ e ∈ vis, pairD (vers h e.1) d) (vers h item) m4 (.int .i64 1) wr := ⟨1, L5, rfl, hlt5, hr5, hm5, T5.congr fun d => by
              constructor
              · rintro (e | e)
                · exact absurd e (pairT_one _ _)
                · exact .inr e
              · rintro (e | e)
                · exact absurd e (pairT_first _ _)
                · exact .inr e⟩
            clear T5 hr5 hm5
            replace N := Aside0.mk N
            go_wp2
            refine ⟨N.out, ?_⟩
            simp [intOf]
            omega
          · have hrow5 := rowL.out wr T5.below _ hmL
            rw [hmv.out] at hrow5
            dsimp only at hrow5
            obtain ⟨ad, e1, q0⟩ := row_cell hrow5 i (by omega)
            obtain ⟨_, e2, q1⟩ := row_cell hrow5 (i + 1) hlt5
            subst e1
            injection e2 with e2
            subst e2
            have hL5 : L5.length ≤ 65536 := by
              have := T5.len (G := depsL h) (fun d hd => by
                rcases hd with hd | hd
                · obtain ⟨j, _, hd⟩ := hd
                  exact pair_graph hok ⟨j, hd⟩
                · exact hsub.out d hd)
              omega
            have ADD := fun n => add_calls (T5.kept (drewNG wr n)) hL5 ⟨(vers h item)[i], (vers h item)[i + 1], 2⟩ ⟨okN_vers hcN.out (List.getElem_mem _), okN_vers hcN.out (List.getElem_mem _), by show (Lit.int .i64 2).wf = true; decide⟩
            have hab : ∀ j, (ad.add j).block ≠ b := fun j => by
              have h1 := rowlt.out _ hmL ad.block (by rw [hmv.out]; rfl)
              have e1 : (ad.add j).block = ad.block := by unfold Addr.add; split <;> rfl
              omega
            have N : ∀ W, AddPost w1 (wr.drewN 1) p b ⟨(vers h item)[i], (vers h item)[i + 1], 2⟩ (fun d => pairT (vers h item) (i + 1) d ∨ ∃ e ∈ vis, pairD (vers h e.1) d) (.returned (.tuple #[])) W → D1I w1 b2 r p b L2 (rem.filter (fun p => p.1 ≠ item)) (fun d => ∃ e ∈ vis, pairD (vers h e.1) d) (vers h item) m4 (.int .i64 ((i : Int) + 1 + 1)) W := by
              rintro W ⟨_, ⟨L6, T6⟩, G6⟩
              obtain ⟨hr6, e6⟩ := hr5.kept (drewNG wr 1) (by simp) (by simp)
              obtain ⟨hr7, e7⟩ := hr6.kept G6 (fun e => n2b (by injection e)) (fun e => by injection e with e; omega)
              refine ⟨i + 2, L6, by simp; omega, by omega, hr7, by rw [e7, e6, hm5], T6.congr fun d => ?_⟩
              rw [pairT_next hlt5 (hvN.out item), or_assoc]
            have q1 : wr.cell? ⟨ad.block, ad.off + (i + 1), none⟩ = some (.int .i64 (vers h item)[i + 1]) := by simpa [Addr.add] using q1
            have hab0 : ad.block ≠ b := by have := hab 0; simpa [Addr.add] using this
            have hi1 : ((i + 1 : Nat) : Int) = (i : Int) + 1 := by simp
            rw [hi1]
            have hk : ∀ W', wr.grownBy W' (some b) → ∀ q v, q.block ≠ b → wr.cell? q = some v → W'.cell? q = some v := fun W' g q v hb hv => g.cell hv (fun e => hb (by injection e))
            have wr1 : IntKind.i64.wrap ((i : Int) + 1 - 1) = (i : Int) := by rw [Int.add_sub_cancel]; exact IntWalk.i64_in _ (by omega)
            have f1 : (0 : Int) ≤ (i : Int) := by omega
            have f2 : (i : Int) < ((vers h item).length : Int) := by omega
            have f3 : (0 : Int) ≤ (i : Int) + 1 := by omega
            have f4 : (i : Int) + 1 < ((vers h item).length : Int) := by omega
            have wr2 : IntKind.i64.wrap (i : Int) = (i : Int) := IntWalk.i64_in _ (by omega)
            dsimp only at ADD
            generalize (vers h item)[i] = x at q0 ADD N
            generalize (vers h item)[i + 1] = y at q1 ADD N
            clear T5 hr5 hm5 hrow5 hi1
            replace N := Aside0.mk N
            go_wp2_with fail
            go_region_held3 (fun V => V.cell? (ad.add i) = some (.int .i64 x) ∧ V.cell? ⟨ad.block, ad.off + (i + 1), none⟩ = some (.int .i64 y)) (first | exact ⟨q0, q1⟩ | exact ⟨K9 _ _ (hab _) q0, K9 _ _ hab0 q1⟩)
              ((go_at_call 49; refine (ADD _).mono ?_; rintro e W' ⟨rfl, AP, GP⟩; have K9 := hk W' (trans_grown (grown_none (drewNG wr 1)) GP)))
            have N2 := N.out W' ⟨rfl, AP, GP⟩
            clear AP GP
            replace N2 := Aside0.mk N2
            go_wp2
            refine ⟨N2.out, ?_⟩
            simp [intOf]
            omega
        · obtain rfl : i = (vers h item).length := by omega
          have J := D4.out wr L5 hr5 T5
          have hm6 := hlt3
          rw [← hm5] at hm6
          clear T5 hr5 hm5 D4
          replace J := Aside0.mk J
          replace hm6 := Aside0.mk hm6
          go_wp2
          exact ⟨J.out, hm6.out⟩
end Go.Proofs.Ytedcnpaomphffaa
