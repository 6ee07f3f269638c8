import Derived.Test.YtedcnpaomphffaaWMore
import Derived.WalkLawsBesides
import Derived.Maps.OwnSet
import Derived.Maps.RangeWalk
import Derived.Maps.Ext
import Derived.DeepKeys5
import Derived.Test.YtedcnpaomphffaaProg
namespace Go.Proofs.Ytedcnpaomphffaa
open Go.RowKit Go.Maps Go.Proofs.YtedcnpaomphffaaW.PrintWords Go.Proofs.YtedcnpaomphffaaW.PrintLast Go.Proofs.YtedcnpaomphffaaW.PrintMore
set_option linter.unusedVariables false
set_option linter.unusedSimpArgs false
set_option linter.unusedSectionVars false
/-! ### a map, as the list of its entries; keys α, elements β -/
section
variable {P : Program} {α β : Type} {k e t : TypeId} {mk : α → Value} {ok : α → Prop} {mv : β → Value} {R : Value → Option (DataW Unit × List MemPlace)} {cd : β → DataW Unit}
structure KeyAs (P : Program) (k : TypeId) (mk : α → Value) (ok : α → Prop) : Prop where
  keyed : Keyed P k
  lit : ∀ a, ok a → ∃ kl, keyOf P k (mk a) = some kl
  inj : ∀ a b, mk a = mk b → a = b
  inv : ∀ v kl, keyOf P k v = some kl → ∃ a, ok a ∧ v = mk a
/-- how elements are told: mv the value, cd the datum -/
structure ValAs (mv : β → Value) (R : Value → Option (DataW Unit × List MemPlace)) (cd : β → DataW Unit) : Prop where
  reads : ∀ b, R (mv b) = some (cd b, [])
  inv : ∀ v y ps, R v = some (y, ps) → ∃ b, v = mv b ∧ y = cd b
  inj : ∀ b b', cd b = cd b' → b = b'
/-- the datum D has just the entries L -/
structure Shows (P : Program) (k : TypeId) (mk : α → Value) (ok : α → Prop) (cd : β → DataW Unit) (D : DataW Unit) (L : List (α × β)) : Prop where
  size : Maps.size D = L.length
  apart : L.Pairwise (fun p p' => p.1 ≠ p'.1)
  good : ∀ p ∈ L, ok p.1
  has : ∀ a kl, keyOf P k (mk a) = some kl → (Maps.has D kl = true ↔ ∃ v, (a, v) ∈ L)
  at_ : ∀ p ∈ L, ∀ kl z, keyOf P k (mk p.1) = some kl → D.atKey kl z = cd p.2
/-- block b is a map with the entries L -/
def Tab (P : Program) (k : TypeId) (mk : α → Value) (ok : α → Prop) (R : Value → Option (DataW Unit × List MemPlace)) (cd : β → DataW Unit) (w : World) (b n : Nat) (L : List (α × β)) : Prop :=
  ∃ D : DataW Unit, w.ownsMap P k R b n D ∧ Shows P k mk ok cd D L
theorem same_key (K : KeyAs P k mk ok) {a a' : α} {kl kl' : Lit} (h : keyOf P k (mk a) = some kl) (h' : keyOf P k (mk a') = some kl') : kl = kl' ↔ a = a' :=
  ⟨fun e => by subst e; exact K.inj _ _ (K.keyed.inj h h'), fun e => by subst e; rw [h] at h'; exact Option.some.inj h'⟩
theorem Tab.made (w : World) : Tab P k mk ok R cd (w.alloc (.map #[] 0)) w.heap.size 0 [] :=
  ⟨_, World.ownsMap_made w P k _, ⟨rfl, List.Pairwise.nil, by simp, fun a kl _ => by simp [Maps.has], by simp⟩⟩
theorem Tab.kept {w w' : World} {b n : Nat} {L : List (α × β)} {row : Option Nat} (h : Tab P k mk ok R cd w b n L) (hg : w.grownBy w' row) (hne : some b ≠ row) : Tab P k mk ok R cd w' b n L := by
  obtain ⟨D, h1, h2⟩ := h
  exact ⟨D, h1.kept hg hne, h2⟩
theorem Tab.lt {w : World} {b n : Nat} {L : List (α × β)} (h : Tab P k mk ok R cd w b n L) : b < w.heap.size := by
  obtain ⟨D, h1, _⟩ := h
  exact h1.lt
theorem Tab.mono {w : World} {b n n' : Nat} {L : List (α × β)} (h : Tab P k mk ok R cd w b n L) (hn : n ≤ n') : Tab P k mk ok R cd w b n' L := by
  obtain ⟨D, h1, h2⟩ := h
  exact ⟨D, h1.mono hn, h2⟩
theorem Tab.tidy {w : World} {b n : Nat} {L : List (α × β)} (h : Tab P k mk ok R cd w b n L) : L.Pairwise (fun p p' => p.1 ≠ p'.1) := by
  obtain ⟨D, _, h2⟩ := h
  exact h2.apart
theorem Tab.good {w : World} {b n : Nat} {L : List (α × β)} (h : Tab P k mk ok R cd w b n L) : ∀ p ∈ L, ok p.1 := by
  obtain ⟨D, _, h2⟩ := h
  exact h2.good
theorem Tab.isMap {w : World} {b n : Nat} {L : List (α × β)} (h : Tab P k mk ok R cd w b n L) : ∃ es clock, w.heap[b]? = some (.map es clock) := by
  obtain ⟨D, ⟨es, clock, hb, _⟩, _⟩ := h
  exact ⟨es, clock, hb⟩
variable [DecidableEq α]
/-- what a look-up finds -/
def got (L : List (α × β)) (a : α) : Option β := (L.find? (fun p => p.1 = a)).map (·.2)
/-- the entry of a becomes v -/
def upd (L : List (α × β)) (a : α) (v : β) : List (α × β) := if (got L a).isSome = true then L.map (fun p => if p.1 = a then (a, v) else p) else L ++ [(a, v)]
theorem got_mem {L : List (α × β)} {a : α} {v : β} (h : got L a = some v) : (a, v) ∈ L := by
  unfold got at h
  cases hf : L.find? (fun p => decide (p.1 = a)) with
  | none => rw [hf] at h; cases h
  | some p =>
    rw [hf] at h
    simp at h
    have h1 := List.find?_some hf
    have h2 := List.mem_of_find?_eq_some hf
    simp at h1
    obtain ⟨x, y⟩ := p
    simp at h h1
    subst h h1
    exact h2
theorem got_none {L : List (α × β)} {a : α} (h : got L a = none) (v : β) : (a, v) ∉ L := by
  unfold got at h
  simp only [Option.map_eq_none_iff, List.find?_eq_none] at h
  intro hm
  have := h _ hm
  simp at this
theorem mem_got {a : α} {v : β} : ∀ {L : List (α × β)}, L.Pairwise (fun p p' => p.1 ≠ p'.1) → (a, v) ∈ L → got L a = some v
  | p :: M, hL, h => by
    rw [List.pairwise_cons] at hL
    by_cases e : p.1 = a
    · rcases List.mem_cons.1 h with h | h
      · subst h; simp [got]
      · exact absurd e (hL.1 _ h)
    · have : got (p :: M) a = got M a := by simp [got, e]
      rw [this]
      rcases List.mem_cons.1 h with h | h
      · subst h; exact absurd rfl e
      · exact mem_got hL.2 h
theorem got_iff {L : List (α × β)} (hL : L.Pairwise (fun p p' => p.1 ≠ p'.1)) {a : α} {v : β} : got L a = some v ↔ (a, v) ∈ L := ⟨got_mem, mem_got hL⟩
theorem upd_apart {L : List (α × β)} (hL : L.Pairwise (fun p p' => p.1 ≠ p'.1)) (a : α) (v : β) : (upd L a v).Pairwise (fun p p' => p.1 ≠ p'.1) := by
  unfold upd
  cases hg : got L a with
  | some u =>
    simp only [Option.isSome_some, if_true]
    rw [List.pairwise_map]
    refine hL.imp ?_
    intro p q hpq
    by_cases e1 : p.1 = a <;> by_cases e2 : q.1 = a
    · exact absurd (e1.trans e2.symm) hpq
    · rw [if_pos e1, if_neg e2]; exact fun e => e2 e.symm
    · rw [if_neg e1, if_pos e2]; exact e1
    · rw [if_neg e1, if_neg e2]; exact hpq
  | none =>
    simp only [Option.isSome_none, Bool.false_eq_true, if_false]
    rw [List.pairwise_append]
    refine ⟨hL, List.pairwise_singleton _ _, ?_⟩
    intro p hp p' hp' e
    rw [List.mem_singleton.1 hp'] at e
    obtain ⟨x, y⟩ := p
    simp at e
    subst e
    exact got_none hg _ hp
theorem upd_mem {L : List (α × β)} (hL : L.Pairwise (fun p p' => p.1 ≠ p'.1)) (a : α) (v : β) (q : α × β) : q ∈ upd L a v ↔ q = (a, v) ∨ (q ∈ L ∧ q.1 ≠ a) := by
  unfold upd
  cases hg : got L a with
  | some u =>
    simp only [Option.isSome_some, if_true, List.mem_map]
    constructor
    · rintro ⟨p, hp, rfl⟩
      by_cases e : p.1 = a
      · rw [if_pos e]; exact .inl rfl
      · rw [if_neg e]; exact .inr ⟨hp, e⟩
    · rintro (rfl | ⟨h1, h2⟩)
      · exact ⟨(a, u), got_mem hg, if_pos rfl⟩
      · exact ⟨q, h1, if_neg h2⟩
  | none =>
    simp only [Option.isSome_none, Bool.false_eq_true, if_false, List.mem_append, List.mem_singleton]
    constructor
    · rintro (h | h)
      · refine .inr ⟨h, ?_⟩
        rintro rfl
        exact got_none hg _ h
      · exact .inl h
    · rintro (h | h)
      · exact .inr h
      · exact .inl h.1
theorem got_upd {L : List (α × β)} (hL : L.Pairwise (fun p p' => p.1 ≠ p'.1)) (a : α) (v : β) (c : α) : got (upd L a v) c = if c = a then some v else got L c := by
  by_cases e : c = a
  · subst e
    rw [if_pos rfl]
    exact mem_got (upd_apart hL _ _) ((upd_mem hL _ _ _).2 (.inl rfl))
  · rw [if_neg e]
    cases hg : got L c with
    | some u => exact mem_got (upd_apart hL _ _) ((upd_mem hL _ _ _).2 (.inr ⟨got_mem hg, e⟩))
    | none =>
      cases hh : got (upd L a v) c with
      | none => rfl
      | some u =>
        rcases (upd_mem hL _ _ _).1 (got_mem hh) with h | h
        · cases h; exact absurd rfl e
        · exact absurd h.1 (got_none hg _)
theorem upd_length (L : List (α × β)) (a : α) (v : β) : (upd L a v).length = L.length + (if (got L a).isSome = true then 0 else 1) := by
  unfold upd
  split <;> simp
theorem Shows.hit {D : DataW Unit} {L : List (α × β)} (h : Shows P k mk ok cd D L) {a : α} {kl : Lit} (hk : keyOf P k (mk a) = some kl) (z : DataW Unit) :
    (Maps.has D kl = (got L a).isSome) ∧ D.atKey kl z = ((got L a).map cd).getD z := by
  cases hg : got L a with
  | none =>
    have hn : Maps.has D kl = false := by
      cases hh : Maps.has D kl with
      | false => rfl
      | true => obtain ⟨v, hv⟩ := (h.has a kl hk).1 hh; exact absurd hv (got_none hg v)
    exact ⟨by rw [hn]; rfl, by rw [atKey_of_not_has hn]; rfl⟩
  | some v =>
    have hm := got_mem hg
    exact ⟨by rw [(h.has a kl hk).2 ⟨v, hm⟩]; rfl, h.at_ _ hm kl _ hk⟩
theorem Shows.put (K : KeyAs P k mk ok) {D : DataW Unit} {L : List (α × β)} (h : Shows P k mk ok cd D L) (ht : Tidy D) {a : α} {v : β} {kl : Lit} (ha : ok a) (hk : keyOf P k (mk a) = some kl) :
    Shows P k mk ok cd (D.put kl (cd v)) (upd L a v) := by
  have hkl := K.keyed.key hk
  have hh := (h.hit hk (cd v)).1
  refine ⟨?_, upd_apart h.apart a v, ?_, ?_, ?_⟩
  · rw [size_put ht, upd_length, h.size, hh]
    cases got L a <;> simp
  · intro p hp
    rcases (upd_mem h.apart a v p).1 hp with rfl | hp
    · exact ha
    · exact h.good p hp.1
  · intro b kb hb
    by_cases e : b = a
    · subst e
      have : kb = kl := (same_key K hb hk).2 rfl
      subst this
      rw [has_put_same ht.isMap hkl]
      simp only [true_iff]
      exact ⟨v, (upd_mem h.apart b v _).2 (.inl rfl)⟩
    · have hne : kb ≠ kl := fun e' => e ((same_key K hb hk).1 e')
      rw [has_put_other hne, h.has b kb hb]
      constructor
      · rintro ⟨u, hu⟩
        exact ⟨u, (upd_mem h.apart a v _).2 (.inr ⟨hu, e⟩)⟩
      · rintro ⟨u, hu⟩
        rcases (upd_mem h.apart a v _).1 hu with h1 | h1
        · cases h1; exact absurd rfl e
        · exact ⟨u, h1.1⟩
  · intro p hp kb z hb
    rcases (upd_mem h.apart a v p).1 hp with rfl | hp1
    · have : kb = kl := (same_key K hb hk).2 rfl
      subst this
      rw [atKey_put_same ht.isMap hkl]
    · have hne : kb ≠ kl := fun e' => hp1.2 ((same_key K hb hk).1 e')
      rw [atKey_put_other hne]
      exact h.at_ p hp1.1 kb z hb
theorem Shows.del (K : KeyAs P k mk ok) {D : DataW Unit} {L : List (α × β)} (h : Shows P k mk ok cd D L) (ht : Tidy D) {a : α} {kl : Lit} (hk : keyOf P k (mk a) = some kl) :
    Shows P k mk ok cd (D.del kl) (L.filter (fun p => p.1 ≠ a)) := by
  refine ⟨?_, h.apart.filter _, fun p hp => h.good p (List.mem_filter.1 hp).1, ?_, ?_⟩
  · have hs := size_del (k := kl) ht
    rw [h.size, (h.hit hk .nil).1] at hs
    have hl : ∀ M : List (α × β), M.Pairwise (fun p p' => p.1 ≠ p'.1) → (M.filter (fun p => p.1 ≠ a)).length + (if (got M a).isSome = true then 1 else 0) = M.length := by
      intro M
      induction M with
      | nil => intro _; simp [got]
      | cons p M ih =>
        intro hM
        rw [List.pairwise_cons] at hM
        have hi := ih hM.2
        by_cases e : p.1 = a
        · have hg : got M a = none := by
            cases hg : got M a with
            | none => rfl
            | some u => exact absurd e (hM.1 _ (got_mem hg))
          rw [hg] at hi
          simp [got, e] at hi ⊢
          omega
        · have : got (p :: M) a = got M a := by simp [got, e]
          rw [this]
          simp only [List.filter_cons, ne_eq, e, not_false_eq_true, decide_true, if_true, List.length_cons]
          simp only [ne_eq] at hi
          omega
    have := hl L h.apart
    omega
  · intro b kb hb
    by_cases e : b = a
    · subst e
      have : kb = kl := (same_key K hb hk).2 rfl
      subst this
      rw [has_del_same]
      simp
    · have hne : kb ≠ kl := fun e' => e ((same_key K hb hk).1 e')
      rw [has_del_other hne, h.has b kb hb]
      simp [e]
  · intro p hp kb z hb
    have hp' := List.mem_filter.1 hp
    have hne : kb ≠ kl := fun e' => by
      have := (same_key K hb hk).1 e'
      simp [this] at hp'
    rw [atKey_del_other hne]
    exact h.at_ p hp'.1 kb z hb
theorem Tab.look (K : KeyAs P k mk ok) (V : ValAs mv R cd) (ht : P.underlying t = some (.map k e)) {w : World} {b n : Nat} {L : List (α × β)} (h : Tab P k mk ok R cd w b n L) {z : β} (hz : (zeroValue e).run P w = .ok (mv z) w) {a : α} (ha : ok a) :
    (Instr.lookup t (.map (some b)) (mk a) true).run P w = .ok (.tuple #[mv ((got L a).getD z), .bool (got L a).isSome]) w := by
  obtain ⟨D, h1, h2⟩ := h
  obtain ⟨kl, hk⟩ := K.lit a ha
  obtain ⟨v, ps, hrun, hv⟩ := h1.look_ok (zd := cd z) (zp := []) K.keyed ht hz (V.reads z) hk
  obtain ⟨c, rfl, hc⟩ := V.inv _ _ _ hv
  have hh := h2.hit hk (cd z)
  rw [hh.2] at hc
  have : c = (got L a).getD z := by
    refine V.inj _ _ (hc.symm.trans ?_)
    cases got L a <;> rfl
  rw [hrun, hh.1, this]
theorem Tab.look1 (K : KeyAs P k mk ok) (V : ValAs mv R cd) (ht : P.underlying t = some (.map k e)) {w : World} {b n : Nat} {L : List (α × β)} (h : Tab P k mk ok R cd w b n L) {z : β} (hz : (zeroValue e).run P w = .ok (mv z) w) {a : α} (ha : ok a) :
    (Instr.lookup t (.map (some b)) (mk a) false).run P w = .ok (mv ((got L a).getD z)) w := by
  obtain ⟨D, h1, h2⟩ := h
  obtain ⟨kl, hk⟩ := K.lit a ha
  obtain ⟨v, ps, hrun, hv⟩ := h1.lookup (zd := cd z) (zp := []) K.keyed ht hz (V.reads z) hk
  obtain ⟨c, rfl, hc⟩ := V.inv _ _ _ hv
  have hh := h2.hit hk (cd z)
  rw [hh.2] at hc
  have : c = (got L a).getD z := by
    refine V.inj _ _ (hc.symm.trans ?_)
    cases got L a <;> rfl
  rw [hrun, this]
theorem Tab.len (ht : P.underlying t = some (.map k e)) {w : World} {b n : Nat} {L : List (α × β)} (h : Tab P k mk ok R cd w b n L) (ty : TypeId) : (Builtin.len_ #[t] ty #[.map (some b)]).run P w = .ok (.int .i64 (L.length : Int)) w := by
  obtain ⟨D, h1, h2⟩ := h
  rw [h1.len ht ty, h2.size]
theorem Tab.count {w : World} {b n : Nat} {L : List (α × β)} (h : Tab P k mk ok R cd w b n L) : L.length ≤ n := by
  obtain ⟨D, h1, h2⟩ := h
  rw [← h2.size]
  exact h1.size_le
theorem Tab.exact {w : World} {b n : Nat} {L : List (α × β)} (h : Tab P k mk ok R cd w b n L) : Tab P k mk ok R cd w b L.length L := by
  obtain ⟨D, ⟨es, clock, hb, F, hs, rfl⟩, h2⟩ := h
  refine ⟨_, ⟨es, clock, hb, F, ?_, rfl⟩, h2⟩
  have := h2.size
  simp [Maps.size, length_sorted] at this
  omega
theorem Tab.store (K : KeyAs P k mk ok) (V : ValAs mv R cd) (ht : P.underlying t = some (.map k e)) {w : World} {b n : Nat} {L : List (α × β)} (h : Tab P k mk ok R cd w b n L) (hn : n < maxLen) {a : α} (ha : ok a) (v : β) :
    ∃ w', (Instr.mapUpdate t (.map (some b)) (mk a) (mv v)).run P w = .ok () w' ∧ Tab P k mk ok R cd w' b (n + 1) (upd L a v) ∧ w.mapTurned w' b := by
  obtain ⟨D, h1, h2⟩ := h
  obtain ⟨kl, hk⟩ := K.lit a ha
  obtain ⟨w', hrun, h3, h4⟩ := h1.store K.keyed ht hn hk (V.reads v)
  exact ⟨w', hrun, ⟨_, h3, h2.put K (h1.tidy K.keyed) ha hk⟩, h4⟩
theorem Tab.drop (K : KeyAs P k mk ok) (ht : P.underlying t = some (.map k e)) {w : World} {b n : Nat} {L : List (α × β)} (h : Tab P k mk ok R cd w b n L) {a : α} (ha : ok a) (ty : TypeId) :
    ∃ w', (Builtin.delete_ #[t, k] ty #[.map (some b), mk a]).run P w = .ok (.tuple #[]) w' ∧ Tab P k mk ok R cd w' b n (L.filter (fun p => p.1 ≠ a)) ∧ w.mapTurned w' b := by
  obtain ⟨D, h1, h2⟩ := h
  obtain ⟨kl, hk⟩ := K.lit a ha
  obtain ⟨w', hrun, h3, h4⟩ := h1.drop K.keyed ht hk ty
  exact ⟨w', hrun, ⟨_, h3, h2.del K (h1.tidy K.keyed) hk⟩, h4⟩
/-- a range over a map under way: what is still to come -/
def Rng (P : Program) (k : TypeId) (mk : α → Value) (ok : α → Prop) (R : Value → Option (DataW Unit × List MemPlace)) (cd : β → DataW Unit) (w : World) (b r n : Nat) (L rem : List (α × β)) : Prop :=
  ∃ (D : DataW Unit) (left : Lit → Bool), w.ranges P k R b r n D left (w.rangeLeft b r) ∧ Shows P k mk ok cd D L ∧ rem.Pairwise (fun p p' => p.1 ≠ p'.1) ∧ (∀ p ∈ rem, p ∈ L) ∧ ∀ a kl, keyOf P k (mk a) = some kl → (left kl = true ↔ ∃ v, (a, v) ∈ rem)
theorem Rng.tab {w : World} {b r n : Nat} {L rem : List (α × β)} (h : Rng P k mk ok R cd w b r n L rem) : Tab P k mk ok R cd w b n L := by
  obtain ⟨D, left, h1, h2, _⟩ := h
  exact ⟨D, h1.owns, h2⟩
theorem Rng.apart {w : World} {b r n : Nat} {L rem : List (α × β)} (h : Rng P k mk ok R cd w b r n L rem) : rem.Pairwise (fun p p' => p.1 ≠ p'.1) := by
  obtain ⟨D, left, _, _, h3, _⟩ := h
  exact h3
theorem Rng.lt {w : World} {b r n : Nat} {L rem : List (α × β)} (h : Rng P k mk ok R cd w b r n L rem) : r < w.heap.size := by
  obtain ⟨D, left, h1, _⟩ := h
  exact h1.lt
theorem Rng.kept {w w' : World} {b r n : Nat} {L rem : List (α × β)} {row : Option Nat} (h : Rng P k mk ok R cd w b r n L rem) (hg : w.grownBy w' row) (hb : some b ≠ row) (hr : some r ≠ row) : Rng P k mk ok R cd w' b r n L rem ∧ w'.rangeLeft b r = w.rangeLeft b r := by
  obtain ⟨D, left, h1, h2, h3⟩ := h
  have := h1.kept hg hb hr
  have e := this.left_eq
  exact ⟨⟨D, left, by rw [e]; exact this, h2, h3⟩, e⟩
theorem Tab.range (K : KeyAs P k mk ok) (ht : P.underlying t = some (.map k e)) {w : World} {b n : Nat} {L : List (α × β)} (h : Tab P k mk ok R cd w b n L) :
    ∃ w', (Instr.range t (.map (some b))).run P w = .ok (.pointer (some ⟨w.heap.size, 0, none⟩)) w' ∧ Rng P k mk ok R cd w' b w.heap.size n L L ∧ w.grownBy w' none ∧ w'.heap.size = w.heap.size + 1 := by
  obtain ⟨D, h1, h2⟩ := h
  obtain ⟨w', hrun, h3, h4, h5⟩ := h1.range K.keyed ht
  refine ⟨w', hrun, ⟨D, Maps.has D, ?_, h2, h2.apart, fun p hp => hp, h2.has⟩, h4, h5⟩
  rw [h3.left_eq]
  exact h3
theorem Rng.next (K : KeyAs P k mk ok) (V : ValAs mv R cd) {w : World} {b r n : Nat} {L rem : List (α × β)} (h : Rng P k mk ok R cd w b r n L rem) (ty : TypeId) :
    (rem = [] ∧ (Instr.next (.pointer (some ⟨r, 0, none⟩)) false ty).run P w = .ok (.tuple #[.bool false]) w) ∨
    ∃ a v w', (a, v) ∈ rem ∧ ok a ∧ (Instr.next (.pointer (some ⟨r, 0, none⟩)) false ty).run P w = .ok (.tuple #[.bool true, mk a, mv v]) w' ∧ Rng P k mk ok R cd w' b r n L (rem.filter (fun p => p.1 ≠ a)) ∧ w'.rangeLeft b r < w.rangeLeft b r ∧ w.grownBy w' (some r) ∧
      w'.heap.size = w.heap.size ∧ (Instr.entry (.pointer (some ⟨r, 0, none⟩))).run P w' = .ok (.tuple #[mk a, mv v]) w' := by
  obtain ⟨D, left, h1, h2, h3, h4, h5⟩ := h
  rcases h1.next K.keyed ty with ⟨_, hl, hrun⟩ | ⟨key, val, kl, y, w', cnt', hkey, hlk, hv, hat, hrun, hrg, hlt, hgr, hsz, hen⟩
  · refine .inl ⟨?_, hrun⟩
    cases rem with
    | nil => rfl
    | cons p rem =>
      obtain ⟨kl, hk⟩ := K.lit p.1 (h2.good p (h4 p (List.mem_cons_self ..)))
      have := (h5 p.1 kl hk).2 ⟨p.2, List.mem_cons_self ..⟩
      rw [hl kl] at this
      cases this
  · obtain ⟨a, ha, rfl⟩ := K.inv key kl hkey
    obtain ⟨yd, yp⟩ := y
    obtain ⟨v, rfl, rfl⟩ := V.inv _ _ _ hv
    obtain ⟨v', hv'⟩ := (h5 a kl hkey).1 hlk
    have e1 := hat (cd v)
    rw [h2.at_ _ (h4 _ hv') kl _ hkey] at e1
    have e1 := V.inj _ _ e1
    simp only at e1
    subst e1
    have e2 := hrg.left_eq
    refine .inr ⟨a, v', w', hv', ha, hrun, ⟨D, _, by rw [e2]; exact hrg, h2, h3.filter _, fun p hp => h4 p (List.mem_filter.1 hp).1, fun a' kl' hk' => ?_⟩, by rw [e2]; exact hlt, hgr, hsz, hen⟩
    by_cases e3 : a' = a
    · subst e3
      have : kl' = kl := (same_key K hk' hkey).2 rfl
      subst this
      rw [WideAt.sameKey_self (K.keyed.key hkey)]
      simp
    · have hne : kl' ≠ kl := fun e' => e3 ((same_key K hk' hkey).1 e')
      rw [sameKey_ne hne]
      simp only [Bool.not_false, Bool.and_true]
      rw [h5 a' kl' hk']
      simp [e3]
theorem turned_grown {w w' : World} {b : Nat} (h : w.mapTurned w' b) : w.grownBy w' (some b) := h.grown
theorem perm_next {L vis rem : List (α × β)} {a : α} {v : β} (hr : rem.Pairwise (fun p p' => p.1 ≠ p'.1)) (h : (vis ++ rem).Perm L) (hm : (a, v) ∈ rem) : ((vis ++ [(a, v)]) ++ rem.filter (fun p => p.1 ≠ a)).Perm L := by
  refine List.Perm.trans ?_ h
  rw [List.append_assoc]
  refine List.Perm.append_left vis ?_
  clear h
  induction rem with
  | nil => cases hm
  | cons p rem ih =>
    rw [List.pairwise_cons] at hr
    rcases List.mem_cons.1 hm with e | hm
    · subst e
      have : rem.filter (fun p => p.1 ≠ a) = rem := List.filter_eq_self.2 (fun p hp => by simpa using fun e => hr.1 p hp e.symm)
      rw [List.filter_cons, if_neg (by simp), this]
      exact List.Perm.refl _
    · have hne : p.1 ≠ a := hr.1 _ hm
      simp only [List.filter_cons, ne_eq, hne, not_false_eq_true, decide_true, if_true, List.singleton_append]
      exact (List.Perm.swap _ _ _).trans (List.Perm.cons _ (by simpa using ih hr.2 hm))
end
end Go.Proofs.Ytedcnpaomphffaa
