import Derived.Test.YthaoedfalkebbaaGreatWMore
import Derived.WalkLawsBesides
import Derived.Maps.OwnSet
import Derived.Maps.RangeWalk
import Derived.Maps.Ext
import Derived.DeepKeys5
import Derived.Test.YthaoedfalkebbaaGreatProg
import Derived.Deep.Slices
import Derived.SizedLaws
import Derived.OpenShut
import Derived.ProofKit
import Derived.Sort.Grow
import Derived.Sort.Statements
import Derived.Shelf.GgSortFunc.InsertionK
import Derived.IntWalk
import Derived.Lib.SlicesCompact
namespace Go.Proofs.YthaoedfalkebbaaGreat
open Go.RowKit Go.Maps Go.Proofs.YthaoedfalkebbaaGreatW.PrintWords Go.Proofs.YthaoedfalkebbaaGreatW.PrintLast Go.Proofs.YthaoedfalkebbaaGreatW.PrintMore
set_option linter.unusedVariables false
set_option linter.unusedSimpArgs false
set_option linter.unusedSectionVars false
/-! ### a map, as the list of its entries; keys α, elements β -/
section
variable {P : Program} {α β : Type} {k e t : TypeId} {mk : α → Value} {ok : α → Prop} {mv : β → Value} {R : Value → Option (DataW Unit × List MemPlace)} {cd : β → DataW Unit}
structure KeyAs (P : Program) (k : TypeId) (mk : α → Value) (ok : α → Prop) : Prop where
  keyed : Keyed P k
  lit : ∀ a, ok a → ∃ kl, keyOf P k (mk a) = some kl
  inj : ∀ a b, mk a = mk b → a = b
  inv : ∀ v kl, keyOf P k v = some kl → ∃ a, ok a ∧ v = mk a
/-- how elements are told: mv the value, cd the datum -/
structure ValAs (mv : β → Value) (R : Value → Option (DataW Unit × List MemPlace)) (cd : β → DataW Unit) : Prop where
  reads : ∀ b, R (mv b) = some (cd b, [])
  inv : ∀ v y ps, R v = some (y, ps) → ∃ b, v = mv b ∧ y = cd b
  inj : ∀ b b', cd b = cd b' → b = b'
/-- the datum D has just the entries L -/
structure Shows (P : Program) (k : TypeId) (mk : α → Value) (ok : α → Prop) (cd : β → DataW Unit) (D : DataW Unit) (L : List (α × β)) : Prop where
  size : Maps.size D = L.length
  apart : L.Pairwise (fun p p' => p.1 ≠ p'.1)
  good : ∀ p ∈ L, ok p.1
  has : ∀ a kl, keyOf P k (mk a) = some kl → (Maps.has D kl = true ↔ ∃ v, (a, v) ∈ L)
  at_ : ∀ p ∈ L, ∀ kl z, keyOf P k (mk p.1) = some kl → D.atKey kl z = cd p.2
/-- block b is a map with the entries L -/
def Tab (P : Program) (k : TypeId) (mk : α → Value) (ok : α → Prop) (R : Value → Option (DataW Unit × List MemPlace)) (cd : β → DataW Unit) (w : World) (b n : Nat) (L : List (α × β)) : Prop :=
  ∃ D : DataW Unit, w.ownsMap P k R b n D ∧ Shows P k mk ok cd D L
theorem same_key (K : KeyAs P k mk ok) {a a' : α} {kl kl' : Lit} (h : keyOf P k (mk a) = some kl) (h' : keyOf P k (mk a') = some kl') : kl = kl' ↔ a = a' :=
  ⟨fun e => by subst e; exact K.inj _ _ (K.keyed.inj h h'), fun e => by subst e; rw [h] at h'; exact Option.some.inj h'⟩
theorem Tab.made (w : World) : Tab P k mk ok R cd (w.alloc (.map #[] 0)) w.heap.size 0 [] :=
  ⟨_, World.ownsMap_made w P k _, ⟨rfl, List.Pairwise.nil, by simp, fun a kl _ => by simp [Maps.has], by simp⟩⟩
theorem Tab.kept {w w' : World} {b n : Nat} {L : List (α × β)} {row : Option Nat} (h : Tab P k mk ok R cd w b n L) (hg : w.grownBy w' row) (hne : some b ≠ row) : Tab P k mk ok R cd w' b n L := by
  obtain ⟨D, h1, h2⟩ := h
  exact ⟨D, h1.kept hg hne, h2⟩
theorem Tab.lt {w : World} {b n : Nat} {L : List (α × β)} (h : Tab P k mk ok R cd w b n L) : b < w.heap.size := by
  obtain ⟨D, h1, _⟩ := h
  exact h1.lt
theorem Tab.mono {w : World} {b n n' : Nat} {L : List (α × β)} (h : Tab P k mk ok R cd w b n L) (hn : n ≤ n') : Tab P k mk ok R cd w b n' L := by
  obtain ⟨D, h1, h2⟩ := h
  exact ⟨D, h1.mono hn, h2⟩
theorem Tab.tidy {w : World} {b n : Nat} {L : List (α × β)} (h : Tab P k mk ok R cd w b n L) : L.Pairwise (fun p p' => p.1 ≠ p'.1) := by
  obtain ⟨D, _, h2⟩ := h
  exact h2.apart
theorem Tab.good {w : World} {b n : Nat} {L : List (α × β)} (h : Tab P k mk ok R cd w b n L) : ∀ p ∈ L, ok p.1 := by
  obtain ⟨D, _, h2⟩ := h
  exact h2.good
theorem Tab.isMap {w : World} {b n : Nat} {L : List (α × β)} (h : Tab P k mk ok R cd w b n L) : ∃ es clock, w.heap[b]? = some (.map es clock) := by
  obtain ⟨D, ⟨es, clock, hb, _⟩, _⟩ := h
  exact ⟨es, clock, hb⟩
variable [DecidableEq α]
/-- what a look-up finds -/
def got (L : List (α × β)) (a : α) : Option β := (L.find? (fun p => p.1 = a)).map (·.2)
/-- the entry of a becomes v -/
def upd (L : List (α × β)) (a : α) (v : β) : List (α × β) := if (got L a).isSome = true then L.map (fun p => if p.1 = a then (a, v) else p) else L ++ [(a, v)]
theorem got_mem {L : List (α × β)} {a : α} {v : β} (h : got L a = some v) : (a, v) ∈ L := by
  unfold got at h
  cases hf : L.find? (fun p => decide (p.1 = a)) with
  | none => rw [hf] at h; cases h
  | some p =>
    rw [hf] at h
    simp at h
    have h1 := List.find?_some hf
    have h2 := List.mem_of_find?_eq_some hf
    simp at h1
    obtain ⟨x, y⟩ := p
    simp at h h1
    subst h h1
    exact h2
theorem got_none {L : List (α × β)} {a : α} (h : got L a = none) (v : β) : (a, v) ∉ L := by
  unfold got at h
  simp only [Option.map_eq_none_iff, List.find?_eq_none] at h
  intro hm
  have := h _ hm
  simp at this
theorem mem_got {a : α} {v : β} : ∀ {L : List (α × β)}, L.Pairwise (fun p p' => p.1 ≠ p'.1) → (a, v) ∈ L → got L a = some v
  | p :: M, hL, h => by
    rw [List.pairwise_cons] at hL
    by_cases e : p.1 = a
    · rcases List.mem_cons.1 h with h | h
      · subst h; simp [got]
      · exact absurd e (hL.1 _ h)
    · have : got (p :: M) a = got M a := by simp [got, e]
      rw [this]
      rcases List.mem_cons.1 h with h | h
      · subst h; exact absurd rfl e
      · exact mem_got hL.2 h
theorem got_iff {L : List (α × β)} (hL : L.Pairwise (fun p p' => p.1 ≠ p'.1)) {a : α} {v : β} : got L a = some v ↔ (a, v) ∈ L := ⟨got_mem, mem_got hL⟩
theorem upd_apart {L : List (α × β)} (hL : L.Pairwise (fun p p' => p.1 ≠ p'.1)) (a : α) (v : β) : (upd L a v).Pairwise (fun p p' => p.1 ≠ p'.1) := by
  unfold upd
  cases hg : got L a with
  | some u =>
    simp only [Option.isSome_some, if_true]
    rw [List.pairwise_map]
    refine hL.imp ?_
    intro p q hpq
    by_cases e1 : p.1 = a <;> by_cases e2 : q.1 = a
    · exact absurd (e1.trans e2.symm) hpq
    · rw [if_pos e1, if_neg e2]; exact fun e => e2 e.symm
    · rw [if_neg e1, if_pos e2]; exact e1
    · rw [if_neg e1, if_neg e2]; exact hpq
  | none =>
    simp only [Option.isSome_none, Bool.false_eq_true, if_false]
    rw [List.pairwise_append]
    refine ⟨hL, List.pairwise_singleton _ _, ?_⟩
    intro p hp p' hp' e
    rw [List.mem_singleton.1 hp'] at e
    obtain ⟨x, y⟩ := p
    simp at e
    subst e
    exact got_none hg _ hp
theorem upd_mem {L : List (α × β)} (hL : L.Pairwise (fun p p' => p.1 ≠ p'.1)) (a : α) (v : β) (q : α × β) : q ∈ upd L a v ↔ q = (a, v) ∨ (q ∈ L ∧ q.1 ≠ a) := by
  unfold upd
  cases hg : got L a with
  | some u =>
    simp only [Option.isSome_some, if_true, List.mem_map]
    constructor
    · rintro ⟨p, hp, rfl⟩
      by_cases e : p.1 = a
      · rw [if_pos e]; exact .inl rfl
      · rw [if_neg e]; exact .inr ⟨hp, e⟩
    · rintro (rfl | ⟨h1, h2⟩)
      · exact ⟨(a, u), got_mem hg, if_pos rfl⟩
      · exact ⟨q, h1, if_neg h2⟩
  | none =>
    simp only [Option.isSome_none, Bool.false_eq_true, if_false, List.mem_append, List.mem_singleton]
    constructor
    · rintro (h | h)
      · refine .inr ⟨h, ?_⟩
        rintro rfl
        exact got_none hg _ h
      · exact .inl h
    · rintro (h | h)
      · exact .inr h
      · exact .inl h.1
theorem got_upd {L : List (α × β)} (hL : L.Pairwise (fun p p' => p.1 ≠ p'.1)) (a : α) (v : β) (c : α) : got (upd L a v) c = if c = a then some v else got L c := by
  by_cases e : c = a
  · subst e
    rw [if_pos rfl]
    exact mem_got (upd_apart hL _ _) ((upd_mem hL _ _ _).2 (.inl rfl))
  · rw [if_neg e]
    cases hg : got L c with
    | some u => exact mem_got (upd_apart hL _ _) ((upd_mem hL _ _ _).2 (.inr ⟨got_mem hg, e⟩))
    | none =>
      cases hh : got (upd L a v) c with
      | none => rfl
      | some u =>
        rcases (upd_mem hL _ _ _).1 (got_mem hh) with h | h
        · cases h; exact absurd rfl e
        · exact absurd h.1 (got_none hg _)
theorem upd_length (L : List (α × β)) (a : α) (v : β) : (upd L a v).length = L.length + (if (got L a).isSome = true then 0 else 1) := by
  unfold upd
  split <;> simp
theorem Shows.hit {D : DataW Unit} {L : List (α × β)} (h : Shows P k mk ok cd D L) {a : α} {kl : Lit} (hk : keyOf P k (mk a) = some kl) (z : DataW Unit) :
    (Maps.has D kl = (got L a).isSome) ∧ D.atKey kl z = ((got L a).map cd).getD z := by
  cases hg : got L a with
  | none =>
    have hn : Maps.has D kl = false := by
      cases hh : Maps.has D kl with
      | false => rfl
      | true => obtain ⟨v, hv⟩ := (h.has a kl hk).1 hh; exact absurd hv (got_none hg v)
    exact ⟨by rw [hn]; rfl, by rw [atKey_of_not_has hn]; rfl⟩
  | some v =>
    have hm := got_mem hg
    exact ⟨by rw [(h.has a kl hk).2 ⟨v, hm⟩]; rfl, h.at_ _ hm kl _ hk⟩
theorem Shows.put (K : KeyAs P k mk ok) {D : DataW Unit} {L : List (α × β)} (h : Shows P k mk ok cd D L) (ht : Tidy D) {a : α} {v : β} {kl : Lit} (ha : ok a) (hk : keyOf P k (mk a) = some kl) :
    Shows P k mk ok cd (D.put kl (cd v)) (upd L a v) := by
  have hkl := K.keyed.key hk
  have hh := (h.hit hk (cd v)).1
  refine ⟨?_, upd_apart h.apart a v, ?_, ?_, ?_⟩
  · rw [size_put ht, upd_length, h.size, hh]
    cases got L a <;> simp
  · intro p hp
    rcases (upd_mem h.apart a v p).1 hp with rfl | hp
    · exact ha
    · exact h.good p hp.1
  · intro b kb hb
    by_cases e : b = a
    · subst e
      have : kb = kl := (same_key K hb hk).2 rfl
      subst this
      rw [has_put_same ht.isMap hkl]
      simp only [true_iff]
      exact ⟨v, (upd_mem h.apart b v _).2 (.inl rfl)⟩
    · have hne : kb ≠ kl := fun e' => e ((same_key K hb hk).1 e')
      rw [has_put_other hne, h.has b kb hb]
      constructor
      · rintro ⟨u, hu⟩
        exact ⟨u, (upd_mem h.apart a v _).2 (.inr ⟨hu, e⟩)⟩
      · rintro ⟨u, hu⟩
        rcases (upd_mem h.apart a v _).1 hu with h1 | h1
        · cases h1; exact absurd rfl e
        · exact ⟨u, h1.1⟩
  · intro p hp kb z hb
    rcases (upd_mem h.apart a v p).1 hp with rfl | hp1
    · have : kb = kl := (same_key K hb hk).2 rfl
      subst this
      rw [atKey_put_same ht.isMap hkl]
    · have hne : kb ≠ kl := fun e' => hp1.2 ((same_key K hb hk).1 e')
      rw [atKey_put_other hne]
      exact h.at_ p hp1.1 kb z hb
theorem Shows.del (K : KeyAs P k mk ok) {D : DataW Unit} {L : List (α × β)} (h : Shows P k mk ok cd D L) (ht : Tidy D) {a : α} {kl : Lit} (hk : keyOf P k (mk a) = some kl) :
    Shows P k mk ok cd (D.del kl) (L.filter (fun p => p.1 ≠ a)) := by
  refine ⟨?_, h.apart.filter _, fun p hp => h.good p (List.mem_filter.1 hp).1, ?_, ?_⟩
  · have hs := size_del (k := kl) ht
    rw [h.size, (h.hit hk .nil).1] at hs
    have hl : ∀ M : List (α × β), M.Pairwise (fun p p' => p.1 ≠ p'.1) → (M.filter (fun p => p.1 ≠ a)).length + (if (got M a).isSome = true then 1 else 0) = M.length := by
      intro M
      induction M with
      | nil => intro _; simp [got]
      | cons p M ih =>
        intro hM
        rw [List.pairwise_cons] at hM
        have hi := ih hM.2
        by_cases e : p.1 = a
        · have hg : got M a = none := by
            cases hg : got M a with
            | none => rfl
            | some u => exact absurd e (hM.1 _ (got_mem hg))
          rw [hg] at hi
          simp [got, e] at hi ⊢
          omega
        · have : got (p :: M) a = got M a := by simp [got, e]
          rw [this]
          simp only [List.filter_cons, ne_eq, e, not_false_eq_true, decide_true, if_true, List.length_cons]
          simp only [ne_eq] at hi
          omega
    have := hl L h.apart
    omega
  · intro b kb hb
    by_cases e : b = a
    · subst e
      have : kb = kl := (same_key K hb hk).2 rfl
      subst this
      rw [has_del_same]
      simp
    · have hne : kb ≠ kl := fun e' => e ((same_key K hb hk).1 e')
      rw [has_del_other hne, h.has b kb hb]
      simp [e]
  · intro p hp kb z hb
    have hp' := List.mem_filter.1 hp
    have hne : kb ≠ kl := fun e' => by
      have := (same_key K hb hk).1 e'
      simp [this] at hp'
    rw [atKey_del_other hne]
    exact h.at_ p hp'.1 kb z hb
theorem Tab.look (K : KeyAs P k mk ok) (V : ValAs mv R cd) (ht : P.underlying t = some (.map k e)) {w : World} {b n : Nat} {L : List (α × β)} (h : Tab P k mk ok R cd w b n L) {z : β} (hz : (zeroValue e).run P w = .ok (mv z) w) {a : α} (ha : ok a) :
    (Instr.lookup t (.map (some b)) (mk a) true).run P w = .ok (.tuple #[mv ((got L a).getD z), .bool (got L a).isSome]) w := by
  obtain ⟨D, h1, h2⟩ := h
  obtain ⟨kl, hk⟩ := K.lit a ha
  obtain ⟨v, ps, hrun, hv⟩ := h1.look_ok (zd := cd z) (zp := []) K.keyed ht hz (V.reads z) hk
  obtain ⟨c, rfl, hc⟩ := V.inv _ _ _ hv
  have hh := h2.hit hk (cd z)
  rw [hh.2] at hc
  have : c = (got L a).getD z := by
    refine V.inj _ _ (hc.symm.trans ?_)
    cases got L a <;> rfl
  rw [hrun, hh.1, this]
theorem Tab.look1 (K : KeyAs P k mk ok) (V : ValAs mv R cd) (ht : P.underlying t = some (.map k e)) {w : World} {b n : Nat} {L : List (α × β)} (h : Tab P k mk ok R cd w b n L) {z : β} (hz : (zeroValue e).run P w = .ok (mv z) w) {a : α} (ha : ok a) :
    (Instr.lookup t (.map (some b)) (mk a) false).run P w = .ok (mv ((got L a).getD z)) w := by
  obtain ⟨D, h1, h2⟩ := h
  obtain ⟨kl, hk⟩ := K.lit a ha
  obtain ⟨v, ps, hrun, hv⟩ := h1.lookup (zd := cd z) (zp := []) K.keyed ht hz (V.reads z) hk
  obtain ⟨c, rfl, hc⟩ := V.inv _ _ _ hv
  have hh := h2.hit hk (cd z)
  rw [hh.2] at hc
  have : c = (got L a).getD z := by
    refine V.inj _ _ (hc.symm.trans ?_)
    cases got L a <;> rfl
  rw [hrun, this]
theorem Tab.len (ht : P.underlying t = some (.map k e)) {w : World} {b n : Nat} {L : List (α × β)} (h : Tab P k mk ok R cd w b n L) (ty : TypeId) : (Builtin.len_ #[t] ty #[.map (some b)]).run P w = .ok (.int .i64 (L.length : Int)) w := by
  obtain ⟨D, h1, h2⟩ := h
  rw [h1.len ht ty, h2.size]
theorem Tab.count {w : World} {b n : Nat} {L : List (α × β)} (h : Tab P k mk ok R cd w b n L) : L.length ≤ n := by
  obtain ⟨D, h1, h2⟩ := h
  rw [← h2.size]
  exact h1.size_le
theorem Tab.exact {w : World} {b n : Nat} {L : List (α × β)} (h : Tab P k mk ok R cd w b n L) : Tab P k mk ok R cd w b L.length L := by
  obtain ⟨D, ⟨es, clock, hb, F, hs, rfl⟩, h2⟩ := h
  refine ⟨_, ⟨es, clock, hb, F, ?_, rfl⟩, h2⟩
  have := h2.size
  simp [Maps.size, length_sorted] at this
  omega
theorem Tab.store (K : KeyAs P k mk ok) (V : ValAs mv R cd) (ht : P.underlying t = some (.map k e)) {w : World} {b n : Nat} {L : List (α × β)} (h : Tab P k mk ok R cd w b n L) (hn : n < maxLen) {a : α} (ha : ok a) (v : β) :
    ∃ w', (Instr.mapUpdate t (.map (some b)) (mk a) (mv v)).run P w = .ok () w' ∧ Tab P k mk ok R cd w' b (n + 1) (upd L a v) ∧ w.mapTurned w' b := by
  obtain ⟨D, h1, h2⟩ := h
  obtain ⟨kl, hk⟩ := K.lit a ha
  obtain ⟨w', hrun, h3, h4⟩ := h1.store K.keyed ht hn hk (V.reads v)
  exact ⟨w', hrun, ⟨_, h3, h2.put K (h1.tidy K.keyed) ha hk⟩, h4⟩
theorem Tab.drop (K : KeyAs P k mk ok) (ht : P.underlying t = some (.map k e)) {w : World} {b n : Nat} {L : List (α × β)} (h : Tab P k mk ok R cd w b n L) {a : α} (ha : ok a) (ty : TypeId) :
    ∃ w', (Builtin.delete_ #[t, k] ty #[.map (some b), mk a]).run P w = .ok (.tuple #[]) w' ∧ Tab P k mk ok R cd w' b n (L.filter (fun p => p.1 ≠ a)) ∧ w.mapTurned w' b := by
  obtain ⟨D, h1, h2⟩ := h
  obtain ⟨kl, hk⟩ := K.lit a ha
  obtain ⟨w', hrun, h3, h4⟩ := h1.drop K.keyed ht hk ty
  exact ⟨w', hrun, ⟨_, h3, h2.del K (h1.tidy K.keyed) hk⟩, h4⟩
/-- a range over a map under way: what is still to come -/
def Rng (P : Program) (k : TypeId) (mk : α → Value) (ok : α → Prop) (R : Value → Option (DataW Unit × List MemPlace)) (cd : β → DataW Unit) (w : World) (b r n : Nat) (L rem : List (α × β)) : Prop :=
  ∃ (D : DataW Unit) (left : Lit → Bool), w.ranges P k R b r n D left (w.rangeLeft b r) ∧ Shows P k mk ok cd D L ∧ rem.Pairwise (fun p p' => p.1 ≠ p'.1) ∧ (∀ p ∈ rem, p ∈ L) ∧ ∀ a kl, keyOf P k (mk a) = some kl → (left kl = true ↔ ∃ v, (a, v) ∈ rem)
theorem Rng.tab {w : World} {b r n : Nat} {L rem : List (α × β)} (h : Rng P k mk ok R cd w b r n L rem) : Tab P k mk ok R cd w b n L := by
  obtain ⟨D, left, h1, h2, _⟩ := h
  exact ⟨D, h1.owns, h2⟩
theorem Rng.apart {w : World} {b r n : Nat} {L rem : List (α × β)} (h : Rng P k mk ok R cd w b r n L rem) : rem.Pairwise (fun p p' => p.1 ≠ p'.1) := by
  obtain ⟨D, left, _, _, h3, _⟩ := h
  exact h3
theorem Rng.lt {w : World} {b r n : Nat} {L rem : List (α × β)} (h : Rng P k mk ok R cd w b r n L rem) : r < w.heap.size := by
  obtain ⟨D, left, h1, _⟩ := h
  exact h1.lt
theorem Rng.kept {w w' : World} {b r n : Nat} {L rem : List (α × β)} {row : Option Nat} (h : Rng P k mk ok R cd w b r n L rem) (hg : w.grownBy w' row) (hb : some b ≠ row) (hr : some r ≠ row) : Rng P k mk ok R cd w' b r n L rem ∧ w'.rangeLeft b r = w.rangeLeft b r := by
  obtain ⟨D, left, h1, h2, h3⟩ := h
  have := h1.kept hg hb hr
  have e := this.left_eq
  exact ⟨⟨D, left, by rw [e]; exact this, h2, h3⟩, e⟩
theorem Tab.range (K : KeyAs P k mk ok) (ht : P.underlying t = some (.map k e)) {w : World} {b n : Nat} {L : List (α × β)} (h : Tab P k mk ok R cd w b n L) :
    ∃ w', (Instr.range t (.map (some b))).run P w = .ok (.pointer (some ⟨w.heap.size, 0, none⟩)) w' ∧ Rng P k mk ok R cd w' b w.heap.size n L L ∧ w.grownBy w' none ∧ w'.heap.size = w.heap.size + 1 := by
  obtain ⟨D, h1, h2⟩ := h
  obtain ⟨w', hrun, h3, h4, h5⟩ := h1.range K.keyed ht
  refine ⟨w', hrun, ⟨D, Maps.has D, ?_, h2, h2.apart, fun p hp => hp, h2.has⟩, h4, h5⟩
  rw [h3.left_eq]
  exact h3
theorem Rng.next (K : KeyAs P k mk ok) (V : ValAs mv R cd) {w : World} {b r n : Nat} {L rem : List (α × β)} (h : Rng P k mk ok R cd w b r n L rem) (ty : TypeId) :
    (rem = [] ∧ (Instr.next (.pointer (some ⟨r, 0, none⟩)) false ty).run P w = .ok (.tuple #[.bool false]) w) ∨
    ∃ a v w', (a, v) ∈ rem ∧ ok a ∧ (Instr.next (.pointer (some ⟨r, 0, none⟩)) false ty).run P w = .ok (.tuple #[.bool true, mk a, mv v]) w' ∧ Rng P k mk ok R cd w' b r n L (rem.filter (fun p => p.1 ≠ a)) ∧ w'.rangeLeft b r < w.rangeLeft b r ∧ w.grownBy w' (some r) ∧
      w'.heap.size = w.heap.size ∧ (Instr.entry (.pointer (some ⟨r, 0, none⟩))).run P w' = .ok (.tuple #[mk a, mv v]) w' := by
  obtain ⟨D, left, h1, h2, h3, h4, h5⟩ := h
  rcases h1.next K.keyed ty with ⟨_, hl, hrun⟩ | ⟨key, val, kl, y, w', cnt', hkey, hlk, hv, hat, hrun, hrg, hlt, hgr, hsz, hen⟩
  · refine .inl ⟨?_, hrun⟩
    cases rem with
    | nil => rfl
    | cons p rem =>
      obtain ⟨kl, hk⟩ := K.lit p.1 (h2.good p (h4 p (List.mem_cons_self ..)))
      have := (h5 p.1 kl hk).2 ⟨p.2, List.mem_cons_self ..⟩
      rw [hl kl] at this
      cases this
  · obtain ⟨a, ha, rfl⟩ := K.inv key kl hkey
    obtain ⟨yd, yp⟩ := y
    obtain ⟨v, rfl, rfl⟩ := V.inv _ _ _ hv
    obtain ⟨v', hv'⟩ := (h5 a kl hkey).1 hlk
    have e1 := hat (cd v)
    rw [h2.at_ _ (h4 _ hv') kl _ hkey] at e1
    have e1 := V.inj _ _ e1
    simp only at e1
    subst e1
    have e2 := hrg.left_eq
    refine .inr ⟨a, v', w', hv', ha, hrun, ⟨D, _, by rw [e2]; exact hrg, h2, h3.filter _, fun p hp => h4 p (List.mem_filter.1 hp).1, fun a' kl' hk' => ?_⟩, by rw [e2]; exact hlt, hgr, hsz, hen⟩
    by_cases e3 : a' = a
    · subst e3
      have : kl' = kl := (same_key K hk' hkey).2 rfl
      subst this
      rw [WideAt.sameKey_self (K.keyed.key hkey)]
      simp
    · have hne : kl' ≠ kl := fun e' => e3 ((same_key K hk' hkey).1 e')
      rw [sameKey_ne hne]
      simp only [Bool.not_false, Bool.and_true]
      rw [h5 a' kl' hk']
      simp [e3]
theorem turned_grown {w w' : World} {b : Nat} (h : w.mapTurned w' b) : w.grownBy w' (some b) := h.grown
theorem perm_next {L vis rem : List (α × β)} {a : α} {v : β} (hr : rem.Pairwise (fun p p' => p.1 ≠ p'.1)) (h : (vis ++ rem).Perm L) (hm : (a, v) ∈ rem) : ((vis ++ [(a, v)]) ++ rem.filter (fun p => p.1 ≠ a)).Perm L := by
  refine List.Perm.trans ?_ h
  rw [List.append_assoc]
  refine List.Perm.append_left vis ?_
  clear h
  induction rem with
  | nil => cases hm
  | cons p rem ih =>
    rw [List.pairwise_cons] at hr
    rcases List.mem_cons.1 hm with e | hm
    · subst e
      have : rem.filter (fun p => p.1 ≠ a) = rem := List.filter_eq_self.2 (fun p hp => by simpa using fun e => hr.1 p hp e.symm)
      rw [List.filter_cons, if_neg (by simp), this]
      exact List.Perm.refl _
    · have hne : p.1 ≠ a := hr.1 _ hm
      simp only [List.filter_cons, ne_eq, hne, not_false_eq_true, decide_true, if_true, List.singleton_append]
      exact (List.Perm.swap _ _ _).trans (List.Perm.cons _ (by simpa using ih hr.2 hm))
end
end Go.Proofs.YthaoedfalkebbaaGreat
namespace Go.Proofs.YthaoedfalkebbaaGreat
open Go.ChangeShapes Go.WideShapes Go.ChangeAt Go.RowKit Go.Proofs.YthaoedfalkebbaaGreatW.PrintWords Go.Proofs.YthaoedfalkebbaaGreatW.PrintLast Go.Proofs.YthaoedfalkebbaaGreatW.PrintMore
set_option linter.unusedVariables false
set_option linter.unusedSimpArgs false
set_option linter.unusedSectionVars false
open Go.Deep (open_slice)
/-- elements of plain cells, each written out -/
def Kd.flat {α : Type} (encs : α → List Value) (n : Nat) (hn : ∀ x, (encs x).length = n) (h1 : ∀ x, ∀ u ∈ encs x, u.oneCell' = true) : Kd α where
  sz := n
  E := []
  K := fun _ x cs => cs = encs x
  M := fun _ _ _ x cs => cs = encs x
  K_len := fun h => by rw [h]; exact hn _
  K_one := fun h u hu => by rw [h] at hu; exact h1 _ u hu
  K_below := fun _ h => h
  K_of_M := fun h => h
  M_mono := fun _ h => h
  M_bound := fun h => h
  M_move := fun _ h => h
  M_lower := fun _ h => h
section
variable {H : Type} {enc : TypeId × Value → H} {P : Program} {w : World} {base : Nat} {spare : Nat → Bool} {held : Bool}
def Light (P : Program) (t : TypeId) (d : DataW H) : Prop := ∀ n ∈ d.weights P t, n ≤ reachBytes
theorem light_of {ts : List TypeId} {ds : List (DataW H)} (h : (DataW.weightsEach P ts ds).all (· ≤ reachBytes) = true) {j : Nat} {t : TypeId} {d : DataW H} (ht : ts[j]? = some t) (hd : ds[j]? = some d) : Light P t d := by
  intro n hn
  simpa using List.all_eq_true.1 h _ (DataW.weights_mem_each ht hd n hn)
theorem light_field {t : TypeId} {fs : Array Field} (ht : P.underlying t = some (.struct fs)) {ds : List (DataW H)} (h : Light P t (.agg ds)) {j : Nat} {f : Field} {d : DataW H} (hf : fs[j]? = some f) (hd : ds[j]? = some d) : Light P f.type d := by
  intro n hn
  refine h n ?_
  simp only [DataW.weights, ht]
  exact DataW.weights_mem_each (j := j) (by rw [List.getElem?_map, Array.getElem?_toList, hf]; rfl) hd n hn
theorem weightsAll_mem {e : TypeId} : ∀ {l : List (DataW H)} {d : DataW H}, d ∈ l → ∀ n ∈ d.weights P e, n ∈ DataW.weightsAll P e l
  | x :: l, d, h, n, hn => by
    unfold DataW.weightsAll
    rcases List.mem_cons.1 h with rfl | h
    · exact List.mem_append_left _ hn
    · exact List.mem_append_right _ (weightsAll_mem h n hn)
theorem light_elem {t e : TypeId} (ht : P.underlying t = some (.slice e)) {l s : List (DataW H)} (h : Light P t (.slice l s)) {d : DataW H} (hd : d ∈ l) : Light P e d := by
  intro n hn
  refine h n ?_
  simp only [DataW.weights, ht]
  exact List.mem_cons_of_mem _ (List.mem_append_left _ (weightsAll_mem hd n hn))
theorem light_len {t e : TypeId} (ht : P.underlying t = some (.slice e)) {l s : List (DataW H)} (h : Light P t (.slice l s)) : (l.length + s.length) * P.bytesOf e ≤ reachBytes := by
  refine h _ ?_
  simp only [DataW.weights, ht]
  exact List.mem_cons_self
/-- what a reading by the form says of the cells -/
def Opens (enc : TypeId × Value → H) (P : Program) (w : World) (base : Nat) (spare : Nat → Bool) (held : Bool) (t : TypeId) {α : Type} (d : Kd α) (G : α → Prop) : Prop :=
  ∀ fuel cs y, DataW.trod enc P w base spare held fuel t cs = some y → Light P t y.1 → ∃ x, d.K w x cs ∧ G x
theorem opens_int {t : TypeId} {k : IntKind} (ht : P.underlying t = some (.int k)) : Opens enc P w base spare held t (Kd.int k) (fun x => (Lit.int k x).wf = true) := by
  intro fuel cs y h _
  obtain ⟨n, rfl, _, hw⟩ := DataW.trod_int ht h
  exact ⟨n, rfl, hw⟩
theorem opens_bool {t : TypeId} (ht : P.underlying t = some .bool) : Opens enc P w base spare held t Kd.bool (fun _ => True) := by
  intro fuel cs y h _
  obtain ⟨n, rfl, _⟩ := DataW.trod_bool ht h
  exact ⟨n, rfl, trivial⟩
theorem opens_string {t : TypeId} (ht : P.underlying t = some .string) : Opens enc P w base spare held t Kd.string (fun s => s.size ≤ reachBytes) := by
  intro fuel cs y h hl
  obtain ⟨s, rfl, rfl, _⟩ := DataW.trod_string ht h
  refine ⟨s, rfl, ?_⟩
  have := hl s.data.toList.length (by simp [DataW.weights])
  rwa [Array.length_toList] at this
theorem list_of {α : Type} {R : Nat → α → Prop} : ∀ n : Nat, (∀ i, i < n → ∃ x, R i x) → ∃ xs : List α, xs.length = n ∧ ∀ i x, xs[i]? = some x → R i x
  | 0, _ => ⟨[], rfl, by simp⟩
  | n + 1, h => by
    obtain ⟨xs, hl, hx⟩ := list_of n (fun i hi => h i (by omega))
    obtain ⟨x, hr⟩ := h n (by omega)
    refine ⟨xs ++ [x], by simp [hl], fun i y hy => ?_⟩
    rcases Nat.lt_trichotomy i n with hi | hi | hi
    · rw [List.getElem?_append_left (by omega)] at hy
      exact hx i y hy
    · subst hi
      rw [List.getElem?_append_right (by omega)] at hy
      simp [hl] at hy
      subst hy
      exact hr
    · rw [List.getElem?_eq_none (by simp; omega)] at hy
      cases hy
theorem opens_C {t e : TypeId} {α : Type} {d : Kd α} {G : α → Prop} (ht : P.underlying t = some (.slice e)) (hC : P.cellsOf e = d.sz) (he : Opens enc P w base spare held e d G)
    {fuel : Nat} {cs : List Value} {y : DataW H × List MemPlace} (h : DataW.trod enc P w base spare held fuel t cs = some y) (hl : Light P t y.1) :
    ∃ A c xs, cs = [.slice A xs.length c] ∧ xs.length ≤ c ∧ c ≤ maxLen ∧ d.C w A xs.length xs ∧ xs.length * P.bytesOf e ≤ reachBytes ∧ ∀ x ∈ xs, G x := by
  rcases open_slice ht h with ⟨rfl, rfl⟩ | ⟨a, len, cap, m, n, D, Pl, rfl, hb, hlc, hcm, hm, rfl, hel⟩
  · exact ⟨none, 0, [], rfl, Nat.le_refl _, Nat.zero_le _, Kd.C_nil _ _, by simp, by simp⟩
  · have hlm : len ≤ m := by rw [hm]; split <;> omega
    have hx : ∀ i, i < len → ∃ x, (∃ c, c.length = d.sz ∧ d.K w x c ∧ ∀ j u, c[j]? = some u → w.cell? (a.add (i * d.sz + j)) = some u) ∧ G x := by
      intro i hi
      obtain ⟨cs', hc, ht'⟩ := hel i (by omega)
      rw [hC] at hc
      obtain ⟨x, hk, hg⟩ := he _ _ _ ht' (light_elem ht hl (List.mem_map.2 ⟨i, by simpa using hi, rfl⟩))
      obtain ⟨_, hcl, hat⟩ := World.cells?_some hc
      refine ⟨x, ⟨cs', d.K_len hk, hk, fun j u hu => ?_⟩, hg⟩
      have hj : j < d.sz := by
        rcases Nat.lt_or_ge j cs'.length with h | h
        · rw [← d.K_len hk]; exact h
        · rw [List.getElem?_eq_none h] at hu; cases hu
      have := hat j hj
      rw [← this] at hu
      rw [← Go.Deep.add_add]
      exact hu
    obtain ⟨xs, hxl, hxs⟩ := list_of len hx
    subst hxl
    have hw := light_len ht hl
    refine ⟨some a, cap, xs, rfl, hlc, hcm, ⟨rfl, by simp only [maxLen] at hcm; omega, fun _ => ⟨a, rfl, fun j p hp => (hxs j p hp).1⟩⟩, ?_, fun x hx => ?_⟩
    · refine Nat.le_trans (Nat.mul_le_mul_right _ ?_) hw
      simp
    · obtain ⟨i, hi⟩ := List.mem_iff_getElem?.1 hx
      exact (hxs i x hi).2
end
/-! ### a struct's cells, field by field -/
section
variable {H : Type} {enc : TypeId × Value → H} {P : Program} {w : World} {base : Nat} {spare : Nat → Bool} {held : Bool}
theorem opens_fields {t : TypeId} {fs : Array Field} (ht : P.underlying t = some (.struct fs)) {fuel : Nat} {cs : List Value} {y : DataW H × List MemPlace} (h : DataW.trod enc P w base spare held fuel t cs = some y) (hl : Light P t y.1) :
    cs.length = P.cellsOf t ∧ ∀ (i : Nat) (f : Field), fs[i]? = some f → ∃ n y', DataW.trod enc P w base spare held n f.type ((cs.drop f.offset).take (P.cellsOf f.type)) = some y' ∧ Light P f.type y'.1 := by
  obtain ⟨xs, n, _, rfl, hc, hxl, hf⟩ := DataW.trod_struct ht h
  refine ⟨hc, fun i f hi => ?_⟩
  have hlt : i < xs.length := by rw [hxl]; exact (Array.getElem?_eq_some_iff.1 hi).1
  have h1 := hf i f hi
  rw [List.getElem?_eq_getElem hlt] at h1
  exact ⟨n, _, h1, light_field ht hl hi (by rw [List.getElem?_map, List.getElem?_eq_getElem hlt]; rfl)⟩
theorem opens_param {t : TypeId} {fs : Array Field} (ht : P.underlying t = some (.struct fs)) {r : Reach} {b0 : Nat} {v : Value} {d : DataW H} {p : List MemPlace} (hv : Value.okWide P w r b0 t v) (h : DataW.Trod enc P w base spare held t v d p) (hl : Light P t d) :
    ∃ cs : List Value, v = .agg cs.toArray ∧ cs.length = P.cellsOf t ∧ ∀ (i : Nat) (f : Field), fs[i]? = some f → ∃ n y', DataW.trod enc P w base spare held n f.type ((cs.drop f.offset).take (P.cellsOf f.type)) = some y' ∧ Light P f.type y'.1 := by
  obtain ⟨ca, rfl, hsz⟩ := okWide_struct ht hv
  obtain ⟨fuel, hf⟩ := h
  obtain ⟨cs⟩ := ca
  obtain ⟨hc, hff⟩ := opens_fields ht hf hl
  exact ⟨cs, rfl, by simpa using hsz, hff⟩
end
def FldAt {H : Type} (enc : TypeId × Value → H) (P : Program) (w : World) (base : Nat) (spare : Nat → Bool) (held : Bool) (cs : List Value) (ty off : Nat) : Prop :=
  ∃ n y', DataW.trod enc P w base spare held n ty ((cs.drop off).take (P.cellsOf ty)) = some y' ∧ Light P ty y'.1
theorem cells1 {cs : List Value} {v : Value} {i : Nat} (h : cs[i]? = some v) : (cs.drop i).take 1 = [v] := by
  obtain ⟨hi, rfl⟩ := List.getElem?_eq_some_iff.1 h
  rw [List.drop_eq_getElem_cons hi]; rfl
end Go.Proofs.YthaoedfalkebbaaGreat
namespace Go.Proofs.YthaoedfalkebbaaGreat
open Go.RowKit Go.Maps Go.Sort Go.Lib Go.Proofs.YthaoedfalkebbaaGreatW.PrintWords Go.Proofs.YthaoedfalkebbaaGreatW.PrintLast Go.Proofs.YthaoedfalkebbaaGreatW.PrintMore
set_option linter.unusedVariables false
set_option linter.unusedSimpArgs false
set_option linter.unusedSectionVars false
theorem trans_grown {w w1 w2 : World} {r : Option Nat} (h : w.grownBy w1 r) (k : w1.grownBy w2 r) : w.grownBy w2 r :=
  ⟨k.os.trans h.os, k.tape.trans h.tape, k.output.trans h.output, Nat.le_trans h.size k.size, fun i hi hne => (k.block i (Nat.lt_of_lt_of_le hi h.size) hne).trans (h.block i hi hne)⟩
theorem grown_none {w w1 : World} {r : Option Nat} (h : w.grownBy w1 none) : w.grownBy w1 r := ⟨h.os, h.tape, h.output, h.size, fun i hi _ => h.block i hi (by simp)⟩
theorem add_field (ad : Addr) (m j : Nat) (hj : 0 < j) : ad.add (m + j) = ⟨(ad.add m).block, (ad.add m).off + j, none⟩ := by
  unfold Addr.add
  rw [if_neg (by omega)]
  split <;> simp <;> omega
theorem below_but {n : Nat} {w w' w'' : World} {b : Nat} (h : Below n w w') (hn : n ≤ w'.heap.size) (hg : w'.grownBy w'' (some b)) (hb : n ≤ b) : Below n w w'' :=
  h.grown hg hn (fun k e => by cases e; exact hb)
theorem grown_set (w : World) (g j : Nat) (u : Value) : w.grownBy (w.setCell ⟨g, j, none⟩ u) (some g) := ⟨rfl, rfl, rfl, by simp [World.setCell], fun i _ hne => Below.heap_setCell w ⟨g, j, none⟩ u i (fun e => hne (by rw [e]))⟩
theorem drewG (w : World) : w.grownBy w.drew none := ⟨rfl, rfl, rfl, Nat.le_refl _, fun _ _ _ => rfl⟩
theorem drewNG (w : World) (n : Nat) : w.grownBy (w.drewN n) none := ⟨rfl, rfl, rfl, Nat.le_refl _, fun _ _ _ => rfl⟩
theorem toList_inj {s u : ByteArray} (h : s.toList = u.toList) : s = u := by
  have e := ByteArray.toList_eq
  rw [e, e] at h
  cases s
  cases u
  simp at h
  rw [h]
theorem toList_iff (s u : ByteArray) : (s.toList = u.toList) ↔ s = u := ⟨toList_inj, fun h => by rw [h]⟩
/-! ### a row of plain cells, sorted in its place -/
section
variable {α : Type} [Inhabited α] {enc : α → List Value} {k : Nat} {hn : ∀ x, (enc x).length = k} {h1 : ∀ x, ∀ u ∈ enc x, u.oneCell' = true}
theorem flat_at (hn : ∀ x, (enc x).length = k) (d : Array α) (j i : Nat) (hj : j < d.size) (hi : i < k) : (flatK enc k d)[j * k + i]! = (enc d[j]!)[i]! := by
  have hlt : j * k + i < d.size * k := by
    have : (j + 1) * k ≤ d.size * k := Nat.mul_le_mul_right k hj
    rw [Nat.add_mul, Nat.one_mul] at this
    omega
  rw [get_flatK _ _ _ _ hlt]
  have e1 : (j * k + i) / k = j := by rw [Nat.mul_comm, Nat.mul_add_div (by omega), Nat.div_eq_of_lt hi]; omega
  have e2 : (j * k + i) % k = i := by rw [Nat.mul_comm, Nat.mul_add_mod, Nat.mod_eq_of_lt hi]
  rw [e1, e2]
theorem flat_reps (hn : ∀ x, (enc x).length = k) (xs : List α) : Reps (fun x cs => cs = enc x) k xs (flatK enc k xs.toArray).toList := by
  refine ⟨by simp, fun j p hp => ?_⟩
  obtain ⟨hj, rfl⟩ := List.getElem?_eq_some_iff.1 hp
  have hle : j * k + k ≤ xs.length * k := by
    have : (j + 1) * k ≤ xs.length * k := Nat.mul_le_mul_right k hj
    rwa [Nat.add_mul, Nat.one_mul] at this
  refine List.ext_getElem (by simp [hn]; omega) fun i h1 h2 => ?_
  have hi : i < k := by rw [hn] at h2; exact h2
  have := flat_at hn xs.toArray j i (by simpa using hj) hi
  rw [getElem!_pos _ _ (by simp; omega), getElem!_pos (enc _) i (by rw [hn]; exact hi)] at this
  simpa [hj] using this
theorem flat_holds {w : World} {base e g cap : Nat} {ok : Nat → Prop} {xs : List α} (h : (Kd.flat enc k hn h1).R e w base ok (.slice (some ⟨g, 0, none⟩) xs.length cap) xs) : HoldsK enc k w g 0 xs.toArray := by
  obtain ⟨_, inner, ho, hr⟩ := h
  intro j hj
  have hj' : j < xs.length * k := by simpa using hj
  refine ⟨?_, ?_⟩
  · rw [Nat.zero_add, ho.cellAt j hj']
    have hk : 0 < k := by
      rcases Nat.eq_zero_or_pos k with h | h
      · rw [h, Nat.mul_zero] at hj'; omega
      · exact h
    have hd : j / k < xs.length := by rw [Nat.div_lt_iff_lt_mul hk]; exact hj'
    have hm := Nat.mod_lt j hk
    have e : j / k * k + j % k = j := Nat.div_add_mod' j k
    have h2 : (inner.drop (j / k * k)).take k = enc xs[j / k] := hr.2 (j / k) _ (List.getElem?_eq_getElem hd)
    have h3 := flat_at hn xs.toArray (j / k) (j % k) (by simpa using hd) hm
    rw [e] at h3
    rw [h3]
    have h4 : ((inner.drop (j / k * k)).take k)[j % k]? = inner[j]? := by
      rw [List.getElem?_take, if_pos hm, List.getElem?_drop, e]
    have h5 : xs.toArray[j / k]! = xs[j / k] := by rw [getElem!_pos _ _ (by simpa using hd)]; simp
    rw [← h4, h2, h5]
    rw [getElem!_pos (enc _) _ (by rw [hn]; exact hm), List.getElem?_eq_getElem (by rw [hn]; exact hm)]
    rfl
  · rw [Nat.zero_add]; exact ho.frozenAt j
theorem flat_sorted {w : World} {base e g cap : Nat} {ok : Nat → Prop} {xs ys : List α} (h : (Kd.flat enc k hn h1).R e w base ok (.slice (some ⟨g, 0, none⟩) xs.length cap) xs) (hl : ys.length = xs.length) (m : Nat) (os : Array Obj) :
    (Kd.flat enc k hn h1).R e (sortWorldK enc k w g 0 m ys.toArray os) base ok (.slice (some ⟨g, 0, none⟩) ys.length cap) ys ∧ w.grownBy (sortWorldK enc k w g 0 m ys.toArray os) (some g) := by
  obtain ⟨h0, inner, ⟨hil, ho⟩, hr⟩ := h
  rcases ho with ⟨he, _⟩ | ⟨g', cap', cur, he, hb, hh, hc1, hc2, hcs, htk⟩
  · cases he
  injection he with e1 e2 e3
  injection e1 with e1
  injection e1 with e1
  subst e1 e3
  have hlt : g < w.heap.size := (Array.getElem?_eq_some_iff.1 hh).1
  have hheap : (sortWorldK enc k w g 0 m ys.toArray os).heap = (w.heap.modify g (onCells (putCells id 0 (flatK enc k ys.toArray)))) ++ os := rfl
  have hnew : (sortWorldK enc k w g 0 m ys.toArray os).heap[g]? = some (.cells (putCells id 0 (flatK enc k ys.toArray) cur) e (0, 0)) := by
    rw [hheap, Array.getElem?_append_left (by simpa using hlt), Array.getElem?_modify, if_pos rfl, hh]
    rfl
  refine ⟨⟨h0, (flatK enc k ys.toArray).toList, ⟨by simp [Kd.flat], .inr ⟨g, cap, _, by rw [hl], hb, hnew, by omega, hc2, ?_, ?_⟩⟩, flat_reps hn ys⟩, ⟨rfl, rfl, rfl, ?_, ?_⟩⟩
  · simp [putCells, hcs]
  · refine List.ext_getElem? fun t => ?_
    rw [List.getElem?_take]
    simp only [Kd.flat] at hcs ⊢
    have hle : ys.length * k ≤ cap * k := Nat.mul_le_mul_right k (by omega)
    by_cases ht : t < ys.length * k
    · simp only [ht, ↓reduceIte]
      simp only [putCells, Array.toList_mapIdx, List.getElem?_mapIdx, Array.getElem?_toList]
      rw [Array.getElem?_eq_getElem (show t < cur.size by omega), Array.getElem?_eq_getElem (show t < (flatK enc k ys.toArray).size by simpa using ht)]
      rw [Option.map_some, if_pos ⟨by omega, by simpa using ht⟩]
      rw [Nat.sub_zero, getElem!_pos _ _ (by simpa using ht)]
      rfl
    · simp only [ht, ↓reduceIte]
      rw [List.getElem?_eq_none (by simpa using ht)]
  · rw [hheap]; simp
  · intro i hi hne
    have : g ≠ i := fun e => hne (by rw [e])
    rw [hheap, Array.getElem?_append_left (by simpa using hi), Array.getElem?_modify, if_neg this]
end
/-! ### a row whose block may be larger than its capacity (cut by three indexes) -/
def LRow (w : World) (base : Nat) (e : TypeId) (size : Nat) (v : Value) (n : Nat) (xs : List Value) : Prop :=
  xs.length = n * size ∧
  ((v = .slice none 0 0 ∧ n = 0) ∨
   ∃ g cap cur, v = .slice (some ⟨g, 0, none⟩) n cap ∧ base ≤ g ∧ w.heap[g]? = some (.cells cur e (0, 0)) ∧ n ≤ cap ∧ cap ≤ maxLen ∧ cap * size ≤ cur.size ∧ cur.toList.take (n * size) = xs)
section
variable {P : Program} {w w1 : World} {base n size : Nat} {e : TypeId} {v : Value} {xs : List Value}
theorem l_of_own (h : w.ownsRow base e size v n xs) : LRow w base e size v n xs := by
  obtain ⟨h1, h2⟩ := h
  refine ⟨h1, ?_⟩
  rcases h2 with h2 | ⟨g, cap, cur, rfl, hb, hh, hnc, hcm, hcs, ht⟩
  · exact .inl h2
  · exact .inr ⟨g, cap, cur, rfl, hb, hh, hnc, hcm, by omega, ht⟩
theorem l_move (h : LRow w base e size v n xs) (hm : ∀ k, v.ownBlock = some k → w1.heap[k]? = w.heap[k]?) : LRow w1 base e size v n xs := by
  obtain ⟨h1, h2⟩ := h
  refine ⟨h1, ?_⟩
  rcases h2 with h2 | ⟨g, cap, cur, rfl, hb, hh, r⟩
  · exact .inl h2
  · exact .inr ⟨g, cap, cur, rfl, hb, (hm g rfl).trans hh, r⟩
theorem l_typed (h : LRow w base e size v n xs) (k : Nat) (hk : v.ownBlock = some k) : base ≤ k ∧ ∃ cells, w.heap[k]? = some (.cells cells e (0, 0)) := by
  rcases h.2 with ⟨rfl, _⟩ | ⟨g, cap, cur, rfl, hb, hh, _⟩
  · cases hk
  · injection hk with hk
    have hk : g = k := hk
    subst hk
    exact ⟨hb, _, hh⟩
theorem l_lower {base' : Nat} (h : LRow w base e size v n xs) (hb : base' ≤ base) : LRow w base' e size v n xs := by
  obtain ⟨h1, h2⟩ := h
  refine ⟨h1, ?_⟩
  rcases h2 with h2 | ⟨g, cap, cur, hv, hb', r⟩
  · exact .inl h2
  · exact .inr ⟨g, cap, cur, hv, by omega, r⟩
theorem l_cells {g c : Nat} (h : LRow w base e size (.slice (some ⟨g, 0, none⟩) n c) n xs) : ∀ j u, xs[j]? = some u → w.cell? ⟨g, j, none⟩ = some u := by
  intro j u hu
  rcases h.2 with ⟨hv, _⟩ | ⟨g', cap, cur, hv, hb, hh, _, _, _, ht⟩
  · cases hv
  · injection hv with hv _ _
    injection hv with hv
    injection hv with hv
    subst hv
    rw [cell_of_row w g _ cur e (0, 0) hh]
    rw [← ht, List.getElem?_take] at hu
    split at hu
    · rw [← Array.getElem?_toList]; exact hu
    · cases hu
theorem run_append_zero (t ty e : TypeId) (i : TypeInfo) (ht : P.underlying t = some (.slice e)) (hi : P.info? e = some i) (b : Option Addr) (n c : Nat) (x : Option Addr) (c' : Nat) (h : n ≤ c) :
    (Builtin.append_ #[t, t] ty #[.slice b n c, .slice x 0 c']).run P w = .ok (.slice b n c) w := by
  cases x <;> cases b <;> simp [Builtin.append_, run_underlying ht, sizeOf, typeInfo, hi, Builtin.lenOf, Builtin.firstCells, h, go_sem, loadCells, loadCellsFrom, storeCells]
theorem l_append (w : World) (base : Nat) (t ty e : TypeId) (i : TypeInfo) (z : Value) (size bytes : Nat) (ht : P.underlying t = some (.slice e)) (hi : P.info? e = some i) (hz : i.zero = some z)
    (hsize : i.size = size) (hby : i.bytes = bytes) (hzs : z.cells.size = size) (hsz : 0 < size)
    (v : Value) (n : Nat) (xs : List Value) (hown : LRow w base e size v n xs)
    (a : Addr) (m c : Nat) (news : List Value) (hl : news.length = m * size) (hnews : ∀ j u, news[j]? = some u → w.cell? (a.add j) = some u) (h1 : ∀ u ∈ news, u.oneCell' = true) (hm : 0 < m)
    (h63 : n + m ≤ maxLen) (hbytes : (n + m) * bytes ≤ 140737488355328) (hbase : base ≤ w.heap.size) :
    ∃ v' w', (Builtin.append_ #[t, t] ty #[v, .slice (some a) m c]).run P w = .ok v' w' ∧ LRow w' base e size v' (n + m) (xs ++ news) ∧ w.grownBy w' v.ownBlock := by
  rcases hown.2 with ⟨rfl, rfl⟩ | ⟨g, cap, cur, rfl, hbg, hg, hnc, hcm, hcs, htake⟩
  · have ho : w.ownsRow base e size (.slice none 0 0) 0 xs := ⟨hown.1, .inl ⟨rfl, rfl⟩⟩
    obtain ⟨v', w', hr, ho', hg, _⟩ := run_append_own_at (P := P) w base t ty e i z size bytes ht hi hz hsize hby hzs hsz _ 0 xs ho a m c news hl hnews h1 h63 hbytes hbase
    exact ⟨v', w', hr, l_of_own ho', hg⟩
  · by_cases hroom : n + m ≤ cap
    · have hfit : 0 + n * size + news.length ≤ cur.size := by
        have := Nat.mul_le_mul_right size hroom
        rw [Nat.add_mul] at this
        rw [hl]
        omega
      subst hsize
      have hr := run_append_room_cells (P := P) (w := w) t ty e i ht hi g 0 n cap a m c news hl hnews h1 hroom
        (fun j hj => by rw [cell_of_row w g _ cur e (0, 0) hg]; simp; omega) (fun j _ => blk_frozen hg _)
      obtain ⟨cur', h3, h4, h5⟩ := setCells_row news (0 + n * i.size) w cur hg hfit
      obtain ⟨s1, s2, s3, s4⟩ := setCells_same g news (0 + n * i.size) w
      refine ⟨_, _, hr, ⟨by rw [List.length_append, hown.1, hl, Nat.add_mul], .inr ⟨g, cap, cur', rfl, hbg, h3, hroom, hcm, by omega, ?_⟩⟩,
        ⟨s1, s2, s3, by rw [s4]; exact Nat.le_refl _, fun k _ hk => setCells_far news _ k (fun he => hk (by rw [he]; simp [Value.ownBlock]))⟩⟩
      rw [h5, Nat.zero_add, htake]
      exact List.take_left' (by rw [List.length_append, hown.1, hl, Nat.add_mul])
    · obtain ⟨v', w', hr, ho, hg'⟩ := run_append_arg_grows (P := P) (w := w) t ty e i z size bytes ht hi hz hsize hby hzs hsz ⟨g, 0, none⟩ n cap xs hown.1 (fun j u hu => by rw [add_plain]; exact l_cells hown j u hu) a m c news hl hnews (by omega) h63 hbytes
      exact ⟨v', w', hr, l_lower (l_of_own ho) hbase, ⟨hg'.os, hg'.tape, hg'.output, hg'.size, fun k hk _ => hg'.block k hk (by simp)⟩⟩
theorem l_delete (w : World) (base : Nat) (t ty e : TypeId) (i : TypeInfo) (z : Value) (size bytes : Nat) (ht : P.underlying t = some (.slice e)) (hi : P.info? e = some i) (hz : i.zero = some z)
    (hsize : i.size = size) (hby : i.bytes = bytes) (hzs : z.cells.size = size) (hsz : 0 < size)
    (g c n : Nat) (xs : List Value) (hown : LRow w base e size (.slice (some ⟨g, 0, none⟩) n c) n xs) (k : Nat) (hk : k < n) (hbytes : n * bytes ≤ 140737488355328) (hb0 : 0 < bytes) (hbase : base ≤ w.heap.size) :
    ∃ v' w', (Builtin.append_ #[t, t] ty #[.slice (some ⟨g, 0, none⟩) k k, .slice (if c = k + 1 then some ⟨g, 0, none⟩ else some ⟨g, (k + 1) * size, none⟩) (n - (k + 1)) (c - (k + 1))]).run P w = .ok v' w' ∧
      LRow w' base e size v' (n - 1) (xs.take (k * size) ++ xs.drop ((k + 1) * size)) ∧ w.grownBy w' none := by
  have hcell := l_cells hown
  have hlen := hown.1
  have hkn : (k + 1) * size ≤ n * size := Nat.mul_le_mul_right _ hk
  have hk0 : k * size ≤ n * size := Nat.mul_le_mul_right _ (by omega)
  have hn0 : n ≤ 140737488355328 := Nat.le_trans (Nat.le_mul_of_pos_right _ hb0) hbytes
  by_cases hm : n = k + 1
  · refine ⟨.slice (some ⟨g, 0, none⟩) k k, w, ?_, ?_, World.grownBy.refl w _⟩
    · rw [show n - (k + 1) = 0 by omega]
      exact run_append_zero t ty e i ht hi _ k k _ _ (Nat.le_refl _)
    · rcases hown.2 with ⟨hv, _⟩ | ⟨g', cap, cur, hv, hb, hh, h1, h2, h3, h4⟩
      · cases hv
      · injection hv with hv _ hc
        injection hv with hv
        injection hv with hv
        subst hv hc
        have e1 : xs.drop ((k + 1) * size) = [] := List.drop_eq_nil_of_le (by rw [hlen, hm]; exact Nat.le_refl _)
        rw [e1, List.append_nil, show n - 1 = k by omega]
        refine ⟨by rw [List.length_take, hlen, Nat.min_eq_left hk0], .inr ⟨g, k, cur, rfl, hb, hh, Nat.le_refl _, by omega, ?_, ?_⟩⟩
        · have := Nat.mul_le_mul_right size (show k ≤ c by omega)
          omega
        · rw [← h4, List.take_take, Nat.min_eq_left hk0]
  · have hcn : n ≤ c := by
      rcases hown.2 with ⟨hv, _⟩ | ⟨g', cap, cur, hv, hb, hh, h1, _⟩
      · cases hv
      · injection hv with _ _ hc
        omega
    rw [if_neg (by omega)]
    obtain ⟨v', w', hr, ho, hg'⟩ := run_append_arg_grows (P := P) (w := w) t ty e i z size bytes ht hi hz hsize hby hzs hsz ⟨g, 0, none⟩ k k (xs.take (k * size)) (by rw [List.length_take, hlen, Nat.min_eq_left hk0])
      (fun j u hu => by
        rw [add_plain]
        rw [List.getElem?_take] at hu
        split at hu
        · exact hcell j u hu
        · cases hu) ⟨g, (k + 1) * size, none⟩ (n - (k + 1)) (c - (k + 1)) (xs.drop ((k + 1) * size)) (by rw [List.length_drop, hlen, ← Nat.sub_mul])
      (fun j u hu => by
        rw [List.getElem?_drop] at hu
        have e1 : (⟨g, (k + 1) * size, none⟩ : Addr).add j = ⟨g, (k + 1) * size + j, none⟩ := by unfold Addr.add; split <;> simp_all
        rw [e1]
        exact hcell _ u hu) (by omega) (by simp only [maxLen]; omega) (by
        refine Nat.le_trans (Nat.mul_le_mul_right _ ?_) hbytes
        omega)
    rw [show k + (n - (k + 1)) = n - 1 by omega] at ho
    exact ⟨v', w', hr, l_lower (l_of_own ho) hbase, hg'⟩
end
/-! ### the same, by what the elements are -/
section
variable {α : Type} {enc : α → List Value} {k : Nat} {e base : Nat} {w w1 : World} {v : Value} {xs : List α}
def Lo (enc : α → List Value) (k e : Nat) (w : World) (base : Nat) (v : Value) (xs : List α) : Prop := ∃ inner, LRow w base e k v xs.length inner ∧ Reps (fun x cs => cs = enc x) k xs inner
theorem Lo.nil (w : World) (base : Nat) : Lo enc k e w base (.slice none 0 0) [] := ⟨[], ⟨by simp, .inl ⟨rfl, rfl⟩⟩, Reps.none _ _⟩
theorem Lo.move (h : Lo enc k e w base v xs) (hm : ∀ b, v.ownBlock = some b → w1.heap[b]? = w.heap[b]?) : Lo enc k e w1 base v xs := by
  obtain ⟨inner, h1, h2⟩ := h
  exact ⟨inner, l_move h1 hm, h2⟩
theorem Lo.typed (h : Lo enc k e w base v xs) (b : Nat) (hb : v.ownBlock = some b) : base ≤ b ∧ b < w.heap.size ∧ ∃ cells, w.heap[b]? = some (.cells cells e (0, 0)) := by
  obtain ⟨inner, h1, _⟩ := h
  obtain ⟨h2, cells, h3⟩ := l_typed h1 b hb
  exact ⟨h2, (Array.getElem?_eq_some_iff.1 h3).1, cells, h3⟩
theorem Lo.grown (h : Lo enc k e w base v xs) {row : Option Nat} (hg : w.grownBy w1 row) (hne : ∀ b, row = some b → v.ownBlock ≠ some b) : Lo enc k e w1 base v xs :=
  h.move fun b hb => hg.block b (h.typed b hb).2.1 (fun e => hne b e.symm hb)
theorem Lo.apart {β : Type} {enc' : β → List Value} {k' e' base' : Nat} {v' : Value} {ys : List β} (h : Lo enc k e w base v xs) (h' : Lo enc' k' e' w base' v' ys) (he : e ≠ e') : ∀ b, v'.ownBlock = some b → v.ownBlock ≠ some b := by
  intro b hb hb'
  obtain ⟨_, _, c1, h1⟩ := h.typed b hb'
  obtain ⟨_, _, c2, h2⟩ := h'.typed b hb
  rw [h1] at h2
  injection h2 with h2
  injection h2 with _ h2
  exact he h2
theorem Lo.slice (h : Lo enc k e w base v xs) : ∃ A c, v = .slice A xs.length c ∧ xs.length ≤ c ∧ (0 < xs.length → ∃ g, A = some ⟨g, 0, none⟩ ∧ base ≤ g) := by
  obtain ⟨inner, h1, _⟩ := h
  rcases h1.2 with ⟨rfl, h⟩ | ⟨g, c, cur, rfl, hb, _, hc, _⟩
  · exact ⟨none, 0, by rw [h], by omega, fun h0 => by omega⟩
  · exact ⟨_, c, rfl, hc, fun _ => ⟨g, rfl, hb⟩⟩
theorem Lo.cell (h : Lo enc k e w base v xs) (hn : ∀ x, (enc x).length = k) {g n c : Nat} (hv : v = .slice (some ⟨g, 0, none⟩) n c) (j : Nat) (x : α) (hj : xs[j]? = some x) : ∀ i u, (enc x)[i]? = some u → w.cell? ⟨g, j * k + i, none⟩ = some u := by
  intro i u hu
  obtain ⟨inner, h1, h2⟩ := h
  have e0 : n = xs.length := by
    rcases h1.2 with ⟨hv', _⟩ | ⟨g', c', cur, hv', _⟩
    · rw [hv] at hv'; cases hv'
    · rw [hv] at hv'; injection hv'
  subst hv
  subst e0
  have h3 : (inner.drop (j * k)).take k = enc x := h2.2 j x hj
  refine l_cells h1 _ _ ?_
  rw [← h3, List.getElem?_take] at hu
  split at hu
  · rw [List.getElem?_drop] at hu; exact hu
  · cases hu
theorem reps_erase (hn : ∀ x, (enc x).length = k) {inner : List Value} (h : Reps (fun x cs => cs = enc x) k xs inner) (i : Nat) (hi : i < xs.length) : Reps (fun x cs => cs = enc x) k (xs.eraseIdx i) (inner.take (i * k) ++ inner.drop ((i + 1) * k)) := by
  rw [List.eraseIdx_eq_take_drop_succ]
  exact Kd.reps_append (Kd.reps_take h (by omega)) (Kd.reps_drop h)
theorem Lo.delete {P : Program} (h : Lo enc k e w base v xs) (hn : ∀ x, (enc x).length = k) (t ty : TypeId) (z : Value) (bytes : Nat) (ht : P.underlying t = some (.slice e)) (hinfo : (P.info? e).map (fun i => (i.zero, i.size, i.bytes)) = some (some z, k, bytes)) (hzs : z.cells.size = k) (hk : 0 < k) (hb0 : 0 < bytes)
    {g c : Nat} (hv : v = .slice (some ⟨g, 0, none⟩) xs.length c) (i : Nat) (hi : i < xs.length) (hbytes : xs.length * bytes ≤ 140737488355328) (hbase : base ≤ w.heap.size) :
    ∃ v' w', (Builtin.append_ #[t, t] ty #[.slice (some ⟨g, 0, none⟩) i i, .slice (if c = i + 1 then some ⟨g, 0, none⟩ else some ⟨g, (i + 1) * k, none⟩) (xs.length - (i + 1)) (c - (i + 1))]).run P w = .ok v' w' ∧ Lo enc k e w' base v' (xs.eraseIdx i) ∧ w.grownBy w' none := by
  obtain ⟨inner, h1, h2⟩ := h
  obtain ⟨i0, hi0, hzz⟩ := Option.map_eq_some_iff.1 hinfo
  simp only [Prod.mk.injEq] at hzz
  obtain ⟨hz0, hz1, hz2⟩ := hzz
  subst hv
  obtain ⟨v', w', hr, ho, hg⟩ := l_delete (P := P) w base t ty e i0 z k bytes ht hi0 hz0 hz1 hz2 hzs hk g c xs.length inner h1 i hi hbytes hb0 hbase
  exact ⟨v', w', hr, ⟨_, by rw [List.length_eraseIdx, if_pos hi]; exact ho, reps_erase hn h2 i hi⟩, hg⟩
theorem Lo.append {P : Program} (h : Lo enc k e w base v xs) (hn : ∀ x, (enc x).length = k) (h1c : ∀ x, ∀ u ∈ enc x, u.oneCell' = true) (t ty : TypeId) (z : Value) (bytes : Nat) (ht : P.underlying t = some (.slice e)) (hinfo : (P.info? e).map (fun i => (i.zero, i.size, i.bytes)) = some (some z, k, bytes)) (hzs : z.cells.size = k) (hk : 0 < k) (hb0 : 0 < bytes)
    (x : α) (hbytes : (xs.length + 1) * bytes ≤ 140737488355328) (hbase : base ≤ w.heap.size) :
    ∃ v' w', (Builtin.append_ #[t, t] ty #[v, .slice (some ⟨w.heap.size, 0, none⟩) 1 1]).run P (w.alloc (.cells (enc x).toArray e)) = .ok v' w' ∧ Lo enc k e w' base v' (xs ++ [x]) ∧ w.grownBy w' v.ownBlock := by
  have hw := h.grown (World.grownBy_alloc w (.cells (enc x).toArray e) none) (fun b e => by cases e)
  obtain ⟨inner, h1, h2⟩ := hw
  obtain ⟨i0, hi0, hzz⟩ := Option.map_eq_some_iff.1 hinfo
  simp only [Prod.mk.injEq] at hzz
  obtain ⟨hz0, hz1, hz2⟩ := hzz
  have hlen : xs.length + 1 ≤ 140737488355328 := Nat.le_trans (Nat.le_mul_of_pos_right _ hb0) hbytes
  obtain ⟨v', w', hr, ho, hg⟩ := l_append (P := P) (w.alloc (.cells (enc x).toArray e)) base t ty e i0 z k bytes ht hi0 hz0 hz1 hz2 hzs hk v xs.length inner h1 ⟨w.heap.size, 0, none⟩ 1 1 (enc x) (by rw [hn, Nat.one_mul])
    (by simpa using World.news_of_block (cs := (enc x).toArray) (t := e) (fr := (0, 0)) (heap_alloc_new w (.cells (enc x).toArray e))) (h1c x) (by omega) (by simp only [maxLen]; omega) hbytes (by simp; omega)
  refine ⟨v', w', hr, ⟨_, by rw [List.length_append]; exact ho, h2.snoc rfl (hn x)⟩, trans_grown (World.grownBy_alloc w _ _) hg⟩
end
/-! ### an append of a whole slice -/
section
variable {α : Type} {enc : α → List Value} {k e base : Nat} {w w1 : World} {v : Value} {xs ys : List α}
/-- a slice that can be read off -/
def Src (enc : α → List Value) (k : Nat) (w : World) (A : Option Addr) (ys : List α) : Prop :=
  ∃ inner, inner.length = ys.length * k ∧ Reps (fun x cs => cs = enc x) k ys inner ∧ (0 < ys.length → ∃ a, A = some a ∧ ∀ j u, inner[j]? = some u → w.cell? (a.add j) = some u)
theorem Lo.appS {P : Program} (h : Lo enc k e w base v xs) (hn : ∀ x, (enc x).length = k) (h1c : ∀ x, ∀ u ∈ enc x, u.oneCell' = true) (t ty : TypeId) (z : Value) (bytes : Nat) (ht : P.underlying t = some (.slice e)) (hinfo : (P.info? e).map (fun i => (i.zero, i.size, i.bytes)) = some (some z, k, bytes)) (hzs : z.cells.size = k) (hk : 0 < k) (hb0 : 0 < bytes)
    (A : Option Addr) (c : Nat) (hs : Src enc k w A ys) (hbytes : (xs.length + ys.length) * bytes ≤ 140737488355328) (hbase : base ≤ w.heap.size) :
    ∃ v' w', (Builtin.append_ #[t, t] ty #[v, .slice A ys.length c]).run P w = .ok v' w' ∧ Lo enc k e w' base v' (xs ++ ys) ∧ w.grownBy w' v.ownBlock := by
  obtain ⟨i0, hi0, hzz⟩ := Option.map_eq_some_iff.1 hinfo
  simp only [Prod.mk.injEq] at hzz
  obtain ⟨hz0, hz1, hz2⟩ := hzz
  have hlen : xs.length + ys.length ≤ 140737488355328 := Nat.le_trans (Nat.le_mul_of_pos_right _ hb0) hbytes
  obtain ⟨news, hl, hr, hc⟩ := hs
  rcases Nat.eq_zero_or_pos ys.length with h0 | h0
  · have hy : ys = [] := List.eq_nil_of_length_eq_zero h0
    obtain ⟨B, cB, hv, hle, _⟩ := h.slice
    refine ⟨v, w, ?_, by rw [hy, List.append_nil]; exact h, ⟨rfl, rfl, rfl, Nat.le_refl _, fun _ _ _ => rfl⟩⟩
    rw [h0, hv]
    exact run_append_zero t ty e i0 ht hi0 B xs.length cB A c hle
  · obtain ⟨a, rfl, hcells⟩ := hc h0
    obtain ⟨inner, h1, h2⟩ := h
    obtain ⟨v', w', hrun, ho, hg⟩ := l_append (P := P) w base t ty e i0 z k bytes ht hi0 hz0 hz1 hz2 hzs hk v xs.length inner h1 a ys.length c news hl hcells (fun u hu => by
      obtain ⟨j, hj⟩ := List.mem_iff_getElem?.1 hu
      have hjl : j < ys.length * k := by rw [← hl]; exact (List.getElem?_eq_some_iff.1 hj).1
      have hd : j / k < ys.length := by rw [Nat.div_lt_iff_lt_mul hk]; exact hjl
      have hm := Nat.mod_lt j hk
      have e0 : j / k * k + j % k = j := Nat.div_add_mod' j k
      have h3 : (news.drop (j / k * k)).take k = enc ys[j / k] := hr.2 (j / k) _ (List.getElem?_eq_getElem hd)
      have h4 : ((news.drop (j / k * k)).take k)[j % k]? = news[j]? := by rw [List.getElem?_take, if_pos hm, List.getElem?_drop, e0]
      rw [h3, hj] at h4
      exact h1c _ u (List.mem_of_getElem? h4)) h0 (by simp only [maxLen]; omega) hbytes hbase
    exact ⟨v', w', hrun, ⟨_, by rw [List.length_append]; exact ho, Kd.reps_append h2 hr⟩, hg⟩
/-- a loose row's beginning, read off -/
theorem Lo.srcTake (h : Lo enc k e w base v xs) {A : Option Addr} {n c i : Nat} (hv : v = .slice A n c) (hi : i ≤ xs.length) : Src enc k w A (xs.take i) := by
  obtain ⟨inner, h1, h2⟩ := h
  have hle : i * k ≤ xs.length * k := Nat.mul_le_mul_right _ hi
  have e0 : (xs.take i).length = i := by rw [List.length_take]; omega
  refine ⟨inner.take (i * k), by rw [List.length_take, h1.1, e0]; omega, Kd.reps_take h2 hi, fun h0 => ?_⟩
  rcases h1.2 with ⟨hv', hn⟩ | ⟨g, cap, cur, hv', _⟩
  · rw [e0] at h0; omega
  · rw [hv] at hv'
    injection hv' with e1 e2 e3
    refine ⟨_, e1, fun j u hu => ?_⟩
    rw [add_plain]
    rw [List.getElem?_take] at hu
    split at hu
    · have h3 := h1
      rw [hv, e1, e2] at h3
      exact l_cells h3 j u hu
    · cases hu
/-- .. its end -/
theorem Lo.srcDrop (h : Lo enc k e w base v xs) {A : Option Addr} {n c i : Nat} (hv : v = .slice A n c) (hi : i ≤ xs.length) : Src enc k w (if c = i then A else A.map (·.add (i * k))) (xs.drop i) := by
  obtain ⟨inner, h1, h2⟩ := h
  refine ⟨inner.drop (i * k), by rw [List.length_drop, h1.1, List.length_drop, Nat.sub_mul], Kd.reps_drop h2, fun h0 => ?_⟩
  rw [List.length_drop] at h0
  rcases h1.2 with ⟨hv', hn⟩ | ⟨g, cap, cur, hv', _, _, hnc, _⟩
  · omega
  · rw [hv] at hv'
    injection hv' with e1 e2 e3
    subst e1 e2 e3
    rw [if_neg (by omega)]
    refine ⟨_, rfl, fun j u hu => ?_⟩
    show w.cell? (((⟨g, 0, none⟩ : Addr).add (i * k)).add j) = some u
    rw [add_plain]
    have e4 : (⟨g, i * k, none⟩ : Addr).add j = ⟨g, i * k + j, none⟩ := by unfold Addr.add; split <;> simp_all
    rw [e4]
    rw [List.getElem?_drop] at hu
    rw [hv] at h1
    exact l_cells h1 _ u hu
theorem Lo.src (h : Lo enc k e w base v xs) {A : Option Addr} {n c : Nat} (hv : v = .slice A n c) : Src enc k w A xs := by
  have := h.srcTake hv (Nat.le_refl _)
  rwa [List.take_length] at this
theorem Src.grown {A : Option Addr} (h : Src enc k w A ys) (hm : 0 < k → ∀ a, A = some a → w1.heap[a.block]? = w.heap[a.block]?) : Src enc k w1 A ys := by
  obtain ⟨inner, h1, h2, h3⟩ := h
  refine ⟨inner, h1, h2, fun h0 => ?_⟩
  obtain ⟨a, ha, hc⟩ := h3 h0
  refine ⟨a, ha, fun j u hu => ?_⟩
  have hk : 0 < k := by
    rcases Nat.eq_zero_or_pos k with e | e
    · rw [e, Nat.mul_zero] at h1
      have := List.eq_nil_of_length_eq_zero h1
      rw [this] at hu; cases hu
    · exact e
  have e1 : (a.add j).block = a.block := by unfold Addr.add; split <;> rfl
  exact (World.cell?_of_block (a := a.add j) (by rw [e1]; exact hm hk a ha)).trans (hc j u hu)
end
/-! ### rows of one cell an element -/
section
variable {α : Type} [Inhabited α] {enc : α → Value}
theorem flat_one (d : Array α) : flatK (fun x => [enc x]) 1 d = d.map enc := by
  refine Array.ext (by simp) fun t h1 h2 => ?_
  have ht : t < d.size := by simpa using h2
  have := get_flatK (fun x => [enc x]) 1 d t (by simpa using ht)
  rw [getElem!_pos (flatK (fun x => [enc x]) 1 d) t h1] at this
  rw [this, Nat.mod_one, Nat.div_one, getElem!_pos d t ht, Array.getElem_map]
  rfl
theorem putRow_one (w : World) (g : Nat) (d : Array α) : putRow enc w g 0 d = putRow id w g 0 (d.map enc) := by
  unfold putRow
  refine mapBlock_congr _ _ _ _ fun c e fr _ => ?_
  unfold putCells
  congr 1
  funext k x
  rw [Array.size_map]
  split
  · rename_i h
    have hk : k - 0 < d.size := by omega
    rw [getElem!_pos (d.map enc) (k - 0) (by simpa using hk), Array.getElem_map, getElem!_pos d (k - 0) hk]
    rfl
  · rfl
variable {hn : ∀ x : α, [enc x].length = 1} {h1 : ∀ x, ∀ u ∈ [enc x], u.oneCell' = true}
theorem one_holds {w : World} {base e g cap : Nat} {ok : Nat → Prop} {xs : List α} (h : (Kd.flat (fun x => [enc x]) 1 hn h1).R e w base ok (.slice (some ⟨g, 0, none⟩) xs.length cap) xs) : Holds enc w g 0 xs.toArray := by
  have h2 := flat_holds h
  unfold HoldsK at h2
  rw [flat_one] at h2
  intro j hj
  obtain ⟨h3, h4⟩ := h2 j (by simpa using hj)
  refine ⟨?_, h4⟩
  rw [h3, getElem!_pos _ _ (by simpa using hj), Array.getElem_map, getElem!_pos xs.toArray j hj]
  rfl
theorem one_put {w : World} {base e g cap : Nat} {ok : Nat → Prop} {xs ys : List α} (h : (Kd.flat (fun x => [enc x]) 1 hn h1).R e w base ok (.slice (some ⟨g, 0, none⟩) xs.length cap) xs) (hl : ys.length = xs.length) (m : Nat) (os : Array Obj) :
    (Kd.flat (fun x => [enc x]) 1 hn h1).R e (grow (putRow enc (Sort.ahead w m) g 0 ys.toArray) os) base ok (.slice (some ⟨g, 0, none⟩) ys.length cap) ys ∧ w.grownBy (grow (putRow enc (Sort.ahead w m) g 0 ys.toArray) os) (some g) := by
  have := flat_sorted h hl m os
  unfold sortWorldK putRowK at this
  rw [flat_one, ← putRow_one] at this
  exact this
end
theorem Lo.lower {α : Type} {enc : α → List Value} {k e base base' : Nat} {w : World} {v : Value} {xs : List α} (h : Lo enc k e w base v xs) (hb : base' ≤ base) : Lo enc k e w base' v xs := by
  obtain ⟨inner, h1, h2⟩ := h
  exact ⟨inner, l_lower h1 hb, h2⟩
theorem Lo.ofR {α : Type} {enc : α → List Value} {k e base : Nat} {hn : ∀ x, (enc x).length = k} {h1 : ∀ x, ∀ u ∈ enc x, u.oneCell' = true} {w : World} {ok : Nat → Prop} {v : Value} {xs : List α} (h : (Kd.flat enc k hn h1).R e w base ok v xs) : Lo enc k e w base v xs := by
  obtain ⟨_, inner, ho, hr⟩ := h
  exact ⟨inner, l_of_own ho, hr⟩
theorem cut3 {P : Program} (t e : TypeId) (ht : P.underlying t = some (.slice e)) {z : Option Value} {size bytes : Nat} (hinfo : (P.info? e).map (fun i => (i.zero, i.size, i.bytes)) = some (z, size, bytes)) (g : Addr) (n c k : Nat) (hk : k ≤ c) (W : World) :
    (Instr.slice t (.slice (some g) n c) none (some (.int .i64 k)) (some (.int .i64 k))).run P W = .ok (.slice (some g) k k) W := by
  obtain ⟨i, hi, _⟩ := Option.map_eq_some_iff.1 hinfo
  simp [Instr.slice, Instr.sliceBounds, Instr.sliceBound, run_underlying ht, sizeOf, typeInfo, hi, asIntOf, go_sem, hk]
theorem cutBehind {P : Program} (t e : TypeId) (ht : P.underlying t = some (.slice e)) {z : Option Value} {size bytes : Nat} (hinfo : (P.info? e).map (fun i => (i.zero, i.size, i.bytes)) = some (z, size, bytes)) (g n c k : Nat) (hk : k < n) (W : World) :
    (Instr.slice t (.slice (some ⟨g, 0, none⟩) n c) (some (.int .i64 ((k : Int) + 1))) none none).run P W = .ok (.slice (if c = k + 1 then some ⟨g, 0, none⟩ else some ⟨g, (k + 1) * size, none⟩) (n - (k + 1)) (c - (k + 1))) W := by
  obtain ⟨i, hi, hz⟩ := Option.map_eq_some_iff.1 hinfo
  simp only [Prod.mk.injEq] at hz
  have := cut_from (P := P) t e .i64 ht hi size hz.2.1 (some ⟨g, 0, none⟩) n c ((k : Int) + 1) (by omega) (by omega) W
  rw [this, show ((k : Int) + 1).toNat = k + 1 by omega]
  simp only [Option.map_some, add_plain]
theorem app_step {P : Program} {ops : Array Oper} {o : Oper} {a : Act} {Q' : Exit → Act → World → Prop} {Kc : Act → World → Prop} {W w1 : World} {s x : Operand} {t : TypeId} {v u v1 : Value} (hw : Region.wanted o (yielded ops a.tmps) = true)
    (ho : o.op = .call { callee := .builtin .append, args := #[s, x], argTypes := #[t, t] }) (hs : a.eval s = v) (hx : a.eval x = u) (hr : (Builtin.append_ #[t, t] o.type #[v, u]).run P W = .ok v1 w1) (h : Kc (a.put o.dst v1) w1) :
    if Region.wanted o (yielded ops a.tmps) = true then Oper.wp P o a W Kc Q' else Kc (a.put o.dst undef) W := by
  rw [if_pos hw]
  unfold Oper.wp execOp
  simp only [ho, resolve, invoke, builtin, Sem.run_bind, Sem.run_pure, Result.andThen_ok, List.map_toArray, List.map_cons, List.map_nil, hs, hx, hr]
  exact h
theorem app_list {P : Program} {ops : Array Oper} {o : Oper} {rest : List Oper} {a : Act} {Q' : Exit → Act → World → Prop} {W w1 : World} {s x : Operand} {t : TypeId} {v u v1 : Value} (hgd : o.guard = none)
    (ho : o.op = .call { callee := .builtin .append, args := #[s, x], argTypes := #[t, t] }) (hs : a.eval s = v) (hx : a.eval x = u) (hr : (Builtin.append_ #[t, t] o.type #[v, u]).run P W = .ok v1 w1) (h : wpList P ops Q' rest (a.put o.dst v1) w1) :
    wpList P ops Q' (o :: rest) a W := by
  refine wpList_plain hgd fun K hK => ?_
  unfold Oper.wp execOp
  simp only [ho, resolve, invoke, builtin, Sem.run_bind, Sem.run_pure, Result.andThen_ok, List.map_toArray, List.map_cons, List.map_nil, hs, hx, hr]
  exact hK _ _ h
theorem map_erase {α β : Type} (f : α → β) (l : List α) (i : Nat) : (l.eraseIdx i).map f = (l.map f).eraseIdx i := by
  rw [List.eraseIdx_eq_take_drop_succ, List.eraseIdx_eq_take_drop_succ, List.map_append, List.map_take, List.map_drop]
theorem cutTo {P : Program} (t e : TypeId) (ht : P.underlying t = some (.slice e)) {z : Option Value} {size bytes : Nat} (hinfo : (P.info? e).map (fun i => (i.zero, i.size, i.bytes)) = some (z, size, bytes)) (A : Option Addr) (n c k : Nat) (hk : k ≤ c) (W : World) :
    (Instr.slice t (.slice A n c) none (some (.int .i64 k)) none).run P W = .ok (.slice A k c) W := by
  obtain ⟨i, hi, _⟩ := Option.map_eq_some_iff.1 hinfo
  cases A <;> simp [Instr.slice, Instr.sliceBounds, Instr.sliceBound, run_underlying ht, sizeOf, typeInfo, hi, asIntOf, go_sem, hk, Addr.add]
theorem cutOff {P : Program} (t e : TypeId) (ht : P.underlying t = some (.slice e)) {z : Option Value} {size bytes : Nat} (hinfo : (P.info? e).map (fun i => (i.zero, i.size, i.bytes)) = some (z, size, bytes)) (A : Option Addr) (n c k : Nat) (hk : k ≤ n) (W : World) :
    (Instr.slice t (.slice A n c) (some (.int .i64 k)) none none).run P W = .ok (.slice (if c = k then A else A.map (·.add (k * size))) (n - k) (c - k)) W := by
  obtain ⟨i, hi, hz⟩ := Option.map_eq_some_iff.1 hinfo
  simp only [Prod.mk.injEq] at hz
  have := cut_from (P := P) t e .i64 ht hi size hz.2.1 A n c (k : Int) (by omega) (by omega) W
  rw [this, Int.toNat_natCast]
/-- a row that is spoilt: nothing but its block changes -/
structure Spoil (w1 : World) (v : Value) (n sz ty : Nat) (wr : World) : Prop where
  chg : w1.grownBy wr v.ownBlock
  blk : ∀ g, v.ownBlock = some g → ∃ cur, wr.heap[g]? = some (.cells cur ty (0, 0)) ∧ n * sz ≤ cur.size
theorem Spoil.start {α : Type} {d : Kd α} {e base : Nat} {ok : Nat → Prop} {w : World} {v : Value} {xs : List α} (h : d.R e w base ok v xs) : Spoil w v xs.length d.sz e w := by
  refine ⟨World.grownBy.refl w _, fun g hg => ?_⟩
  obtain ⟨inner, ho⟩ := Kd.R_own h
  rcases ho.2 with ⟨rfl, _⟩ | ⟨g', cap, cur, rfl, _, hh, hnc, _, hcs, _⟩
  · cases hg
  · injection hg with hg
    have hg : g' = g := hg
    subst hg
    exact ⟨cur, hh, by rw [hcs]; exact Nat.mul_le_mul_right _ hnc⟩
theorem Spoil.set {w1 wr : World} {g n c sz ty : Nat} (h : Spoil w1 (.slice (some ⟨g, 0, none⟩) n c) n sz ty wr) (j : Nat) (u : Value) : Spoil w1 (.slice (some ⟨g, 0, none⟩) n c) n sz ty (wr.setCell ⟨g, j, none⟩ u) := by
  obtain ⟨cur, hb, hs⟩ := h.blk g rfl
  refine ⟨trans_grown h.chg (grown_set wr g j u), fun g' hg' => ?_⟩
  injection hg' with hg'
  have hg' : g = g' := hg'
  subst hg'
  exact ⟨_, blk_set hb j u, by simpa using hs⟩
theorem Spoil.cell {w1 wr : World} {g n c sz ty : Nat} (h : Spoil w1 (.slice (some ⟨g, 0, none⟩) n c) n sz ty wr) (j : Nat) (hj : j < n * sz) : (∃ u, wr.cell? ⟨g, j, none⟩ = some u) ∧ wr.frozen? ⟨g, j, none⟩ = false := by
  obtain ⟨cur, hb, hs⟩ := h.blk g rfl
  refine ⟨?_, blk_frozen hb _⟩
  rw [cell_of_row wr g _ cur ty (0, 0) hb]
  exact ⟨_, Array.getElem?_eq_getElem (by omega)⟩
end Go.Proofs.YthaoedfalkebbaaGreat
namespace Go.Proofs.YthaoedfalkebbaaGreat
open Go.RowKit Go.Maps Go.Sort Go.Lib Go.Proofs.YthaoedfalkebbaaGreatW.PrintWords Go.Proofs.YthaoedfalkebbaaGreatW.PrintLast Go.Proofs.YthaoedfalkebbaaGreatW.PrintMore
set_option linter.unusedVariables false
set_option linter.unusedSimpArgs false
set_option linter.unusedSectionVars false
/-! ### numbers, rising, each once -/
theorem strict_unique : ∀ {xs ys : List Int}, xs.Pairwise (· < ·) → ys.Pairwise (· < ·) → (∀ x, x ∈ xs ↔ x ∈ ys) → xs = ys
  | [], [], _, _, _ => rfl
  | [], y :: ys, _, _, h => by have := (h y).2 List.mem_cons_self; cases this
  | x :: xs, [], _, _, h => by have := (h x).1 List.mem_cons_self; cases this
  | x :: xs, y :: ys, hx, hy, h => by
    rw [List.pairwise_cons] at hx hy
    have hxy : x = y := by
      rcases List.mem_cons.1 ((h x).1 List.mem_cons_self) with e | e
      · exact e
      · rcases List.mem_cons.1 ((h y).2 List.mem_cons_self) with f | f
        · exact f.symm
        · have := hx.1 y f
          have := hy.1 x e
          omega
    subst hxy
    rw [strict_unique hx.2 hy.2 (fun z => ?_)]
    constructor
    · intro hz
      rcases List.mem_cons.1 ((h z).1 (List.mem_cons_of_mem _ hz)) with e | e
      · have := hx.1 z hz; omega
      · exact e
    · intro hz
      rcases List.mem_cons.1 ((h z).2 (List.mem_cons_of_mem _ hz)) with e | e
      · have := hy.1 z hz; omega
      · exact e
theorem compact_rises (zs : List Int) (hz : zs.Pairwise (· ≤ ·)) : ∀ m, m ≤ zs.length → (compactUpTo zs.toArray m).Pairwise (· < ·) ∧ ∀ x, x ∈ compactUpTo zs.toArray m ↔ x ∈ zs.take m
  | 0, _ => by simp [compactUpTo]
  | m + 1, hm => by
    obtain ⟨h1, h2⟩ := compact_rises zs hz m (by omega)
    have hg : ∀ j (hj : j < zs.length), zs.toArray[j]! = zs[j] := fun j hj => by rw [getElem!_pos _ _ (by simpa using hj)]; simp
    have hle : ∀ x ∈ zs.take m, x ≤ zs[m] := by
      intro x hx
      obtain ⟨j, hj, rfl⟩ := List.mem_iff_getElem.1 hx
      rw [List.getElem_take]
      rw [List.length_take] at hj
      exact List.pairwise_iff_getElem.1 hz j m (by omega) (by omega) (by omega)
    rw [compactUpTo_succ, List.take_succ_eq_append_getElem hm, hg m hm]
    by_cases hk : keeps zs.toArray m = true
    · rw [if_pos hk]
      refine ⟨?_, fun x => by simp only [List.mem_append, List.mem_singleton, h2]⟩
      rw [List.pairwise_append]
      refine ⟨h1, List.pairwise_singleton _ _, fun x hx y hy => ?_⟩
      rw [List.mem_singleton.1 hy]
      have hx' := (h2 x).1 hx
      have := hle x hx'
      rcases Int.lt_or_eq_of_le this with h | h
      · exact h
      · exfalso
        simp only [keeps, decide_eq_true_eq] at hk
        rcases hk with hk | hk
        · subst hk; simp at hx'
        · have hm0 : 0 < m := by
            rcases Nat.eq_zero_or_pos m with h0 | h0
            · subst h0; simp at hx'
            · exact h0
          rw [hg m hm, hg (m - 1) (by omega)] at hk
          obtain ⟨j, hj, rfl⟩ := List.mem_iff_getElem.1 hx'
          rw [List.getElem_take] at h
          rw [List.length_take] at hj
          have a1 : zs[j] ≤ zs[m - 1] := by
            rcases Nat.lt_or_ge j (m - 1) with h3 | h3
            · exact List.pairwise_iff_getElem.1 hz j (m - 1) (by omega) (by omega) h3
            · have : j = m - 1 := by omega
              subst this
              exact Int.le_refl _
          have a2 : zs[m - 1] ≤ zs[m] := List.pairwise_iff_getElem.1 hz (m - 1) m (by omega) (by omega) (by omega)
          exact hk (by omega)
    · rw [if_neg hk, List.append_nil]
      refine ⟨h1, fun x => ?_⟩
      rw [h2, List.mem_append, List.mem_singleton]
      constructor
      · exact .inl
      · rintro (h | rfl)
        · exact h
        · simp only [keeps, decide_eq_true_eq] at hk
          have hm0 : m ≠ 0 := fun e => hk (.inl e)
          have he : zs.toArray[m]! = zs.toArray[m - 1]! := Classical.byContradiction fun e => hk (.inr e)
          rw [hg m hm, hg (m - 1) (by omega)] at he
          rw [he]
          exact List.mem_iff_getElem.2 ⟨m - 1, by rw [List.length_take]; omega, by rw [List.getElem_take]⟩
def rise (xs : List Int) : List Int := compactUpTo (xs.mergeSort fun x y => decide (x ≤ y)).toArray xs.length
theorem sorted_le (xs : List Int) : (xs.mergeSort fun x y => decide (x ≤ y)).Pairwise (· ≤ ·) := by
  have := List.pairwise_mergeSort (le := fun x y : Int => decide (x ≤ y)) (fun a b c h k => by simp at *; omega) (fun a b => by simp; omega) xs
  exact this.imp (fun h => by simpa using h)
theorem rise_spec (xs : List Int) : (rise xs).Pairwise (· < ·) ∧ ∀ x, x ∈ rise xs ↔ x ∈ xs := by
  have hl : (xs.mergeSort fun x y => decide (x ≤ y)).length = xs.length := by simp
  obtain ⟨h1, h2⟩ := compact_rises _ (sorted_le xs) xs.length (by omega)
  refine ⟨h1, fun x => ?_⟩
  unfold rise
  rw [h2, ← hl, List.take_length, List.mem_mergeSort]
theorem rise_eq {xs ys : List Int} (h : ys.Pairwise (· < ·)) (hm : ∀ x, x ∈ ys ↔ x ∈ xs) : ys = rise xs :=
  strict_unique h (rise_spec xs).1 (fun x => by rw [hm, (rise_spec xs).2])
theorem rise_congr {xs ys : List Int} (hm : ∀ x, x ∈ xs ↔ x ∈ ys) : rise xs = rise ys := rise_eq (rise_spec xs).1 (fun x => by rw [(rise_spec xs).2, hm])
theorem rise_length (xs : List Int) : (rise xs).length ≤ xs.length := by
  unfold rise compactUpTo
  rw [List.length_map]
  exact Nat.le_trans (List.length_filter_le _ _) (by simp)
theorem insert_rises {xs : List Int} (h : xs.Pairwise (· < ·)) (x : Int) (i : Nat) (hi : i ≤ xs.length) (h1 : ∀ j (hj : j < xs.length), j < i → xs[j] < x) (h2 : ∀ hj : i < xs.length, x < xs[i]) : (xs.take i ++ [x] ++ xs.drop i).Pairwise (· < ·) := by
  have hd : ∀ y ∈ xs.drop i, x < y := by
    intro y hy
    obtain ⟨j, hj, rfl⟩ := List.mem_iff_getElem.1 hy
    rw [List.length_drop] at hj
    rw [List.getElem_drop]
    have h3 := h2 (by omega)
    rcases Nat.eq_zero_or_pos j with h0 | h0
    · subst h0; exact h3
    · have := List.pairwise_iff_getElem.1 h i (i + j) (by omega) (by omega) (by omega)
      omega
  have ht : ∀ y ∈ xs.take i, y < x := by
    intro y hy
    obtain ⟨j, hj, rfl⟩ := List.mem_iff_getElem.1 hy
    rw [List.length_take] at hj
    rw [List.getElem_take]
    exact h1 j (by omega) (by omega)
  have h3 : (xs.take i ++ xs.drop i).Pairwise (· < ·) := by rw [List.take_append_drop]; exact h
  rw [List.pairwise_append] at h3
  rw [List.append_assoc, List.pairwise_append]
  refine ⟨h3.1, ?_, ?_⟩
  · rw [List.singleton_append, List.pairwise_cons]
    exact ⟨hd, h3.2.1⟩
  · intro y hy z hz
    rw [List.singleton_append] at hz
    rcases List.mem_cons.1 hz with rfl | hz
    · exact ht y hy
    · exact h3.2.2 y hy z hz
theorem insert_mem (xs : List Int) (x : Int) (i : Nat) : ∀ z, z ∈ xs.take i ++ [x] ++ xs.drop i ↔ z ∈ xs ∨ z = x := by
  intro z
  have e : z ∈ xs ↔ z ∈ xs.take i ∨ z ∈ xs.drop i := by
    rw [← List.mem_append, List.take_append_drop]
  rw [e]
  simp only [List.mem_append, List.mem_singleton]
  constructor
  · rintro ((h | h) | h)
    · exact .inl (.inl h)
    · exact .inr h
    · exact .inl (.inr h)
  · rintro ((h | h) | h)
    · exact .inl (.inl h)
    · exact .inr h
    · exact .inl (.inr h)
theorem take_mem {xs : List Int} {j : Nat} (hj : j < xs.length) : ∀ z, z ∈ xs.take (j + 1) ↔ z ∈ xs.take j ∨ z = xs[j] := by
  intro z
  rw [List.take_succ_eq_append_getElem hj, List.mem_append, List.mem_singleton]
end Go.Proofs.YthaoedfalkebbaaGreat
