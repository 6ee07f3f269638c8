/- Cut by a program out of the seat's texts (GA GB GC GD SA SB SC SD SE SF SG): what the theorem needs, one behind the other. -/
import Derived.Test.YthaoedfalkebbaaGreatPCA
import Derived.WalkLawsBesides
import Derived.Maps.OwnSet
import Derived.Maps.RangeWalk
import Derived.Maps.Ext
import Derived.DeepKeys5
import Derived.Test.YthaoedfalkebbaaGreatProg
import Derived.Deep.Slices
import Derived.SizedLaws
import Derived.OpenShut
import Derived.ProofKit
import Derived.Sort.Grow
import Derived.Sort.Statements
import Derived.Shelf.GgSortFunc.InsertionK
import Derived.IntWalk
import Derived.Lib.SlicesCompact
import Derived.Shelf.SlSorted.Search
namespace Go.Proofs.YthaoedfalkebbaaGreat
open Go.RowKit Go.Maps Go.Proofs.YthaoedfalkebbaaGreatW.PrintWords Go.Proofs.YthaoedfalkebbaaGreatW.PrintLast Go.Proofs.YthaoedfalkebbaaGreatW.PrintMore
set_option linter.unusedVariables false
set_option linter.unusedSimpArgs false
set_option linter.unusedSectionVars false
section
variable {P : Program} {α β : Type} {k e t : TypeId} {mk : α → Value} {ok : α → Prop} {mv : β → Value} {R : Value → Option (DataW Unit × List MemPlace)} {cd : β → DataW Unit}
structure KeyAs (P : Program) (k : TypeId) (mk : α → Value) (ok : α → Prop) : Prop where
  keyed : Keyed P k
  lit : ∀ a, ok a → ∃ kl, keyOf P k (mk a) = some kl
  inj : ∀ a b, mk a = mk b → a = b
  inv : ∀ v kl, keyOf P k v = some kl → ∃ a, ok a ∧ v = mk a
/-- how elements are told: mv the value, cd the datum -/
structure ValAs (mv : β → Value) (R : Value → Option (DataW Unit × List MemPlace)) (cd : β → DataW Unit) : Prop where
  reads : ∀ b, R (mv b) = some (cd b, [])
  inv : ∀ v y ps, R v = some (y, ps) → ∃ b, v = mv b ∧ y = cd b
  inj : ∀ b b', cd b = cd b' → b = b'
/-- the datum D has just the entries L -/
structure Shows (P : Program) (k : TypeId) (mk : α → Value) (ok : α → Prop) (cd : β → DataW Unit) (D : DataW Unit) (L : List (α × β)) : Prop where
  size : Maps.size D = L.length
  apart : L.Pairwise (fun p p' => p.1 ≠ p'.1)
  good : ∀ p ∈ L, ok p.1
  has : ∀ a kl, keyOf P k (mk a) = some kl → (Maps.has D kl = true ↔ ∃ v, (a, v) ∈ L)
  at_ : ∀ p ∈ L, ∀ kl z, keyOf P k (mk p.1) = some kl → D.atKey kl z = cd p.2
/-- block b is a map with the entries L -/
def Tab (P : Program) (k : TypeId) (mk : α → Value) (ok : α → Prop) (R : Value → Option (DataW Unit × List MemPlace)) (cd : β → DataW Unit) (w : World) (b n : Nat) (L : List (α × β)) : Prop :=
  ∃ D : DataW Unit, w.ownsMap P k R b n D ∧ Shows P k mk ok cd D L
theorem same_key (K : KeyAs P k mk ok) {a a' : α} {kl kl' : Lit} (h : keyOf P k (mk a) = some kl) (h' : keyOf P k (mk a') = some kl') : kl = kl' ↔ a = a' :=
  ⟨fun e => by subst e; exact K.inj _ _ (K.keyed.inj h h'), fun e => by subst e; rw [h] at h'; exact Option.some.inj h'⟩
theorem Tab.made (w : World) : Tab P k mk ok R cd (w.alloc (.map #[] 0)) w.heap.size 0 [] :=
  ⟨_, World.ownsMap_made w P k _, ⟨rfl, List.Pairwise.nil, by simp, fun a kl _ => by simp [Maps.has], by simp⟩⟩
theorem Tab.kept {w w' : World} {b n : Nat} {L : List (α × β)} {row : Option Nat} (h : Tab P k mk ok R cd w b n L) (hg : w.grownBy w' row) (hne : some b ≠ row) : Tab P k mk ok R cd w' b n L := by
  obtain ⟨D, h1, h2⟩ := h
  exact ⟨D, h1.kept hg hne, h2⟩
theorem Tab.lt {w : World} {b n : Nat} {L : List (α × β)} (h : Tab P k mk ok R cd w b n L) : b < w.heap.size := by
  obtain ⟨D, h1, _⟩ := h
  exact h1.lt
theorem Tab.tidy {w : World} {b n : Nat} {L : List (α × β)} (h : Tab P k mk ok R cd w b n L) : L.Pairwise (fun p p' => p.1 ≠ p'.1) := by
  obtain ⟨D, _, h2⟩ := h
  exact h2.apart
theorem Tab.good {w : World} {b n : Nat} {L : List (α × β)} (h : Tab P k mk ok R cd w b n L) : ∀ p ∈ L, ok p.1 := by
  obtain ⟨D, _, h2⟩ := h
  exact h2.good
theorem Tab.isMap {w : World} {b n : Nat} {L : List (α × β)} (h : Tab P k mk ok R cd w b n L) : ∃ es clock, w.heap[b]? = some (.map es clock) := by
  obtain ⟨D, ⟨es, clock, hb, _⟩, _⟩ := h
  exact ⟨es, clock, hb⟩
variable [DecidableEq α]
/-- what a look-up finds -/
def got (L : List (α × β)) (a : α) : Option β := (L.find? (fun p => p.1 = a)).map (·.2)
/-- the entry of a becomes v -/
def upd (L : List (α × β)) (a : α) (v : β) : List (α × β) := if (got L a).isSome = true then L.map (fun p => if p.1 = a then (a, v) else p) else L ++ [(a, v)]
theorem got_mem {L : List (α × β)} {a : α} {v : β} (h : got L a = some v) : (a, v) ∈ L := by
  unfold got at h
  cases hf : L.find? (fun p => decide (p.1 = a)) with
  | none => rw [hf] at h; cases h
  | some p =>
    rw [hf] at h
    simp at h
    have h1 := List.find?_some hf
    have h2 := List.mem_of_find?_eq_some hf
    simp at h1
    obtain ⟨x, y⟩ := p
    simp at h h1
    subst h h1
    exact h2
theorem got_none {L : List (α × β)} {a : α} (h : got L a = none) (v : β) : (a, v) ∉ L := by
  unfold got at h
  simp only [Option.map_eq_none_iff, List.find?_eq_none] at h
  intro hm
  have := h _ hm
  simp at this
theorem mem_got {a : α} {v : β} : ∀ {L : List (α × β)}, L.Pairwise (fun p p' => p.1 ≠ p'.1) → (a, v) ∈ L → got L a = some v
  | p :: M, hL, h => by
    rw [List.pairwise_cons] at hL
    by_cases e : p.1 = a
    · rcases List.mem_cons.1 h with h | h
      · subst h; simp [got]
      · exact absurd e (hL.1 _ h)
    · have : got (p :: M) a = got M a := by simp [got, e]
      rw [this]
      rcases List.mem_cons.1 h with h | h
      · subst h; exact absurd rfl e
      · exact mem_got hL.2 h
theorem upd_apart {L : List (α × β)} (hL : L.Pairwise (fun p p' => p.1 ≠ p'.1)) (a : α) (v : β) : (upd L a v).Pairwise (fun p p' => p.1 ≠ p'.1) := by
  unfold upd
  cases hg : got L a with
  | some u =>
    simp only [Option.isSome_some, if_true]
    rw [List.pairwise_map]
    refine hL.imp ?_
    intro p q hpq
    by_cases e1 : p.1 = a <;> by_cases e2 : q.1 = a
    · exact absurd (e1.trans e2.symm) hpq
    · rw [if_pos e1, if_neg e2]; exact fun e => e2 e.symm
    · rw [if_neg e1, if_pos e2]; exact e1
    · rw [if_neg e1, if_neg e2]; exact hpq
  | none =>
    simp only [Option.isSome_none, Bool.false_eq_true, if_false]
    rw [List.pairwise_append]
    refine ⟨hL, List.pairwise_singleton _ _, ?_⟩
    intro p hp p' hp' e
    rw [List.mem_singleton.1 hp'] at e
    obtain ⟨x, y⟩ := p
    simp at e
    subst e
    exact got_none hg _ hp
theorem upd_mem {L : List (α × β)} (hL : L.Pairwise (fun p p' => p.1 ≠ p'.1)) (a : α) (v : β) (q : α × β) : q ∈ upd L a v ↔ q = (a, v) ∨ (q ∈ L ∧ q.1 ≠ a) := by
  unfold upd
  cases hg : got L a with
  | some u =>
    simp only [Option.isSome_some, if_true, List.mem_map]
    constructor
    · rintro ⟨p, hp, rfl⟩
      by_cases e : p.1 = a
      · rw [if_pos e]; exact .inl rfl
      · rw [if_neg e]; exact .inr ⟨hp, e⟩
    · rintro (rfl | ⟨h1, h2⟩)
      · exact ⟨(a, u), got_mem hg, if_pos rfl⟩
      · exact ⟨q, h1, if_neg h2⟩
  | none =>
    simp only [Option.isSome_none, Bool.false_eq_true, if_false, List.mem_append, List.mem_singleton]
    constructor
    · rintro (h | h)
      · refine .inr ⟨h, ?_⟩
        rintro rfl
        exact got_none hg _ h
      · exact .inl h
    · rintro (h | h)
      · exact .inr h
      · exact .inl h.1
theorem got_upd {L : List (α × β)} (hL : L.Pairwise (fun p p' => p.1 ≠ p'.1)) (a : α) (v : β) (c : α) : got (upd L a v) c = if c = a then some v else got L c := by
  by_cases e : c = a
  · subst e
    rw [if_pos rfl]
    exact mem_got (upd_apart hL _ _) ((upd_mem hL _ _ _).2 (.inl rfl))
  · rw [if_neg e]
    cases hg : got L c with
    | some u => exact mem_got (upd_apart hL _ _) ((upd_mem hL _ _ _).2 (.inr ⟨got_mem hg, e⟩))
    | none =>
      cases hh : got (upd L a v) c with
      | none => rfl
      | some u =>
        rcases (upd_mem hL _ _ _).1 (got_mem hh) with h | h
        · cases h; exact absurd rfl e
        · exact absurd h.1 (got_none hg _)
theorem upd_length (L : List (α × β)) (a : α) (v : β) : (upd L a v).length = L.length + (if (got L a).isSome = true then 0 else 1) := by
  unfold upd
  split <;> simp
theorem Shows.hit {D : DataW Unit} {L : List (α × β)} (h : Shows P k mk ok cd D L) {a : α} {kl : Lit} (hk : keyOf P k (mk a) = some kl) (z : DataW Unit) :
    (Maps.has D kl = (got L a).isSome) ∧ D.atKey kl z = ((got L a).map cd).getD z := by
  cases hg : got L a with
  | none =>
    have hn : Maps.has D kl = false := by
      cases hh : Maps.has D kl with
      | false => rfl
      | true => obtain ⟨v, hv⟩ := (h.has a kl hk).1 hh; exact absurd hv (got_none hg v)
    exact ⟨by rw [hn]; rfl, by rw [atKey_of_not_has hn]; rfl⟩
  | some v =>
    have hm := got_mem hg
    exact ⟨by rw [(h.has a kl hk).2 ⟨v, hm⟩]; rfl, h.at_ _ hm kl _ hk⟩
theorem Shows.put (K : KeyAs P k mk ok) {D : DataW Unit} {L : List (α × β)} (h : Shows P k mk ok cd D L) (ht : Tidy D) {a : α} {v : β} {kl : Lit} (ha : ok a) (hk : keyOf P k (mk a) = some kl) :
    Shows P k mk ok cd (D.put kl (cd v)) (upd L a v) := by
  have hkl := K.keyed.key hk
  have hh := (h.hit hk (cd v)).1
  refine ⟨?_, upd_apart h.apart a v, ?_, ?_, ?_⟩
  · rw [size_put ht, upd_length, h.size, hh]
    cases got L a <;> simp
  · intro p hp
    rcases (upd_mem h.apart a v p).1 hp with rfl | hp
    · exact ha
    · exact h.good p hp.1
  · intro b kb hb
    by_cases e : b = a
    · subst e
      have : kb = kl := (same_key K hb hk).2 rfl
      subst this
      rw [has_put_same ht.isMap hkl]
      simp only [true_iff]
      exact ⟨v, (upd_mem h.apart b v _).2 (.inl rfl)⟩
    · have hne : kb ≠ kl := fun e' => e ((same_key K hb hk).1 e')
      rw [has_put_other hne, h.has b kb hb]
      constructor
      · rintro ⟨u, hu⟩
        exact ⟨u, (upd_mem h.apart a v _).2 (.inr ⟨hu, e⟩)⟩
      · rintro ⟨u, hu⟩
        rcases (upd_mem h.apart a v _).1 hu with h1 | h1
        · cases h1; exact absurd rfl e
        · exact ⟨u, h1.1⟩
  · intro p hp kb z hb
    rcases (upd_mem h.apart a v p).1 hp with rfl | hp1
    · have : kb = kl := (same_key K hb hk).2 rfl
      subst this
      rw [atKey_put_same ht.isMap hkl]
    · have hne : kb ≠ kl := fun e' => hp1.2 ((same_key K hb hk).1 e')
      rw [atKey_put_other hne]
      exact h.at_ p hp1.1 kb z hb
theorem Shows.del (K : KeyAs P k mk ok) {D : DataW Unit} {L : List (α × β)} (h : Shows P k mk ok cd D L) (ht : Tidy D) {a : α} {kl : Lit} (hk : keyOf P k (mk a) = some kl) :
    Shows P k mk ok cd (D.del kl) (L.filter (fun p => p.1 ≠ a)) := by
  refine ⟨?_, h.apart.filter _, fun p hp => h.good p (List.mem_filter.1 hp).1, ?_, ?_⟩
  · have hs := size_del (k := kl) ht
    rw [h.size, (h.hit hk .nil).1] at hs
    have hl : ∀ M : List (α × β), M.Pairwise (fun p p' => p.1 ≠ p'.1) → (M.filter (fun p => p.1 ≠ a)).length + (if (got M a).isSome = true then 1 else 0) = M.length := by
      intro M
      induction M with
      | nil => intro _; simp [got]
      | cons p M ih =>
        intro hM
        rw [List.pairwise_cons] at hM
        have hi := ih hM.2
        by_cases e : p.1 = a
        · have hg : got M a = none := by
            cases hg : got M a with
            | none => rfl
            | some u => exact absurd e (hM.1 _ (got_mem hg))
          rw [hg] at hi
          simp [got, e] at hi ⊢
          omega
        · have : got (p :: M) a = got M a := by simp [got, e]
          rw [this]
          simp only [List.filter_cons, ne_eq, e, not_false_eq_true, decide_true, if_true, List.length_cons]
          simp only [ne_eq] at hi
          omega
    have := hl L h.apart
    omega
  · intro b kb hb
    by_cases e : b = a
    · subst e
      have : kb = kl := (same_key K hb hk).2 rfl
      subst this
      rw [has_del_same]
      simp
    · have hne : kb ≠ kl := fun e' => e ((same_key K hb hk).1 e')
      rw [has_del_other hne, h.has b kb hb]
      simp [e]
  · intro p hp kb z hb
    have hp' := List.mem_filter.1 hp
    have hne : kb ≠ kl := fun e' => by
      have := (same_key K hb hk).1 e'
      simp [this] at hp'
    rw [atKey_del_other hne]
    exact h.at_ p hp'.1 kb z hb
theorem Tab.look (K : KeyAs P k mk ok) (V : ValAs mv R cd) (ht : P.underlying t = some (.map k e)) {w : World} {b n : Nat} {L : List (α × β)} (h : Tab P k mk ok R cd w b n L) {z : β} (hz : (zeroValue e).run P w = .ok (mv z) w) {a : α} (ha : ok a) :
    (Instr.lookup t (.map (some b)) (mk a) true).run P w = .ok (.tuple #[mv ((got L a).getD z), .bool (got L a).isSome]) w := by
  obtain ⟨D, h1, h2⟩ := h
  obtain ⟨kl, hk⟩ := K.lit a ha
  obtain ⟨v, ps, hrun, hv⟩ := h1.look_ok (zd := cd z) (zp := []) K.keyed ht hz (V.reads z) hk
  obtain ⟨c, rfl, hc⟩ := V.inv _ _ _ hv
  have hh := h2.hit hk (cd z)
  rw [hh.2] at hc
  have : c = (got L a).getD z := by
    refine V.inj _ _ (hc.symm.trans ?_)
    cases got L a <;> rfl
  rw [hrun, hh.1, this]
theorem Tab.look1 (K : KeyAs P k mk ok) (V : ValAs mv R cd) (ht : P.underlying t = some (.map k e)) {w : World} {b n : Nat} {L : List (α × β)} (h : Tab P k mk ok R cd w b n L) {z : β} (hz : (zeroValue e).run P w = .ok (mv z) w) {a : α} (ha : ok a) :
    (Instr.lookup t (.map (some b)) (mk a) false).run P w = .ok (mv ((got L a).getD z)) w := by
  obtain ⟨D, h1, h2⟩ := h
  obtain ⟨kl, hk⟩ := K.lit a ha
  obtain ⟨v, ps, hrun, hv⟩ := h1.lookup (zd := cd z) (zp := []) K.keyed ht hz (V.reads z) hk
  obtain ⟨c, rfl, hc⟩ := V.inv _ _ _ hv
  have hh := h2.hit hk (cd z)
  rw [hh.2] at hc
  have : c = (got L a).getD z := by
    refine V.inj _ _ (hc.symm.trans ?_)
    cases got L a <;> rfl
  rw [hrun, this]
theorem Tab.len (ht : P.underlying t = some (.map k e)) {w : World} {b n : Nat} {L : List (α × β)} (h : Tab P k mk ok R cd w b n L) (ty : TypeId) : (Builtin.len_ #[t] ty #[.map (some b)]).run P w = .ok (.int .i64 (L.length : Int)) w := by
  obtain ⟨D, h1, h2⟩ := h
  rw [h1.len ht ty, h2.size]
theorem Tab.exact {w : World} {b n : Nat} {L : List (α × β)} (h : Tab P k mk ok R cd w b n L) : Tab P k mk ok R cd w b L.length L := by
  obtain ⟨D, ⟨es, clock, hb, F, hs, rfl⟩, h2⟩ := h
  refine ⟨_, ⟨es, clock, hb, F, ?_, rfl⟩, h2⟩
  have := h2.size
  simp [Maps.size, length_sorted] at this
  omega
theorem Tab.store (K : KeyAs P k mk ok) (V : ValAs mv R cd) (ht : P.underlying t = some (.map k e)) {w : World} {b n : Nat} {L : List (α × β)} (h : Tab P k mk ok R cd w b n L) (hn : n < maxLen) {a : α} (ha : ok a) (v : β) :
    ∃ w', (Instr.mapUpdate t (.map (some b)) (mk a) (mv v)).run P w = .ok () w' ∧ Tab P k mk ok R cd w' b (n + 1) (upd L a v) ∧ w.mapTurned w' b := by
  obtain ⟨D, h1, h2⟩ := h
  obtain ⟨kl, hk⟩ := K.lit a ha
  obtain ⟨w', hrun, h3, h4⟩ := h1.store K.keyed ht hn hk (V.reads v)
  exact ⟨w', hrun, ⟨_, h3, h2.put K (h1.tidy K.keyed) ha hk⟩, h4⟩
theorem Tab.drop (K : KeyAs P k mk ok) (ht : P.underlying t = some (.map k e)) {w : World} {b n : Nat} {L : List (α × β)} (h : Tab P k mk ok R cd w b n L) {a : α} (ha : ok a) (ty : TypeId) :
    ∃ w', (Builtin.delete_ #[t, k] ty #[.map (some b), mk a]).run P w = .ok (.tuple #[]) w' ∧ Tab P k mk ok R cd w' b n (L.filter (fun p => p.1 ≠ a)) ∧ w.mapTurned w' b := by
  obtain ⟨D, h1, h2⟩ := h
  obtain ⟨kl, hk⟩ := K.lit a ha
  obtain ⟨w', hrun, h3, h4⟩ := h1.drop K.keyed ht hk ty
  exact ⟨w', hrun, ⟨_, h3, h2.del K (h1.tidy K.keyed) hk⟩, h4⟩
/-- a range over a map under way: what is still to come -/
def Rng (P : Program) (k : TypeId) (mk : α → Value) (ok : α → Prop) (R : Value → Option (DataW Unit × List MemPlace)) (cd : β → DataW Unit) (w : World) (b r n : Nat) (L rem : List (α × β)) : Prop :=
  ∃ (D : DataW Unit) (left : Lit → Bool), w.ranges P k R b r n D left (w.rangeLeft b r) ∧ Shows P k mk ok cd D L ∧ rem.Pairwise (fun p p' => p.1 ≠ p'.1) ∧ (∀ p ∈ rem, p ∈ L) ∧ ∀ a kl, keyOf P k (mk a) = some kl → (left kl = true ↔ ∃ v, (a, v) ∈ rem)
theorem Rng.tab {w : World} {b r n : Nat} {L rem : List (α × β)} (h : Rng P k mk ok R cd w b r n L rem) : Tab P k mk ok R cd w b n L := by
  obtain ⟨D, left, h1, h2, _⟩ := h
  exact ⟨D, h1.owns, h2⟩
theorem Rng.apart {w : World} {b r n : Nat} {L rem : List (α × β)} (h : Rng P k mk ok R cd w b r n L rem) : rem.Pairwise (fun p p' => p.1 ≠ p'.1) := by
  obtain ⟨D, left, _, _, h3, _⟩ := h
  exact h3
theorem Rng.lt {w : World} {b r n : Nat} {L rem : List (α × β)} (h : Rng P k mk ok R cd w b r n L rem) : r < w.heap.size := by
  obtain ⟨D, left, h1, _⟩ := h
  exact h1.lt
theorem Rng.kept {w w' : World} {b r n : Nat} {L rem : List (α × β)} {row : Option Nat} (h : Rng P k mk ok R cd w b r n L rem) (hg : w.grownBy w' row) (hb : some b ≠ row) (hr : some r ≠ row) : Rng P k mk ok R cd w' b r n L rem ∧ w'.rangeLeft b r = w.rangeLeft b r := by
  obtain ⟨D, left, h1, h2, h3⟩ := h
  have := h1.kept hg hb hr
  have e := this.left_eq
  exact ⟨⟨D, left, by rw [e]; exact this, h2, h3⟩, e⟩
theorem Tab.range (K : KeyAs P k mk ok) (ht : P.underlying t = some (.map k e)) {w : World} {b n : Nat} {L : List (α × β)} (h : Tab P k mk ok R cd w b n L) :
    ∃ w', (Instr.range t (.map (some b))).run P w = .ok (.pointer (some ⟨w.heap.size, 0, none⟩)) w' ∧ Rng P k mk ok R cd w' b w.heap.size n L L ∧ w.grownBy w' none ∧ w'.heap.size = w.heap.size + 1 := by
  obtain ⟨D, h1, h2⟩ := h
  obtain ⟨w', hrun, h3, h4, h5⟩ := h1.range K.keyed ht
  refine ⟨w', hrun, ⟨D, Maps.has D, ?_, h2, h2.apart, fun p hp => hp, h2.has⟩, h4, h5⟩
  rw [h3.left_eq]
  exact h3
theorem Rng.next (K : KeyAs P k mk ok) (V : ValAs mv R cd) {w : World} {b r n : Nat} {L rem : List (α × β)} (h : Rng P k mk ok R cd w b r n L rem) (ty : TypeId) :
    (rem = [] ∧ (Instr.next (.pointer (some ⟨r, 0, none⟩)) false ty).run P w = .ok (.tuple #[.bool false]) w) ∨
    ∃ a v w', (a, v) ∈ rem ∧ ok a ∧ (Instr.next (.pointer (some ⟨r, 0, none⟩)) false ty).run P w = .ok (.tuple #[.bool true, mk a, mv v]) w' ∧ Rng P k mk ok R cd w' b r n L (rem.filter (fun p => p.1 ≠ a)) ∧ w'.rangeLeft b r < w.rangeLeft b r ∧ w.grownBy w' (some r) ∧
      w'.heap.size = w.heap.size ∧ (Instr.entry (.pointer (some ⟨r, 0, none⟩))).run P w' = .ok (.tuple #[mk a, mv v]) w' := by
  obtain ⟨D, left, h1, h2, h3, h4, h5⟩ := h
  rcases h1.next K.keyed ty with ⟨_, hl, hrun⟩ | ⟨key, val, kl, y, w', cnt', hkey, hlk, hv, hat, hrun, hrg, hlt, hgr, hsz, hen⟩
  · refine .inl ⟨?_, hrun⟩
    cases rem with
    | nil => rfl
    | cons p rem =>
      obtain ⟨kl, hk⟩ := K.lit p.1 (h2.good p (h4 p (List.mem_cons_self ..)))
      have := (h5 p.1 kl hk).2 ⟨p.2, List.mem_cons_self ..⟩
      rw [hl kl] at this
      cases this
  · obtain ⟨a, ha, rfl⟩ := K.inv key kl hkey
    obtain ⟨yd, yp⟩ := y
    obtain ⟨v, rfl, rfl⟩ := V.inv _ _ _ hv
    obtain ⟨v', hv'⟩ := (h5 a kl hkey).1 hlk
    have e1 := hat (cd v)
    rw [h2.at_ _ (h4 _ hv') kl _ hkey] at e1
    have e1 := V.inj _ _ e1
    simp only at e1
    subst e1
    have e2 := hrg.left_eq
    refine .inr ⟨a, v', w', hv', ha, hrun, ⟨D, _, by rw [e2]; exact hrg, h2, h3.filter _, fun p hp => h4 p (List.mem_filter.1 hp).1, fun a' kl' hk' => ?_⟩, by rw [e2]; exact hlt, hgr, hsz, hen⟩
    by_cases e3 : a' = a
    · subst e3
      have : kl' = kl := (same_key K hk' hkey).2 rfl
      subst this
      rw [WideAt.sameKey_self (K.keyed.key hkey)]
      simp
    · have hne : kl' ≠ kl := fun e' => e3 ((same_key K hk' hkey).1 e')
      rw [sameKey_ne hne]
      simp only [Bool.not_false, Bool.and_true]
      rw [h5 a' kl' hk']
      simp [e3]
theorem turned_grown {w w' : World} {b : Nat} (h : w.mapTurned w' b) : w.grownBy w' (some b) := h.grown
theorem perm_next {L vis rem : List (α × β)} {a : α} {v : β} (hr : rem.Pairwise (fun p p' => p.1 ≠ p'.1)) (h : (vis ++ rem).Perm L) (hm : (a, v) ∈ rem) : ((vis ++ [(a, v)]) ++ rem.filter (fun p => p.1 ≠ a)).Perm L := by
  refine List.Perm.trans ?_ h
  rw [List.append_assoc]
  refine List.Perm.append_left vis ?_
  clear h
  induction rem with
  | nil => cases hm
  | cons p rem ih =>
    rw [List.pairwise_cons] at hr
    rcases List.mem_cons.1 hm with e | hm
    · subst e
      have : rem.filter (fun p => p.1 ≠ a) = rem := List.filter_eq_self.2 (fun p hp => by simpa using fun e => hr.1 p hp e.symm)
      rw [List.filter_cons, if_neg (by simp), this]
      exact List.Perm.refl _
    · have hne : p.1 ≠ a := hr.1 _ hm
      simp only [List.filter_cons, ne_eq, hne, not_false_eq_true, decide_true, if_true, List.singleton_append]
      exact (List.Perm.swap _ _ _).trans (List.Perm.cons _ (by simpa using ih hr.2 hm))
end
end Go.Proofs.YthaoedfalkebbaaGreat
namespace Go.Proofs.YthaoedfalkebbaaGreat
open Go.ChangeShapes Go.WideShapes Go.ChangeAt Go.RowKit Go.Proofs.YthaoedfalkebbaaGreatW.PrintWords Go.Proofs.YthaoedfalkebbaaGreatW.PrintLast Go.Proofs.YthaoedfalkebbaaGreatW.PrintMore
set_option linter.unusedVariables false
set_option linter.unusedSimpArgs false
set_option linter.unusedSectionVars false
open Go.Deep (open_slice)
/-- elements of plain cells, each written out -/
def Kd.flat {α : Type} (encs : α → List Value) (n : Nat) (hn : ∀ x, (encs x).length = n) (h1 : ∀ x, ∀ u ∈ encs x, u.oneCell' = true) : Kd α where
  sz := n
  E := []
  K := fun _ x cs => cs = encs x
  M := fun _ _ _ x cs => cs = encs x
  K_len := fun h => by rw [h]; exact hn _
  K_one := fun h u hu => by rw [h] at hu; exact h1 _ u hu
  K_below := fun _ h => h
  K_of_M := fun h => h
  M_mono := fun _ h => h
  M_bound := fun h => h
  M_move := fun _ h => h
  M_lower := fun _ h => h
section
variable {H : Type} {enc : TypeId × Value → H} {P : Program} {w : World} {base : Nat} {spare : Nat → Bool} {held : Bool}
def Light (P : Program) (t : TypeId) (d : DataW H) : Prop := ∀ n ∈ d.weights P t, n ≤ reachBytes
theorem light_of {ts : List TypeId} {ds : List (DataW H)} (h : (DataW.weightsEach P ts ds).all (· ≤ reachBytes) = true) {j : Nat} {t : TypeId} {d : DataW H} (ht : ts[j]? = some t) (hd : ds[j]? = some d) : Light P t d := by
  intro n hn
  simpa using List.all_eq_true.1 h _ (DataW.weights_mem_each ht hd n hn)
theorem light_field {t : TypeId} {fs : Array Field} (ht : P.underlying t = some (.struct fs)) {ds : List (DataW H)} (h : Light P t (.agg ds)) {j : Nat} {f : Field} {d : DataW H} (hf : fs[j]? = some f) (hd : ds[j]? = some d) : Light P f.type d := by
  intro n hn
  refine h n ?_
  simp only [DataW.weights, ht]
  exact DataW.weights_mem_each (j := j) (by rw [List.getElem?_map, Array.getElem?_toList, hf]; rfl) hd n hn
theorem weightsAll_mem {e : TypeId} : ∀ {l : List (DataW H)} {d : DataW H}, d ∈ l → ∀ n ∈ d.weights P e, n ∈ DataW.weightsAll P e l
  | x :: l, d, h, n, hn => by
    unfold DataW.weightsAll
    rcases List.mem_cons.1 h with rfl | h
    · exact List.mem_append_left _ hn
    · exact List.mem_append_right _ (weightsAll_mem h n hn)
theorem light_elem {t e : TypeId} (ht : P.underlying t = some (.slice e)) {l s : List (DataW H)} (h : Light P t (.slice l s)) {d : DataW H} (hd : d ∈ l) : Light P e d := by
  intro n hn
  refine h n ?_
  simp only [DataW.weights, ht]
  exact List.mem_cons_of_mem _ (List.mem_append_left _ (weightsAll_mem hd n hn))
theorem light_len {t e : TypeId} (ht : P.underlying t = some (.slice e)) {l s : List (DataW H)} (h : Light P t (.slice l s)) : (l.length + s.length) * P.bytesOf e ≤ reachBytes := by
  refine h _ ?_
  simp only [DataW.weights, ht]
  exact List.mem_cons_self
/-- what a reading by the form says of the cells -/
def Opens (enc : TypeId × Value → H) (P : Program) (w : World) (base : Nat) (spare : Nat → Bool) (held : Bool) (t : TypeId) {α : Type} (d : Kd α) (G : α → Prop) : Prop :=
  ∀ fuel cs y, DataW.trod enc P w base spare held fuel t cs = some y → Light P t y.1 → ∃ x, d.K w x cs ∧ G x
theorem opens_int {t : TypeId} {k : IntKind} (ht : P.underlying t = some (.int k)) : Opens enc P w base spare held t (Kd.int k) (fun x => (Lit.int k x).wf = true) := by
  intro fuel cs y h _
  obtain ⟨n, rfl, _, hw⟩ := DataW.trod_int ht h
  exact ⟨n, rfl, hw⟩
theorem opens_string {t : TypeId} (ht : P.underlying t = some .string) : Opens enc P w base spare held t Kd.string (fun s => s.size ≤ reachBytes) := by
  intro fuel cs y h hl
  obtain ⟨s, rfl, rfl, _⟩ := DataW.trod_string ht h
  refine ⟨s, rfl, ?_⟩
  have := hl s.data.toList.length (by simp [DataW.weights])
  rwa [Array.length_toList] at this
theorem list_of {α : Type} {R : Nat → α → Prop} : ∀ n : Nat, (∀ i, i < n → ∃ x, R i x) → ∃ xs : List α, xs.length = n ∧ ∀ i x, xs[i]? = some x → R i x
  | 0, _ => ⟨[], rfl, by simp⟩
  | n + 1, h => by
    obtain ⟨xs, hl, hx⟩ := list_of n (fun i hi => h i (by omega))
    obtain ⟨x, hr⟩ := h n (by omega)
    refine ⟨xs ++ [x], by simp [hl], fun i y hy => ?_⟩
    rcases Nat.lt_trichotomy i n with hi | hi | hi
    · rw [List.getElem?_append_left (by omega)] at hy
      exact hx i y hy
    · subst hi
      rw [List.getElem?_append_right (by omega)] at hy
      simp [hl] at hy
      subst hy
      exact hr
    · rw [List.getElem?_eq_none (by simp; omega)] at hy
      cases hy
theorem opens_C {t e : TypeId} {α : Type} {d : Kd α} {G : α → Prop} (ht : P.underlying t = some (.slice e)) (hC : P.cellsOf e = d.sz) (he : Opens enc P w base spare held e d G)
    {fuel : Nat} {cs : List Value} {y : DataW H × List MemPlace} (h : DataW.trod enc P w base spare held fuel t cs = some y) (hl : Light P t y.1) :
    ∃ A c xs, cs = [.slice A xs.length c] ∧ xs.length ≤ c ∧ c ≤ maxLen ∧ d.C w A xs.length xs ∧ xs.length * P.bytesOf e ≤ reachBytes ∧ ∀ x ∈ xs, G x := by
  rcases open_slice ht h with ⟨rfl, rfl⟩ | ⟨a, len, cap, m, n, D, Pl, rfl, hb, hlc, hcm, hm, rfl, hel⟩
  · exact ⟨none, 0, [], rfl, Nat.le_refl _, Nat.zero_le _, Kd.C_nil _ _, by simp, by simp⟩
  · have hlm : len ≤ m := by rw [hm]; split <;> omega
    have hx : ∀ i, i < len → ∃ x, (∃ c, c.length = d.sz ∧ d.K w x c ∧ ∀ j u, c[j]? = some u → w.cell? (a.add (i * d.sz + j)) = some u) ∧ G x := by
      intro i hi
      obtain ⟨cs', hc, ht'⟩ := hel i (by omega)
      rw [hC] at hc
      obtain ⟨x, hk, hg⟩ := he _ _ _ ht' (light_elem ht hl (List.mem_map.2 ⟨i, by simpa using hi, rfl⟩))
      obtain ⟨_, hcl, hat⟩ := World.cells?_some hc
      refine ⟨x, ⟨cs', d.K_len hk, hk, fun j u hu => ?_⟩, hg⟩
      have hj : j < d.sz := by
        rcases Nat.lt_or_ge j cs'.length with h | h
        · rw [← d.K_len hk]; exact h
        · rw [List.getElem?_eq_none h] at hu; cases hu
      have := hat j hj
      rw [← this] at hu
      rw [← Go.Deep.add_add]
      exact hu
    obtain ⟨xs, hxl, hxs⟩ := list_of len hx
    subst hxl
    have hw := light_len ht hl
    refine ⟨some a, cap, xs, rfl, hlc, hcm, ⟨rfl, by simp only [maxLen] at hcm; omega, fun _ => ⟨a, rfl, fun j p hp => (hxs j p hp).1⟩⟩, ?_, fun x hx => ?_⟩
    · refine Nat.le_trans (Nat.mul_le_mul_right _ ?_) hw
      simp
    · obtain ⟨i, hi⟩ := List.mem_iff_getElem?.1 hx
      exact (hxs i x hi).2
end
section
variable {H : Type} {enc : TypeId × Value → H} {P : Program} {w : World} {base : Nat} {spare : Nat → Bool} {held : Bool}
theorem opens_fields {t : TypeId} {fs : Array Field} (ht : P.underlying t = some (.struct fs)) {fuel : Nat} {cs : List Value} {y : DataW H × List MemPlace} (h : DataW.trod enc P w base spare held fuel t cs = some y) (hl : Light P t y.1) :
    cs.length = P.cellsOf t ∧ ∀ (i : Nat) (f : Field), fs[i]? = some f → ∃ n y', DataW.trod enc P w base spare held n f.type ((cs.drop f.offset).take (P.cellsOf f.type)) = some y' ∧ Light P f.type y'.1 := by
  obtain ⟨xs, n, _, rfl, hc, hxl, hf⟩ := DataW.trod_struct ht h
  refine ⟨hc, fun i f hi => ?_⟩
  have hlt : i < xs.length := by rw [hxl]; exact (Array.getElem?_eq_some_iff.1 hi).1
  have h1 := hf i f hi
  rw [List.getElem?_eq_getElem hlt] at h1
  exact ⟨n, _, h1, light_field ht hl hi (by rw [List.getElem?_map, List.getElem?_eq_getElem hlt]; rfl)⟩
theorem opens_param {t : TypeId} {fs : Array Field} (ht : P.underlying t = some (.struct fs)) {r : Reach} {b0 : Nat} {v : Value} {d : DataW H} {p : List MemPlace} (hv : Value.okWide P w r b0 t v) (h : DataW.Trod enc P w base spare held t v d p) (hl : Light P t d) :
    ∃ cs : List Value, v = .agg cs.toArray ∧ cs.length = P.cellsOf t ∧ ∀ (i : Nat) (f : Field), fs[i]? = some f → ∃ n y', DataW.trod enc P w base spare held n f.type ((cs.drop f.offset).take (P.cellsOf f.type)) = some y' ∧ Light P f.type y'.1 := by
  obtain ⟨ca, rfl, hsz⟩ := okWide_struct ht hv
  obtain ⟨fuel, hf⟩ := h
  obtain ⟨cs⟩ := ca
  obtain ⟨hc, hff⟩ := opens_fields ht hf hl
  exact ⟨cs, rfl, by simpa using hsz, hff⟩
end
def FldAt {H : Type} (enc : TypeId × Value → H) (P : Program) (w : World) (base : Nat) (spare : Nat → Bool) (held : Bool) (cs : List Value) (ty off : Nat) : Prop :=
  ∃ n y', DataW.trod enc P w base spare held n ty ((cs.drop off).take (P.cellsOf ty)) = some y' ∧ Light P ty y'.1
end Go.Proofs.YthaoedfalkebbaaGreat
namespace Go.Proofs.YthaoedfalkebbaaGreat
open Go.RowKit Go.Maps Go.Sort Go.Lib Go.Proofs.YthaoedfalkebbaaGreatW.PrintWords Go.Proofs.YthaoedfalkebbaaGreatW.PrintLast Go.Proofs.YthaoedfalkebbaaGreatW.PrintMore
set_option linter.unusedVariables false
set_option linter.unusedSimpArgs false
set_option linter.unusedSectionVars false
theorem trans_grown {w w1 w2 : World} {r : Option Nat} (h : w.grownBy w1 r) (k : w1.grownBy w2 r) : w.grownBy w2 r :=
  ⟨k.os.trans h.os, k.tape.trans h.tape, k.output.trans h.output, Nat.le_trans h.size k.size, fun i hi hne => (k.block i (Nat.lt_of_lt_of_le hi h.size) hne).trans (h.block i hi hne)⟩
theorem grown_none {w w1 : World} {r : Option Nat} (h : w.grownBy w1 none) : w.grownBy w1 r := ⟨h.os, h.tape, h.output, h.size, fun i hi _ => h.block i hi (by simp)⟩
theorem add_field (ad : Addr) (m j : Nat) (hj : 0 < j) : ad.add (m + j) = ⟨(ad.add m).block, (ad.add m).off + j, none⟩ := by
  unfold Addr.add
  rw [if_neg (by omega)]
  split <;> simp <;> omega
theorem grown_set (w : World) (g j : Nat) (u : Value) : w.grownBy (w.setCell ⟨g, j, none⟩ u) (some g) := ⟨rfl, rfl, rfl, by simp [World.setCell], fun i _ hne => Below.heap_setCell w ⟨g, j, none⟩ u i (fun e => hne (by rw [e]))⟩
theorem drewG (w : World) : w.grownBy w.drew none := ⟨rfl, rfl, rfl, Nat.le_refl _, fun _ _ _ => rfl⟩
theorem drewNG (w : World) (n : Nat) : w.grownBy (w.drewN n) none := ⟨rfl, rfl, rfl, Nat.le_refl _, fun _ _ _ => rfl⟩
theorem toList_inj {s u : ByteArray} (h : s.toList = u.toList) : s = u := by
  have e := ByteArray.toList_eq
  rw [e, e] at h
  cases s
  cases u
  simp at h
  rw [h]
theorem toList_iff (s u : ByteArray) : (s.toList = u.toList) ↔ s = u := ⟨toList_inj, fun h => by rw [h]⟩
section
variable {α : Type} [Inhabited α] {enc : α → List Value} {k : Nat} {hn : ∀ x, (enc x).length = k} {h1 : ∀ x, ∀ u ∈ enc x, u.oneCell' = true}
theorem flat_at (hn : ∀ x, (enc x).length = k) (d : Array α) (j i : Nat) (hj : j < d.size) (hi : i < k) : (flatK enc k d)[j * k + i]! = (enc d[j]!)[i]! := by
  have hlt : j * k + i < d.size * k := by
    have : (j + 1) * k ≤ d.size * k := Nat.mul_le_mul_right k hj
    rw [Nat.add_mul, Nat.one_mul] at this
    omega
  rw [get_flatK _ _ _ _ hlt]
  have e1 : (j * k + i) / k = j := by rw [Nat.mul_comm, Nat.mul_add_div (by omega), Nat.div_eq_of_lt hi]; omega
  have e2 : (j * k + i) % k = i := by rw [Nat.mul_comm, Nat.mul_add_mod, Nat.mod_eq_of_lt hi]
  rw [e1, e2]
theorem flat_reps (hn : ∀ x, (enc x).length = k) (xs : List α) : Reps (fun x cs => cs = enc x) k xs (flatK enc k xs.toArray).toList := by
  refine ⟨by simp, fun j p hp => ?_⟩
  obtain ⟨hj, rfl⟩ := List.getElem?_eq_some_iff.1 hp
  have hle : j * k + k ≤ xs.length * k := by
    have : (j + 1) * k ≤ xs.length * k := Nat.mul_le_mul_right k hj
    rwa [Nat.add_mul, Nat.one_mul] at this
  refine List.ext_getElem (by simp [hn]; omega) fun i h1 h2 => ?_
  have hi : i < k := by rw [hn] at h2; exact h2
  have := flat_at hn xs.toArray j i (by simpa using hj) hi
  rw [getElem!_pos _ _ (by simp; omega), getElem!_pos (enc _) i (by rw [hn]; exact hi)] at this
  simpa [hj] using this
theorem flat_holds {w : World} {base e g cap : Nat} {ok : Nat → Prop} {xs : List α} (h : (Kd.flat enc k hn h1).R e w base ok (.slice (some ⟨g, 0, none⟩) xs.length cap) xs) : HoldsK enc k w g 0 xs.toArray := by
  obtain ⟨_, inner, ho, hr⟩ := h
  intro j hj
  have hj' : j < xs.length * k := by simpa using hj
  refine ⟨?_, ?_⟩
  · rw [Nat.zero_add, ho.cellAt j hj']
    have hk : 0 < k := by
      rcases Nat.eq_zero_or_pos k with h | h
      · rw [h, Nat.mul_zero] at hj'; omega
      · exact h
    have hd : j / k < xs.length := by rw [Nat.div_lt_iff_lt_mul hk]; exact hj'
    have hm := Nat.mod_lt j hk
    have e : j / k * k + j % k = j := Nat.div_add_mod' j k
    have h2 : (inner.drop (j / k * k)).take k = enc xs[j / k] := hr.2 (j / k) _ (List.getElem?_eq_getElem hd)
    have h3 := flat_at hn xs.toArray (j / k) (j % k) (by simpa using hd) hm
    rw [e] at h3
    rw [h3]
    have h4 : ((inner.drop (j / k * k)).take k)[j % k]? = inner[j]? := by
      rw [List.getElem?_take, if_pos hm, List.getElem?_drop, e]
    have h5 : xs.toArray[j / k]! = xs[j / k] := by rw [getElem!_pos _ _ (by simpa using hd)]; simp
    rw [← h4, h2, h5]
    rw [getElem!_pos (enc _) _ (by rw [hn]; exact hm), List.getElem?_eq_getElem (by rw [hn]; exact hm)]
    rfl
  · rw [Nat.zero_add]; exact ho.frozenAt j
theorem flat_sorted {w : World} {base e g cap : Nat} {ok : Nat → Prop} {xs ys : List α} (h : (Kd.flat enc k hn h1).R e w base ok (.slice (some ⟨g, 0, none⟩) xs.length cap) xs) (hl : ys.length = xs.length) (m : Nat) (os : Array Obj) :
    (Kd.flat enc k hn h1).R e (sortWorldK enc k w g 0 m ys.toArray os) base ok (.slice (some ⟨g, 0, none⟩) ys.length cap) ys ∧ w.grownBy (sortWorldK enc k w g 0 m ys.toArray os) (some g) := by
  obtain ⟨h0, inner, ⟨hil, ho⟩, hr⟩ := h
  rcases ho with ⟨he, _⟩ | ⟨g', cap', cur, he, hb, hh, hc1, hc2, hcs, htk⟩
  · cases he
  injection he with e1 e2 e3
  injection e1 with e1
  injection e1 with e1
  subst e1 e3
  have hlt : g < w.heap.size := (Array.getElem?_eq_some_iff.1 hh).1
  have hheap : (sortWorldK enc k w g 0 m ys.toArray os).heap = (w.heap.modify g (onCells (putCells id 0 (flatK enc k ys.toArray)))) ++ os := rfl
  have hnew : (sortWorldK enc k w g 0 m ys.toArray os).heap[g]? = some (.cells (putCells id 0 (flatK enc k ys.toArray) cur) e (0, 0)) := by
    rw [hheap, Array.getElem?_append_left (by simpa using hlt), Array.getElem?_modify, if_pos rfl, hh]
    rfl
  refine ⟨⟨h0, (flatK enc k ys.toArray).toList, ⟨by simp [Kd.flat], .inr ⟨g, cap, _, by rw [hl], hb, hnew, by omega, hc2, ?_, ?_⟩⟩, flat_reps hn ys⟩, ⟨rfl, rfl, rfl, ?_, ?_⟩⟩
  · simp [putCells, hcs]
  · refine List.ext_getElem? fun t => ?_
    rw [List.getElem?_take]
    simp only [Kd.flat] at hcs ⊢
    have hle : ys.length * k ≤ cap * k := Nat.mul_le_mul_right k (by omega)
    by_cases ht : t < ys.length * k
    · simp only [ht, ↓reduceIte]
      simp only [putCells, Array.toList_mapIdx, List.getElem?_mapIdx, Array.getElem?_toList]
      rw [Array.getElem?_eq_getElem (show t < cur.size by omega), Array.getElem?_eq_getElem (show t < (flatK enc k ys.toArray).size by simpa using ht)]
      rw [Option.map_some, if_pos ⟨by omega, by simpa using ht⟩]
      rw [Nat.sub_zero, getElem!_pos _ _ (by simpa using ht)]
      rfl
    · simp only [ht, ↓reduceIte]
      rw [List.getElem?_eq_none (by simpa using ht)]
  · rw [hheap]; simp
  · intro i hi hne
    have : g ≠ i := fun e => hne (by rw [e])
    rw [hheap, Array.getElem?_append_left (by simpa using hi), Array.getElem?_modify, if_neg this]
end
def LRow (w : World) (base : Nat) (e : TypeId) (size : Nat) (v : Value) (n : Nat) (xs : List Value) : Prop :=
  xs.length = n * size ∧
  ((v = .slice none 0 0 ∧ n = 0) ∨
   ∃ g cap cur, v = .slice (some ⟨g, 0, none⟩) n cap ∧ base ≤ g ∧ w.heap[g]? = some (.cells cur e (0, 0)) ∧ n ≤ cap ∧ cap ≤ maxLen ∧ cap * size ≤ cur.size ∧ cur.toList.take (n * size) = xs)
section
variable {P : Program} {w w1 : World} {base n size : Nat} {e : TypeId} {v : Value} {xs : List Value}
theorem l_of_own (h : w.ownsRow base e size v n xs) : LRow w base e size v n xs := by
  obtain ⟨h1, h2⟩ := h
  refine ⟨h1, ?_⟩
  rcases h2 with h2 | ⟨g, cap, cur, rfl, hb, hh, hnc, hcm, hcs, ht⟩
  · exact .inl h2
  · exact .inr ⟨g, cap, cur, rfl, hb, hh, hnc, hcm, by omega, ht⟩
theorem l_move (h : LRow w base e size v n xs) (hm : ∀ k, v.ownBlock = some k → w1.heap[k]? = w.heap[k]?) : LRow w1 base e size v n xs := by
  obtain ⟨h1, h2⟩ := h
  refine ⟨h1, ?_⟩
  rcases h2 with h2 | ⟨g, cap, cur, rfl, hb, hh, r⟩
  · exact .inl h2
  · exact .inr ⟨g, cap, cur, rfl, hb, (hm g rfl).trans hh, r⟩
theorem l_typed (h : LRow w base e size v n xs) (k : Nat) (hk : v.ownBlock = some k) : base ≤ k ∧ ∃ cells, w.heap[k]? = some (.cells cells e (0, 0)) := by
  rcases h.2 with ⟨rfl, _⟩ | ⟨g, cap, cur, rfl, hb, hh, _⟩
  · cases hk
  · injection hk with hk
    have hk : g = k := hk
    subst hk
    exact ⟨hb, _, hh⟩
theorem l_lower {base' : Nat} (h : LRow w base e size v n xs) (hb : base' ≤ base) : LRow w base' e size v n xs := by
  obtain ⟨h1, h2⟩ := h
  refine ⟨h1, ?_⟩
  rcases h2 with h2 | ⟨g, cap, cur, hv, hb', r⟩
  · exact .inl h2
  · exact .inr ⟨g, cap, cur, hv, by omega, r⟩
theorem l_cells {g c : Nat} (h : LRow w base e size (.slice (some ⟨g, 0, none⟩) n c) n xs) : ∀ j u, xs[j]? = some u → w.cell? ⟨g, j, none⟩ = some u := by
  intro j u hu
  rcases h.2 with ⟨hv, _⟩ | ⟨g', cap, cur, hv, hb, hh, _, _, _, ht⟩
  · cases hv
  · injection hv with hv _ _
    injection hv with hv
    injection hv with hv
    subst hv
    rw [cell_of_row w g _ cur e (0, 0) hh]
    rw [← ht, List.getElem?_take] at hu
    split at hu
    · rw [← Array.getElem?_toList]; exact hu
    · cases hu
theorem run_append_zero (t ty e : TypeId) (i : TypeInfo) (ht : P.underlying t = some (.slice e)) (hi : P.info? e = some i) (b : Option Addr) (n c : Nat) (x : Option Addr) (c' : Nat) (h : n ≤ c) :
    (Builtin.append_ #[t, t] ty #[.slice b n c, .slice x 0 c']).run P w = .ok (.slice b n c) w := by
  cases x <;> cases b <;> simp [Builtin.append_, run_underlying ht, sizeOf, typeInfo, hi, Builtin.lenOf, Builtin.firstCells, h, go_sem, loadCells, loadCellsFrom, storeCells]
theorem l_append (w : World) (base : Nat) (t ty e : TypeId) (i : TypeInfo) (z : Value) (size bytes : Nat) (ht : P.underlying t = some (.slice e)) (hi : P.info? e = some i) (hz : i.zero = some z)
    (hsize : i.size = size) (hby : i.bytes = bytes) (hzs : z.cells.size = size) (hsz : 0 < size)
    (v : Value) (n : Nat) (xs : List Value) (hown : LRow w base e size v n xs)
    (a : Addr) (m c : Nat) (news : List Value) (hl : news.length = m * size) (hnews : ∀ j u, news[j]? = some u → w.cell? (a.add j) = some u) (h1 : ∀ u ∈ news, u.oneCell' = true) (hm : 0 < m)
    (h63 : n + m ≤ maxLen) (hbytes : (n + m) * bytes ≤ 140737488355328) (hbase : base ≤ w.heap.size) :
    ∃ v' w', (Builtin.append_ #[t, t] ty #[v, .slice (some a) m c]).run P w = .ok v' w' ∧ LRow w' base e size v' (n + m) (xs ++ news) ∧ w.grownBy w' v.ownBlock := by
  rcases hown.2 with ⟨rfl, rfl⟩ | ⟨g, cap, cur, rfl, hbg, hg, hnc, hcm, hcs, htake⟩
  · have ho : w.ownsRow base e size (.slice none 0 0) 0 xs := ⟨hown.1, .inl ⟨rfl, rfl⟩⟩
    obtain ⟨v', w', hr, ho', hg, _⟩ := run_append_own_at (P := P) w base t ty e i z size bytes ht hi hz hsize hby hzs hsz _ 0 xs ho a m c news hl hnews h1 h63 hbytes hbase
    exact ⟨v', w', hr, l_of_own ho', hg⟩
  · by_cases hroom : n + m ≤ cap
    · have hfit : 0 + n * size + news.length ≤ cur.size := by
        have := Nat.mul_le_mul_right size hroom
        rw [Nat.add_mul] at this
        rw [hl]
        omega
      subst hsize
      have hr := run_append_room_cells (P := P) (w := w) t ty e i ht hi g 0 n cap a m c news hl hnews h1 hroom
        (fun j hj => by rw [cell_of_row w g _ cur e (0, 0) hg]; simp; omega) (fun j _ => blk_frozen hg _)
      obtain ⟨cur', h3, h4, h5⟩ := setCells_row news (0 + n * i.size) w cur hg hfit
      obtain ⟨s1, s2, s3, s4⟩ := setCells_same g news (0 + n * i.size) w
      refine ⟨_, _, hr, ⟨by rw [List.length_append, hown.1, hl, Nat.add_mul], .inr ⟨g, cap, cur', rfl, hbg, h3, hroom, hcm, by omega, ?_⟩⟩,
        ⟨s1, s2, s3, by rw [s4]; exact Nat.le_refl _, fun k _ hk => setCells_far news _ k (fun he => hk (by rw [he]; simp [Value.ownBlock]))⟩⟩
      rw [h5, Nat.zero_add, htake]
      exact List.take_left' (by rw [List.length_append, hown.1, hl, Nat.add_mul])
    · obtain ⟨v', w', hr, ho, hg'⟩ := run_append_arg_grows (P := P) (w := w) t ty e i z size bytes ht hi hz hsize hby hzs hsz ⟨g, 0, none⟩ n cap xs hown.1 (fun j u hu => by rw [add_plain]; exact l_cells hown j u hu) a m c news hl hnews (by omega) h63 hbytes
      exact ⟨v', w', hr, l_lower (l_of_own ho) hbase, ⟨hg'.os, hg'.tape, hg'.output, hg'.size, fun k hk _ => hg'.block k hk (by simp)⟩⟩
end
section
variable {α : Type} {enc : α → List Value} {k : Nat} {e base : Nat} {w w1 : World} {v : Value} {xs : List α}
def Lo (enc : α → List Value) (k e : Nat) (w : World) (base : Nat) (v : Value) (xs : List α) : Prop := ∃ inner, LRow w base e k v xs.length inner ∧ Reps (fun x cs => cs = enc x) k xs inner
theorem Lo.nil (w : World) (base : Nat) : Lo enc k e w base (.slice none 0 0) [] := ⟨[], ⟨by simp, .inl ⟨rfl, rfl⟩⟩, Reps.none _ _⟩
theorem Lo.move (h : Lo enc k e w base v xs) (hm : ∀ b, v.ownBlock = some b → w1.heap[b]? = w.heap[b]?) : Lo enc k e w1 base v xs := by
  obtain ⟨inner, h1, h2⟩ := h
  exact ⟨inner, l_move h1 hm, h2⟩
theorem Lo.typed (h : Lo enc k e w base v xs) (b : Nat) (hb : v.ownBlock = some b) : base ≤ b ∧ b < w.heap.size ∧ ∃ cells, w.heap[b]? = some (.cells cells e (0, 0)) := by
  obtain ⟨inner, h1, _⟩ := h
  obtain ⟨h2, cells, h3⟩ := l_typed h1 b hb
  exact ⟨h2, (Array.getElem?_eq_some_iff.1 h3).1, cells, h3⟩
theorem Lo.grown (h : Lo enc k e w base v xs) {row : Option Nat} (hg : w.grownBy w1 row) (hne : ∀ b, row = some b → v.ownBlock ≠ some b) : Lo enc k e w1 base v xs :=
  h.move fun b hb => hg.block b (h.typed b hb).2.1 (fun e => hne b e.symm hb)
theorem Lo.slice (h : Lo enc k e w base v xs) : ∃ A c, v = .slice A xs.length c ∧ xs.length ≤ c ∧ (0 < xs.length → ∃ g, A = some ⟨g, 0, none⟩ ∧ base ≤ g) := by
  obtain ⟨inner, h1, _⟩ := h
  rcases h1.2 with ⟨rfl, h⟩ | ⟨g, c, cur, rfl, hb, _, hc, _⟩
  · exact ⟨none, 0, by rw [h], by omega, fun h0 => by omega⟩
  · exact ⟨_, c, rfl, hc, fun _ => ⟨g, rfl, hb⟩⟩
theorem Lo.cell (h : Lo enc k e w base v xs) (hn : ∀ x, (enc x).length = k) {g n c : Nat} (hv : v = .slice (some ⟨g, 0, none⟩) n c) (j : Nat) (x : α) (hj : xs[j]? = some x) : ∀ i u, (enc x)[i]? = some u → w.cell? ⟨g, j * k + i, none⟩ = some u := by
  intro i u hu
  obtain ⟨inner, h1, h2⟩ := h
  have e0 : n = xs.length := by
    rcases h1.2 with ⟨hv', _⟩ | ⟨g', c', cur, hv', _⟩
    · rw [hv] at hv'; cases hv'
    · rw [hv] at hv'; injection hv'
  subst hv
  subst e0
  have h3 : (inner.drop (j * k)).take k = enc x := h2.2 j x hj
  refine l_cells h1 _ _ ?_
  rw [← h3, List.getElem?_take] at hu
  split at hu
  · rw [List.getElem?_drop] at hu; exact hu
  · cases hu
theorem Lo.append {P : Program} (h : Lo enc k e w base v xs) (hn : ∀ x, (enc x).length = k) (h1c : ∀ x, ∀ u ∈ enc x, u.oneCell' = true) (t ty : TypeId) (z : Value) (bytes : Nat) (ht : P.underlying t = some (.slice e)) (hinfo : (P.info? e).map (fun i => (i.zero, i.size, i.bytes)) = some (some z, k, bytes)) (hzs : z.cells.size = k) (hk : 0 < k) (hb0 : 0 < bytes)
    (x : α) (hbytes : (xs.length + 1) * bytes ≤ 140737488355328) (hbase : base ≤ w.heap.size) :
    ∃ v' w', (Builtin.append_ #[t, t] ty #[v, .slice (some ⟨w.heap.size, 0, none⟩) 1 1]).run P (w.alloc (.cells (enc x).toArray e)) = .ok v' w' ∧ Lo enc k e w' base v' (xs ++ [x]) ∧ w.grownBy w' v.ownBlock := by
  have hw := h.grown (World.grownBy_alloc w (.cells (enc x).toArray e) none) (fun b e => by cases e)
  obtain ⟨inner, h1, h2⟩ := hw
  obtain ⟨i0, hi0, hzz⟩ := Option.map_eq_some_iff.1 hinfo
  simp only [Prod.mk.injEq] at hzz
  obtain ⟨hz0, hz1, hz2⟩ := hzz
  have hlen : xs.length + 1 ≤ 140737488355328 := Nat.le_trans (Nat.le_mul_of_pos_right _ hb0) hbytes
  obtain ⟨v', w', hr, ho, hg⟩ := l_append (P := P) (w.alloc (.cells (enc x).toArray e)) base t ty e i0 z k bytes ht hi0 hz0 hz1 hz2 hzs hk v xs.length inner h1 ⟨w.heap.size, 0, none⟩ 1 1 (enc x) (by rw [hn, Nat.one_mul])
    (by simpa using World.news_of_block (cs := (enc x).toArray) (t := e) (fr := (0, 0)) (heap_alloc_new w (.cells (enc x).toArray e))) (h1c x) (by omega) (by simp only [maxLen]; omega) hbytes (by simp; omega)
  refine ⟨v', w', hr, ⟨_, by rw [List.length_append]; exact ho, h2.snoc rfl (hn x)⟩, trans_grown (World.grownBy_alloc w _ _) hg⟩
end
section
variable {α : Type} {enc : α → List Value} {k e base : Nat} {w w1 : World} {v : Value} {xs ys : List α}
/-- a slice that can be read off -/
def Src (enc : α → List Value) (k : Nat) (w : World) (A : Option Addr) (ys : List α) : Prop :=
  ∃ inner, inner.length = ys.length * k ∧ Reps (fun x cs => cs = enc x) k ys inner ∧ (0 < ys.length → ∃ a, A = some a ∧ ∀ j u, inner[j]? = some u → w.cell? (a.add j) = some u)
/-- a loose row's beginning, read off -/
theorem Lo.srcTake (h : Lo enc k e w base v xs) {A : Option Addr} {n c i : Nat} (hv : v = .slice A n c) (hi : i ≤ xs.length) : Src enc k w A (xs.take i) := by
  obtain ⟨inner, h1, h2⟩ := h
  have hle : i * k ≤ xs.length * k := Nat.mul_le_mul_right _ hi
  have e0 : (xs.take i).length = i := by rw [List.length_take]; omega
  refine ⟨inner.take (i * k), by rw [List.length_take, h1.1, e0]; omega, Kd.reps_take h2 hi, fun h0 => ?_⟩
  rcases h1.2 with ⟨hv', hn⟩ | ⟨g, cap, cur, hv', _⟩
  · rw [e0] at h0; omega
  · rw [hv] at hv'
    injection hv' with e1 e2 e3
    refine ⟨_, e1, fun j u hu => ?_⟩
    rw [add_plain]
    rw [List.getElem?_take] at hu
    split at hu
    · have h3 := h1
      rw [hv, e1, e2] at h3
      exact l_cells h3 j u hu
    · cases hu
theorem Lo.src (h : Lo enc k e w base v xs) {A : Option Addr} {n c : Nat} (hv : v = .slice A n c) : Src enc k w A xs := by
  have := h.srcTake hv (Nat.le_refl _)
  rwa [List.take_length] at this
end
section
variable {α : Type} [Inhabited α] {enc : α → Value}
theorem flat_one (d : Array α) : flatK (fun x => [enc x]) 1 d = d.map enc := by
  refine Array.ext (by simp) fun t h1 h2 => ?_
  have ht : t < d.size := by simpa using h2
  have := get_flatK (fun x => [enc x]) 1 d t (by simpa using ht)
  rw [getElem!_pos (flatK (fun x => [enc x]) 1 d) t h1] at this
  rw [this, Nat.mod_one, Nat.div_one, getElem!_pos d t ht, Array.getElem_map]
  rfl
theorem putRow_one (w : World) (g : Nat) (d : Array α) : putRow enc w g 0 d = putRow id w g 0 (d.map enc) := by
  unfold putRow
  refine mapBlock_congr _ _ _ _ fun c e fr _ => ?_
  unfold putCells
  congr 1
  funext k x
  rw [Array.size_map]
  split
  · rename_i h
    have hk : k - 0 < d.size := by omega
    rw [getElem!_pos (d.map enc) (k - 0) (by simpa using hk), Array.getElem_map, getElem!_pos d (k - 0) hk]
    rfl
  · rfl
variable {hn : ∀ x : α, [enc x].length = 1} {h1 : ∀ x, ∀ u ∈ [enc x], u.oneCell' = true}
theorem one_holds {w : World} {base e g cap : Nat} {ok : Nat → Prop} {xs : List α} (h : (Kd.flat (fun x => [enc x]) 1 hn h1).R e w base ok (.slice (some ⟨g, 0, none⟩) xs.length cap) xs) : Holds enc w g 0 xs.toArray := by
  have h2 := flat_holds h
  unfold HoldsK at h2
  rw [flat_one] at h2
  intro j hj
  obtain ⟨h3, h4⟩ := h2 j (by simpa using hj)
  refine ⟨?_, h4⟩
  rw [h3, getElem!_pos _ _ (by simpa using hj), Array.getElem_map, getElem!_pos xs.toArray j hj]
  rfl
theorem one_put {w : World} {base e g cap : Nat} {ok : Nat → Prop} {xs ys : List α} (h : (Kd.flat (fun x => [enc x]) 1 hn h1).R e w base ok (.slice (some ⟨g, 0, none⟩) xs.length cap) xs) (hl : ys.length = xs.length) (m : Nat) (os : Array Obj) :
    (Kd.flat (fun x => [enc x]) 1 hn h1).R e (grow (putRow enc (Sort.ahead w m) g 0 ys.toArray) os) base ok (.slice (some ⟨g, 0, none⟩) ys.length cap) ys ∧ w.grownBy (grow (putRow enc (Sort.ahead w m) g 0 ys.toArray) os) (some g) := by
  have := flat_sorted h hl m os
  unfold sortWorldK putRowK at this
  rw [flat_one, ← putRow_one] at this
  exact this
end
theorem Lo.lower {α : Type} {enc : α → List Value} {k e base base' : Nat} {w : World} {v : Value} {xs : List α} (h : Lo enc k e w base v xs) (hb : base' ≤ base) : Lo enc k e w base' v xs := by
  obtain ⟨inner, h1, h2⟩ := h
  exact ⟨inner, l_lower h1 hb, h2⟩
theorem Lo.ofR {α : Type} {enc : α → List Value} {k e base : Nat} {hn : ∀ x, (enc x).length = k} {h1 : ∀ x, ∀ u ∈ enc x, u.oneCell' = true} {w : World} {ok : Nat → Prop} {v : Value} {xs : List α} (h : (Kd.flat enc k hn h1).R e w base ok v xs) : Lo enc k e w base v xs := by
  obtain ⟨_, inner, ho, hr⟩ := h
  exact ⟨inner, l_of_own ho, hr⟩
theorem app_step {P : Program} {ops : Array Oper} {o : Oper} {a : Act} {Q' : Exit → Act → World → Prop} {Kc : Act → World → Prop} {W w1 : World} {s x : Operand} {t : TypeId} {v u v1 : Value} (hw : Region.wanted o (yielded ops a.tmps) = true)
    (ho : o.op = .call { callee := .builtin .append, args := #[s, x], argTypes := #[t, t] }) (hs : a.eval s = v) (hx : a.eval x = u) (hr : (Builtin.append_ #[t, t] o.type #[v, u]).run P W = .ok v1 w1) (h : Kc (a.put o.dst v1) w1) :
    if Region.wanted o (yielded ops a.tmps) = true then Oper.wp P o a W Kc Q' else Kc (a.put o.dst undef) W := by
  rw [if_pos hw]
  unfold Oper.wp execOp
  simp only [ho, resolve, invoke, builtin, Sem.run_bind, Sem.run_pure, Result.andThen_ok, List.map_toArray, List.map_cons, List.map_nil, hs, hx, hr]
  exact h
theorem app_list {P : Program} {ops : Array Oper} {o : Oper} {rest : List Oper} {a : Act} {Q' : Exit → Act → World → Prop} {W w1 : World} {s x : Operand} {t : TypeId} {v u v1 : Value} (hgd : o.guard = none)
    (ho : o.op = .call { callee := .builtin .append, args := #[s, x], argTypes := #[t, t] }) (hs : a.eval s = v) (hx : a.eval x = u) (hr : (Builtin.append_ #[t, t] o.type #[v, u]).run P W = .ok v1 w1) (h : wpList P ops Q' rest (a.put o.dst v1) w1) :
    wpList P ops Q' (o :: rest) a W := by
  refine wpList_plain hgd fun K hK => ?_
  unfold Oper.wp execOp
  simp only [ho, resolve, invoke, builtin, Sem.run_bind, Sem.run_pure, Result.andThen_ok, List.map_toArray, List.map_cons, List.map_nil, hs, hx, hr]
  exact hK _ _ h
end Go.Proofs.YthaoedfalkebbaaGreat
namespace Go.Proofs.YthaoedfalkebbaaGreat
open Go.RowKit Go.Maps Go.Sort Go.Lib Go.Proofs.YthaoedfalkebbaaGreatW.PrintWords Go.Proofs.YthaoedfalkebbaaGreatW.PrintLast Go.Proofs.YthaoedfalkebbaaGreatW.PrintMore
set_option linter.unusedVariables false
set_option linter.unusedSimpArgs false
set_option linter.unusedSectionVars false
theorem strict_unique : ∀ {xs ys : List Int}, xs.Pairwise (· < ·) → ys.Pairwise (· < ·) → (∀ x, x ∈ xs ↔ x ∈ ys) → xs = ys
  | [], [], _, _, _ => rfl
  | [], y :: ys, _, _, h => by have := (h y).2 List.mem_cons_self; cases this
  | x :: xs, [], _, _, h => by have := (h x).1 List.mem_cons_self; cases this
  | x :: xs, y :: ys, hx, hy, h => by
    rw [List.pairwise_cons] at hx hy
    have hxy : x = y := by
      rcases List.mem_cons.1 ((h x).1 List.mem_cons_self) with e | e
      · exact e
      · rcases List.mem_cons.1 ((h y).2 List.mem_cons_self) with f | f
        · exact f.symm
        · have := hx.1 y f
          have := hy.1 x e
          omega
    subst hxy
    rw [strict_unique hx.2 hy.2 (fun z => ?_)]
    constructor
    · intro hz
      rcases List.mem_cons.1 ((h z).1 (List.mem_cons_of_mem _ hz)) with e | e
      · have := hx.1 z hz; omega
      · exact e
    · intro hz
      rcases List.mem_cons.1 ((h z).2 (List.mem_cons_of_mem _ hz)) with e | e
      · have := hy.1 z hz; omega
      · exact e
theorem compact_rises (zs : List Int) (hz : zs.Pairwise (· ≤ ·)) : ∀ m, m ≤ zs.length → (compactUpTo zs.toArray m).Pairwise (· < ·) ∧ ∀ x, x ∈ compactUpTo zs.toArray m ↔ x ∈ zs.take m
  | 0, _ => by simp [compactUpTo]
  | m + 1, hm => by
    obtain ⟨h1, h2⟩ := compact_rises zs hz m (by omega)
    have hg : ∀ j (hj : j < zs.length), zs.toArray[j]! = zs[j] := fun j hj => by rw [getElem!_pos _ _ (by simpa using hj)]; simp
    have hle : ∀ x ∈ zs.take m, x ≤ zs[m] := by
      intro x hx
      obtain ⟨j, hj, rfl⟩ := List.mem_iff_getElem.1 hx
      rw [List.getElem_take]
      rw [List.length_take] at hj
      exact List.pairwise_iff_getElem.1 hz j m (by omega) (by omega) (by omega)
    rw [compactUpTo_succ, List.take_succ_eq_append_getElem hm, hg m hm]
    by_cases hk : keeps zs.toArray m = true
    · rw [if_pos hk]
      refine ⟨?_, fun x => by simp only [List.mem_append, List.mem_singleton, h2]⟩
      rw [List.pairwise_append]
      refine ⟨h1, List.pairwise_singleton _ _, fun x hx y hy => ?_⟩
      rw [List.mem_singleton.1 hy]
      have hx' := (h2 x).1 hx
      have := hle x hx'
      rcases Int.lt_or_eq_of_le this with h | h
      · exact h
      · exfalso
        simp only [keeps, decide_eq_true_eq] at hk
        rcases hk with hk | hk
        · subst hk; simp at hx'
        · have hm0 : 0 < m := by
            rcases Nat.eq_zero_or_pos m with h0 | h0
            · subst h0; simp at hx'
            · exact h0
          rw [hg m hm, hg (m - 1) (by omega)] at hk
          obtain ⟨j, hj, rfl⟩ := List.mem_iff_getElem.1 hx'
          rw [List.getElem_take] at h
          rw [List.length_take] at hj
          have a1 : zs[j] ≤ zs[m - 1] := by
            rcases Nat.lt_or_ge j (m - 1) with h3 | h3
            · exact List.pairwise_iff_getElem.1 hz j (m - 1) (by omega) (by omega) h3
            · have : j = m - 1 := by omega
              subst this
              exact Int.le_refl _
          have a2 : zs[m - 1] ≤ zs[m] := List.pairwise_iff_getElem.1 hz (m - 1) m (by omega) (by omega) (by omega)
          exact hk (by omega)
    · rw [if_neg hk, List.append_nil]
      refine ⟨h1, fun x => ?_⟩
      rw [h2, List.mem_append, List.mem_singleton]
      constructor
      · exact .inl
      · rintro (h | rfl)
        · exact h
        · simp only [keeps, decide_eq_true_eq] at hk
          have hm0 : m ≠ 0 := fun e => hk (.inl e)
          have he : zs.toArray[m]! = zs.toArray[m - 1]! := Classical.byContradiction fun e => hk (.inr e)
          rw [hg m hm, hg (m - 1) (by omega)] at he
          rw [he]
          exact List.mem_iff_getElem.2 ⟨m - 1, by rw [List.length_take]; omega, by rw [List.getElem_take]⟩
def rise (xs : List Int) : List Int := compactUpTo (xs.mergeSort fun x y => decide (x ≤ y)).toArray xs.length
theorem sorted_le (xs : List Int) : (xs.mergeSort fun x y => decide (x ≤ y)).Pairwise (· ≤ ·) := by
  have := List.pairwise_mergeSort (le := fun x y : Int => decide (x ≤ y)) (fun a b c h k => by simp at *; omega) (fun a b => by simp; omega) xs
  exact this.imp (fun h => by simpa using h)
theorem rise_spec (xs : List Int) : (rise xs).Pairwise (· < ·) ∧ ∀ x, x ∈ rise xs ↔ x ∈ xs := by
  have hl : (xs.mergeSort fun x y => decide (x ≤ y)).length = xs.length := by simp
  obtain ⟨h1, h2⟩ := compact_rises _ (sorted_le xs) xs.length (by omega)
  refine ⟨h1, fun x => ?_⟩
  unfold rise
  rw [h2, ← hl, List.take_length, List.mem_mergeSort]
theorem rise_eq {xs ys : List Int} (h : ys.Pairwise (· < ·)) (hm : ∀ x, x ∈ ys ↔ x ∈ xs) : ys = rise xs :=
  strict_unique h (rise_spec xs).1 (fun x => by rw [hm, (rise_spec xs).2])
theorem rise_congr {xs ys : List Int} (hm : ∀ x, x ∈ xs ↔ x ∈ ys) : rise xs = rise ys := rise_eq (rise_spec xs).1 (fun x => by rw [(rise_spec xs).2, hm])
theorem rise_length (xs : List Int) : (rise xs).length ≤ xs.length := by
  unfold rise compactUpTo
  rw [List.length_map]
  exact Nat.le_trans (List.length_filter_le _ _) (by simp)
end Go.Proofs.YthaoedfalkebbaaGreat
namespace Go.Proofs.YthaoedfalkebbaaGreat
open Go.RowKit Go.Maps Go.Sort Go.Lib Go.Proofs.YthaoedfalkebbaaGreatW.PrintWords Go.Proofs.YthaoedfalkebbaaGreatW.PrintLast Go.Proofs.YthaoedfalkebbaaGreatW.PrintMore
set_option linter.unusedVariables false
set_option linter.unusedSimpArgs false
set_option linter.unusedSectionVars false
/-- a note of a read -/
structure Rd where
  t : ByteArray
  k : Int
  f : ByteArray
  u : ByteArray
structure Rd.OK (x : Rd) : Prop where
  t : x.t.size ≤ reachBytes
  k : (Lit.int .i64 x.k).wf = true
  f : x.f.size ≤ reachBytes
  u : x.u.size ≤ reachBytes
def mayB (x : Rd) : Bool := if x.k = 3 then x.f.toList.isEmpty && x.u.toList.isEmpty else if x.k = 1 then x.u.toList.isEmpty else if x.k = 2 then x.u.toList.isEmpty || Op.bytesLess x.f.toList x.u.toList else false
theorem gtr_less (a b : List UInt8) : (!Op.bytesLess a b && !a == b) = Op.bytesLess b a := by
  rw [bytesLess_eq, bytesLess_eq, Bool.eq_iff_iff]
  simp only [Bool.and_eq_true, Bool.not_eq_true', decide_eq_false_iff_not, decide_eq_true_eq, beq_eq_false_iff_ne]
  constructor
  · rintro ⟨h1, h2⟩
    rcases Classical.em (b < a) with h3 | h3
    · exact h3
    · exact absurd (List.le_antisymm (List.not_lt.1 h3) (List.not_lt.1 h1)) h2
  · intro h
    refine ⟨fun h2 => List.lt_irrefl _ (List.lt_trans h h2), ?_⟩
    rintro rfl
    exact List.lt_irrefl _ h
theorem add_zero_byte (f : ByteArray) (hf : f.size ≤ reachBytes) (W : World) : (Op.stringOp .add f ⟨#[0]⟩).run Tryz.prog W = .ok (.string (f ++ ⟨#[0]⟩)) W := by
  refine run_string_add_sum W f ⟨#[0]⟩ ?_
  have : reachBytes ≤ 140737488355328 := by decide
  have h2 : (⟨#[0]⟩ : ByteArray).size = 1 := rfl
  omega
set_option maxHeartbeats 1000000 in
set_option maxRecDepth 100000 in
theorem may_calls (x : Rd) (w : World) : Calls Tryz.prog 108 #[.agg #[.string x.t, .int .i64 x.k, .string x.f, .string x.u]] w fun e w' => e = .returned (.bool (mayB x)) ∧ Below w.heap.size w w' := by
  have hB : Below w.heap.size w (w.alloc (.cells #[.string x.t, .int .i64 x.k, .string x.f, .string x.u] 108)) := (Below.refl _ w).alloc (Nat.le_refl _) _
  obtain ⟨t, k, f, u⟩ := x
  dsimp only at hB ⊢
  by_cases h3 : k = 3
  · subst h3
    go_enter Tryz.func108, Tryz.ntmps108
    go_wp2
    all_goals
      go_ret
      exact ⟨by unfold mayB; simp_all [gtr_less], hB⟩
  by_cases h1 : k = 1
  · subst h1
    go_enter Tryz.func108, Tryz.ntmps108
    go_wp2
    all_goals
      go_ret
      exact ⟨by unfold mayB; simp_all [gtr_less], hB⟩
  by_cases h2 : k = 2
  · subst h2
    go_enter Tryz.func108, Tryz.ntmps108
    go_wp2
    all_goals
      go_ret
      exact ⟨by unfold mayB; simp_all [gtr_less], hB⟩
  have e3 : (k == 3) = false := by simpa using h3
  have e1 : (k == 1) = false := by simpa using h1
  have e2 : (k == 2) = false := by simpa using h2
  go_enter Tryz.func108, Tryz.ntmps108
  go_wp2
  go_ret
  exact ⟨by unfold mayB; simp_all [gtr_less], hB⟩
/-- a note's keys, as a range -/
def spn (x : Rd) : ByteArray × ByteArray × Bool := if x.k = 1 then (x.f, x.f ++ ⟨#[0]⟩, true) else if x.k = 2 then (x.f, x.u, !x.u.toList.isEmpty) else (⟨#[]⟩, ⟨#[]⟩, false)
set_option maxHeartbeats 1000000 in
set_option maxRecDepth 100000 in
theorem span_calls (x : Rd) (hx : x.OK) (w : World) : Calls Tryz.prog 152 #[.agg #[.string x.t, .int .i64 x.k, .string x.f, .string x.u]] w fun e w' => e = .returned (.tuple #[.string (spn x).1, .string (spn x).2.1, .bool (spn x).2.2]) ∧ Below w.heap.size w w' := by
  obtain ⟨w1, hw1⟩ : ∃ w1, w1 = w.alloc (.cells #[.string x.t, .int .i64 x.k, .string x.f, .string x.u] 108) := ⟨_, rfl⟩
  have hB : Below w.heap.size w w1 := by rw [hw1]; exact (Below.refl _ w).alloc (Nat.le_refl _) _
  have c1 : w1.cell? ⟨w.heap.size, 1, none⟩ = some (.int .i64 x.k) := by rw [hw1]; simp [go_sem]
  have c2 : w1.cell? ⟨w.heap.size, 2, none⟩ = some (.string x.f) := by rw [hw1]; simp [go_sem]
  have c3 : w1.cell? ⟨w.heap.size, 3, none⟩ = some (.string x.u) := by rw [hw1]; simp [go_sem]
  have hf := hx.f
  have hfs : x.f.size ≤ 9223372036854775806 := Nat.le_trans hf (by decide)
  have hadd : ∀ W, (Op.stringOp .add x.f ⟨#[0]⟩).run Tryz.prog W = .ok (.string (x.f ++ ⟨#[0]⟩)) W := add_zero_byte x.f hf
  clear hx hf
  obtain ⟨t, k, f, u⟩ := x
  dsimp only at hw1 c1 c2 c3 hfs hadd ⊢
  by_cases h1 : k = 1
  · subst h1
    go_enter Tryz.func152, Tryz.ntmps152
    go_upto_region 1 with (fail)
    rw [← hw1]
    clear hw1
    go_wp2_with fail
    go_region_held3 (fun W => W.cell? ⟨w.heap.size, 1, none⟩ = some (.int .i64 1) ∧ W.cell? ⟨w.heap.size, 2, none⟩ = some (.string f) ∧ W.cell? ⟨w.heap.size, 3, none⟩ = some (.string u)) (exact ⟨c1, c2, c3⟩) (fail)
    go_wp2
    exact bodyPost_ret (v := .tuple #[.string f, .string (f ++ ⟨#[0]⟩), .bool true]) (by simp [results, Tryz.results152, go_sem]) rfl ⟨rfl, hB.os, hB.tape, hB.output, hB.size, hB.block⟩
  by_cases h2 : k = 2
  · subst h2
    go_enter Tryz.func152, Tryz.ntmps152
    go_upto_region 1 with (fail)
    rw [← hw1]
    clear hw1
    go_wp2_with fail
    go_region_held3 (fun W => W.cell? ⟨w.heap.size, 1, none⟩ = some (.int .i64 2) ∧ W.cell? ⟨w.heap.size, 2, none⟩ = some (.string f) ∧ W.cell? ⟨w.heap.size, 3, none⟩ = some (.string u)) (exact ⟨c1, c2, c3⟩) (fail)
    go_wp2
    exact bodyPost_ret (v := .tuple #[.string f, .string u, .bool (!u.toList.isEmpty)]) (by simp [results, Tryz.results152, go_sem]) rfl ⟨rfl, hB.os, hB.tape, hB.output, hB.size, hB.block⟩
  have e1 : (k == 1) = false := by simpa using h1
  have e2 : (k == 2) = false := by simpa using h2
  have es : spn ⟨t, k, f, u⟩ = (⟨#[]⟩, ⟨#[]⟩, false) := by simp [spn, h1, h2]
  rw [es]
  go_enter Tryz.func152, Tryz.ntmps152
  go_upto_region 1 with (fail)
  rw [← hw1]
  clear hw1
  go_wp2
  exact bodyPost_ret (v := .tuple #[.string ⟨#[]⟩, .string ⟨#[]⟩, .bool false]) (by simp [results, Tryz.results152, go_sem]) rfl ⟨rfl, hB⟩
end Go.Proofs.YthaoedfalkebbaaGreat
namespace Go.Proofs.YthaoedfalkebbaaGreat
open Go.RowKit Go.Maps Go.Sort Go.Lib Go.Proofs.YthaoedfalkebbaaGreatW.PrintWords Go.Proofs.YthaoedfalkebbaaGreatW.PrintLast Go.Proofs.YthaoedfalkebbaaGreatW.PrintMore
set_option linter.unusedVariables false
set_option linter.unusedSimpArgs false
set_option linter.unusedSectionVars false
theorem leq_less (a b : List UInt8) : (Op.bytesLess a b || a == b) = !Op.bytesLess b a := by
  have h := gtr_less a b
  rw [← h]
  cases Op.bytesLess a b <;> cases (a == b) <;> rfl
theorem leq_iff (a b : List UInt8) : (Op.bytesLess a b = true ∨ a = b) ↔ Op.bytesLess b a = false := by
  have h := leq_less a b
  constructor
  · rintro (h1 | h1)
    · rw [h1] at h; simpa using h.symm
    · subst h1
      simpa using h.symm
  · intro h1
    rw [h1] at h
    simpa using h
/-- of one table: does a cover b? -/
def cov (a b : Rd) : Bool := !Op.bytesLess (spn b).1.toList (spn a).1.toList && (!(spn a).2.2 || ((spn b).2.2 && !Op.bytesLess (spn a).2.1.toList (spn b).2.1.toList))
theorem boxed (w : World) (x : Rd) : Below w.heap.size w (w.alloc (.cells #[.string x.t, .int .i64 x.k, .string x.f, .string x.u] 108)) := (Below.refl _ w).alloc (Nat.le_refl _) _
theorem rd_cells {W : World} {bx : Nat} {x : Rd} (h : W.heap[bx]? = some (.cells #[.string x.t, .int .i64 x.k, .string x.f, .string x.u] 108 (0, 0))) :
    W.cell? ⟨bx, 0, none⟩ = some (.string x.t) ∧ W.cell? ⟨bx, 1, none⟩ = some (.int .i64 x.k) ∧ W.cell? ⟨bx, 2, none⟩ = some (.string x.f) ∧ W.cell? ⟨bx, 3, none⟩ = some (.string x.u) :=
  ⟨cell_of_row W bx 0 _ 108 (0, 0) h, cell_of_row W bx 1 _ 108 (0, 0) h, cell_of_row W bx 2 _ 108 (0, 0) h, cell_of_row W bx 3 _ 108 (0, 0) h⟩
set_option maxHeartbeats 4000000 in
set_option maxRecDepth 100000 in
theorem covers_calls (a b : Rd) (ha : a.OK) (hb : b.OK) (w : World) : Calls Tryz.prog 110 #[.agg #[.string a.t, .int .i64 a.k, .string a.f, .string a.u], .agg #[.string b.t, .int .i64 b.k, .string b.f, .string b.u]] w fun e w' => e = .returned (.bool (cov a b)) ∧ Below w.heap.size w w' := by
  obtain ⟨w2, hw2⟩ : ∃ w2, w2 = (w.alloc (.cells #[.string a.t, .int .i64 a.k, .string a.f, .string a.u] 108)).alloc (.cells #[.string b.t, .int .i64 b.k, .string b.f, .string b.u] 108) := ⟨_, rfl⟩
  have B2 : Below w.heap.size w w2 := by rw [hw2]; exact below_alloc (boxed w a) _
  have oa : w2.heap[w.heap.size]? = some (.cells #[.string a.t, .int .i64 a.k, .string a.f, .string a.u] 108 (0, 0)) := by rw [hw2]; exact (Below.heap_alloc _ _ _ (by simp)).trans (heap_alloc_new w _)
  have ob : w2.heap[w.heap.size + 1]? = some (.cells #[.string b.t, .int .i64 b.k, .string b.f, .string b.u] 108 (0, 0)) := by
    rw [hw2]
    have := heap_alloc_new (w.alloc (.cells #[.string a.t, .int .i64 a.k, .string a.f, .string a.u] 108)) (.cells #[.string b.t, .int .i64 b.k, .string b.f, .string b.u] 108)
    simpa using this
  obtain ⟨a0, a1, a2, a3⟩ := rd_cells oa
  have SA := fun W => span_calls a ha W
  have SB := fun W => span_calls b hb W
  unfold cov
  generalize (spn a).1 = fr at SA ⊢
  generalize (spn a).2.1 = tt at SA ⊢
  generalize (spn a).2.2 = bd at SA ⊢
  generalize (spn b).1 = lo at SB ⊢
  generalize (spn b).2.1 = hi at SB ⊢
  generalize (spn b).2.2 = en at SB ⊢
  go_enter Tryz.func110, Tryz.ntmps110
  go_upto_region 1 with (fail)
  rw [← hw2]
  clear hw2
  go_wp2_with fail
  refine (SA w2).mono ?_
  rintro e w3 ⟨rfl, D3⟩
  have B3 := below_then B2 B2.size D3
  obtain ⟨b0, b1, b2, b3⟩ := rd_cells ((D3.block _ (Array.getElem?_eq_some_iff.1 ob).1).trans ob)
  go_wp2_with fail
  refine (SB w3).mono ?_
  rintro e w4 ⟨rfl, D4⟩
  have B4 := below_then B3 B3.size D4
  clear SA SB oa ob a0 a1 a2 a3 b0 b1 b2 b3 D3 D4 B3 B2 ha hb
  go_wp2
  all_goals
    go_ret
    refine ⟨?_, B4⟩
    clear B4
    simp_all [leq_less, leq_iff]
end Go.Proofs.YthaoedfalkebbaaGreat
namespace Go.Proofs.YthaoedfalkebbaaGreat
open Go.RowKit Go.Maps Go.Sort Go.Lib Go.Proofs.YthaoedfalkebbaaGreatW.PrintWords Go.Proofs.YthaoedfalkebbaaGreatW.PrintLast Go.Proofs.YthaoedfalkebbaaGreatW.PrintMore
set_option linter.unusedVariables false
set_option linter.unusedSimpArgs false
set_option linter.unusedSectionVars false
theorem two_boxes (w : World) (a b : Rd) : ∃ w2, w2 = (w.alloc (.cells #[.string a.t, .int .i64 a.k, .string a.f, .string a.u] 108)).alloc (.cells #[.string b.t, .int .i64 b.k, .string b.f, .string b.u] 108) ∧ Below w.heap.size w w2 ∧
    w2.heap[w.heap.size]? = some (.cells #[.string a.t, .int .i64 a.k, .string a.f, .string a.u] 108 (0, 0)) ∧ w2.heap[w.heap.size + 1]? = some (.cells #[.string b.t, .int .i64 b.k, .string b.f, .string b.u] 108 (0, 0)) := by
  refine ⟨_, rfl, below_alloc (boxed w a) _, (Below.heap_alloc _ _ _ (by simp)).trans (heap_alloc_new w _), ?_⟩
  have := heap_alloc_new (w.alloc (.cells #[.string a.t, .int .i64 a.k, .string a.f, .string a.u] 108)) (.cells #[.string b.t, .int .i64 b.k, .string b.f, .string b.u] 108)
  simpa using this
theorem blk_below {w w' : World} {g : Nat} {o : Obj} (h : w.heap[g]? = some o) (b : Below w.heap.size w w') : w'.heap[g]? = some o := (b.block _ (Array.getElem?_eq_some_iff.1 h).1).trans h
end Go.Proofs.YthaoedfalkebbaaGreat
namespace Go.Proofs.YthaoedfalkebbaaGreat
open Go.RowKit Go.Maps Go.Sort Go.Lib Go.Proofs.YthaoedfalkebbaaGreatW.PrintWords Go.Proofs.YthaoedfalkebbaaGreatW.PrintLast Go.Proofs.YthaoedfalkebbaaGreatW.PrintMore
set_option linter.unusedVariables false
set_option linter.unusedSimpArgs false
set_option linter.unusedSectionVars false
theorem laid : laidOutB Tryz.prog = true := by kernel_rfl
abbrev Pl := Int × ByteArray
def mkP (a : Pl) : Value := .agg #[.int .i64 a.1, .string a.2]
def okP (a : Pl) : Prop := (Lit.int .i64 a.1).wf = true ∧ a.2.size ≤ maxLen
theorem wide62 : (match Tryz.prog.underlying 156 with | some (.array _ _) | some (.struct _) => true | _ => false) = true := by rw [Tryz.underlying156]
theorem keyType62 : Tryz.prog.keyType 156 = true := by kernel_rfl
theorem cells62 : Tryz.prog.cellsOf 156 = 2 := by kernel_rfl
theorem cells9 : Tryz.prog.cellsOf 9 = 1 := by kernel_rfl
theorem cells2 : Tryz.prog.cellsOf 2 = 1 := by kernel_rfl
theorem size_pos : ∃ m, Tryz.prog.types.size = m + 1 := ⟨Tryz.prog.types.size - 1, by
    have : (decide (1 ≤ Tryz.prog.types.size)) = true := by kernel_rfl
    have := of_decide_eq_true this
    omega⟩
def strLit : Value → Option (List Lit)
  | .string s => if s.size ≤ maxLen then some [.string s.data.toList] else none
  | _ => none
def intLit : Value → Option (List Lit)
  | .int q a => if q = .i64 ∧ (Lit.int .i64 a).wf = true then some [.int .i64 a] else none
  | _ => none
theorem keyLits9 (d : Nat) (a : Value) : Tryz.prog.keyLits (d + 1) 9 [a] = strLit a := by
  unfold Program.keyLits
  simp only [Tryz.underlying9]
  cases a <;> rfl
theorem keyLits2 (d : Nat) (a : Value) : Tryz.prog.keyLits (d + 1) 2 [a] = intLit a := by
  unfold Program.keyLits
  simp only [Tryz.underlying2]
  cases a <;> first | rfl | (simp [intLit])
theorem keyLits62 (d : Nat) (a b : Value) : Tryz.prog.keyLits (d + 2) 156 [a, b] = (intLit a).bind fun x => (strLit b).bind fun y => some (x ++ y) := by
  rw [show d + 2 = (d + 1) + 1 from rfl]
  unfold Program.keyLits
  simp only [Tryz.underlying156, cells62, List.length_cons, List.length_nil]
  simp [cells9, cells2, keyLits9, keyLits2]
  cases intLit a <;> cases strLit b <;> simp
theorem key_of (a : Pl) (h : okP a) : ∃ kl, keyOf Tryz.prog 156 (mkP a) = some kl := by
  obtain ⟨m, hm⟩ := size_pos
  have hf : (mkP a).formed Tryz.prog 156 = true := by
    simp [mkP, Value.formed, Tryz.underlying156, cells62]
  unfold keyOf
  simp only [Tryz.underlying156, keyType62, hf, Bool.and_self, if_true, hm]
  have e : (mkP a).cells.toList = [.int .i64 a.1, .string a.2] := rfl
  rw [e, keyLits62]
  simp [strLit, intLit, h.1, h.2]
set_option maxRecDepth 100000 in
theorem of_key (v : Value) (kl : Lit) (h : keyOf Tryz.prog 156 v = some kl) : ∃ a : Pl, okP a ∧ v = mkP a := by
  obtain ⟨m, hm⟩ := size_pos
  obtain ⟨xs, L, rfl, h1, _⟩ := keyOf_top wide62 h
  rw [hm] at h1
  have hl : xs.toList.length = 2 := by
    unfold Program.keyLits at h1
    simp only [Tryz.underlying156, cells62] at h1
    by_cases hh : xs.toList.length = 2
    · exact hh
    · rw [if_neg (fun h => hh h.1)] at h1
      cases h1
  obtain ⟨l⟩ := xs
  match l, hl with
  | [a, b], _ =>
    have h2 : Tryz.prog.keyLits (m + 2) 156 [a, b] = some L := h1
    rw [keyLits62] at h2
    cases ha : intLit a with
    | none => rw [ha] at h2; cases h2
    | some x =>
      cases hb : strLit b with
      | none => rw [ha, hb] at h2; cases h2
      | some y =>
        have st : ∀ (v : Value) (z : List Lit), strLit v = some z → ∃ u : ByteArray, v = .string u ∧ u.size ≤ maxLen := by
          intro v z hz
          cases v <;> try cases hz
          rename_i u
          refine ⟨u, rfl, ?_⟩
          by_cases hu : u.size ≤ maxLen
          · exact hu
          · exfalso
            have : strLit (.string u) = none := if_neg hu
            rw [this] at hz
            cases hz
        have it : ∀ (v : Value) (z : List Lit), intLit v = some z → ∃ u : Int, v = .int .i64 u ∧ (Lit.int .i64 u).wf = true := by
          intro v z hz
          cases v <;> try cases hz
          rename_i q u
          by_cases hu : q = .i64 ∧ (Lit.int .i64 u).wf = true
          · obtain ⟨rfl, hu⟩ := hu
            exact ⟨u, rfl, hu⟩
          · exfalso
            have : intLit (.int q u) = none := if_neg hu
            rw [this] at hz
            cases hz
        obtain ⟨u, rfl, hu⟩ := it a x ha
        obtain ⟨u', rfl, hu'⟩ := st b y hb
        exact ⟨(u, u'), ⟨hu, hu'⟩, rfl⟩
set_option maxRecDepth 100000 in
theorem keyP : KeyAs Tryz.prog 156 mkP okP where
  keyed := Keyed.of_law (deep_law_gate laid (of_decide_eq_true (by kernel_rfl)) (of_decide_eq_true (by kernel_rfl)) keyType62 wide62)
  lit := key_of
  inj := fun a b h => by
    injection h with h
    have h := congrArg Array.toList h
    simp at h
    exact Prod.ext h.1 h.2
  inv := of_key
/-- nil, or a row's block, length, capacity -/
abbrev Sv := Option (Nat × Nat × Nat)
def mvS : Sv → Value
  | none => .slice none 0 0
  | some (g, n, c) => .slice (some ⟨g, 0, none⟩) n c
def cdS : Sv → DataW Unit
  | none => .nil
  | some (g, n, c) => .agg [.lit (.int .i64 g), .lit (.int .i64 n), .lit (.int .i64 c)]
def rS : Value → Option (DataW Unit × List MemPlace)
  | .slice none 0 0 => some (.nil, [])
  | .slice (some ⟨g, 0, none⟩) n c => some (.agg [.lit (.int .i64 g), .lit (.int .i64 n), .lit (.int .i64 c)], [])
  | _ => none
theorem valS : ValAs mvS rS cdS where
  reads := fun b => by
    rcases b with _ | ⟨g, n, c⟩
    · rfl
    · rfl
  inv := fun v y ps h => by
    unfold rS at h
    split at h
    · injection h with h
      injection h with h1 h2
      exact ⟨none, rfl, h1.symm⟩
    · rename_i g n c
      injection h with h
      injection h with h1 h2
      exact ⟨some (g, n, c), rfl, h1.symm⟩
    · cases h
  inj := fun b b' h => by
    rcases b with _ | ⟨g, n, c⟩ <;> rcases b' with _ | ⟨g', n', c'⟩
    · rfl
    · cases h
    · cases h
    · simp [cdS] at h
      obtain ⟨h1, h2, h3⟩ := h
      have e1 : g = g' := by exact_mod_cast h1
      have e2 : n = n' := by exact_mod_cast h2
      have e3 : c = c' := by exact_mod_cast h3
      rw [e1, e2, e3]
abbrev TabN (w : World) (b n : Nat) (L : List (Pl × Sv)) : Prop := Tab Tryz.prog 156 mkP okP rS cdS w b n L
abbrev RngN (w : World) (b r n : Nat) (L rem : List (Pl × Sv)) : Prop := Rng Tryz.prog 156 mkP okP rS cdS w b r n L rem
theorem zero42 (w : World) : (zeroValue 118).run Tryz.prog w = .ok (mvS none) w := Tryz.zeroValue118 w
end Go.Proofs.YthaoedfalkebbaaGreat
namespace Go.Proofs.YthaoedfalkebbaaGreat
open Go.RowKit Go.Maps Go.Sort Go.Lib Go.Proofs.YthaoedfalkebbaaGreatW.PrintWords Go.Proofs.YthaoedfalkebbaaGreatW.PrintLast Go.Proofs.YthaoedfalkebbaaGreatW.PrintMore
set_option linter.unusedVariables false
set_option linter.unusedSimpArgs false
set_option linter.unusedSectionVars false
def cellsR (x : Rd) : List Value := [.string x.t, .int .i64 x.k, .string x.f, .string x.u]
/-- a manager: the most, its map, how many notes; the notes of each place -/
structure Mr (w : World) (base p b : Nat) (most many : Int) (L : List (Pl × Sv)) (R : Pl → List Rd) : Prop where
  cells : w.heap[p]? = some (.cells #[.int .i64 most, .map (some b), .int .i64 many] 150 (0, 0))
  tab : TabN w b L.length L
  low : base ≤ p
  rows : ∀ e ∈ L, Lo cellsR 4 108 w base (mvS e.2) (R e.1)
  off : ∀ t, got L t = none → R t = []
  good : ∀ e ∈ L, ∀ x ∈ R e.1, x.OK
theorem Mr.cell {w : World} {base p b : Nat} {most many : Int} {L : List (Pl × Sv)} {R : Pl → List Rd} (h : Mr w base p b most many L R) :
    w.cell? ⟨p, 0, none⟩ = some (.int .i64 most) ∧ w.cell? ⟨p, 1, none⟩ = some (.map (some b)) ∧ w.cell? ⟨p, 2, none⟩ = some (.int .i64 many) :=
  ⟨cell_of_row w p 0 _ 150 (0, 0) h.cells, cell_of_row w p 1 _ 150 (0, 0) h.cells, cell_of_row w p 2 _ 150 (0, 0) h.cells⟩
theorem eqm53 (b : Nat) (w : World) : (binOp .eql 148 (.map (some b)) (.map none)).run Tryz.prog w = .ok (.bool false) w := by kernel_rfl
set_option maxRecDepth 100000 in
theorem none_calls (p b : Nat) (w : World) (h : w.cell? ⟨p, 1, none⟩ = some (.map (some b))) : Calls Tryz.prog 87 #[.pointer (some ⟨p, 0, none⟩)] w fun e w' => e = .returned (.bool false) ∧ w = w' := by
  have eq := eqm53 b
  go_enter Tryz.func87, Tryz.ntmps87
  go_wp2
  go_ret
  exact ⟨rfl, rfl⟩
set_option maxRecDepth 100000 in
theorem New_bad (most : Int) (w : World) (h : most < 1 ∨ 65536 < most) : Calls Tryz.prog 37 #[.int .i64 most] w fun e w' => e = .returned (.tuple #[.pointer none, .int .i64 1]) ∧ w = w' := by
  by_cases h1 : most < 1
  · go_enter Tryz.func37, Tryz.ntmps37
    go_wp2
    go_ret2
    exact ⟨rfl, rfl⟩
  · have h2 : 65536 < most := by omega
    go_enter Tryz.func37, Tryz.ntmps37
    go_wp2
    go_ret2
    exact ⟨rfl, rfl⟩
set_option maxRecDepth 100000 in
theorem New_calls (most : Int) (base : Nat) (w : World) (hb : base ≤ w.heap.size) (h1 : 1 ≤ most) (h2 : most ≤ 65536) : Calls Tryz.prog 37 #[.int .i64 most] w fun e w' => e = .returned (.tuple #[.pointer (some ⟨w.heap.size + 1, 0, none⟩), .int .i64 0]) ∧ Mr w' base (w.heap.size + 1) w.heap.size most 0 [] (fun _ => []) ∧ Below w.heap.size w w' := by
  have hmm := @run_makeMap Tryz.prog
  go_enter Tryz.func37, Tryz.ntmps37
  go_wp2
  go_ret2
  refine ⟨rfl, ⟨?_, (Tab.made w).kept (World.grownBy_alloc _ _ none) (by simp), by omega, by simp, fun _ _ => rfl, by simp⟩, ((Below.refl _ w).alloc (Nat.le_refl _) _).alloc (by simp) _⟩
  have := heap_alloc_new (w.alloc (.map #[] 0)) (.cells #[.int .i64 most, .map (some w.heap.size), .int .i64 0] 150)
  simpa using this
def holdB (y : Rd) (key : ByteArray) : Bool :=
  if y.k = 1 then y.f.toList == key.toList
  else if y.k = 2 then !Op.bytesLess key.toList y.f.toList && (y.u.toList == [] || Op.bytesLess key.toList y.u.toList)
  else true
end Go.Proofs.YthaoedfalkebbaaGreat
namespace Go.Proofs.YthaoedfalkebbaaGreat
open Go.RowKit Go.Maps Go.Sort Go.Lib Go.Proofs.YthaoedfalkebbaaGreatW.PrintWords Go.Proofs.YthaoedfalkebbaaGreatW.PrintLast Go.Proofs.YthaoedfalkebbaaGreatW.PrintMore
set_option linter.unusedVariables false
set_option linter.unusedSimpArgs false
set_option linter.unusedSectionVars false
abbrev mkR (x : Rd) : Value := .agg #[.string x.t, .int .i64 x.k, .string x.f, .string x.u]
abbrev RowR (w : World) (base : Nat) (v : Value) (xs : List Rd) : Prop := Lo cellsR 4 108 w base v xs
theorem RowR.at {w : World} {base g n c : Nat} {xs : List Rd} (h : RowR w base (.slice (some ⟨g, 0, none⟩) n c) xs) (j : Nat) (x : Rd) (hj : xs[j]? = some x) :
    w.cell? ⟨g, j * 4, none⟩ = some (.string x.t) ∧ w.cell? ⟨g, j * 4 + 1, none⟩ = some (.int .i64 x.k) ∧ w.cell? ⟨g, j * 4 + 2, none⟩ = some (.string x.f) ∧ w.cell? ⟨g, j * 4 + 3, none⟩ = some (.string x.u) := by
  have H := h.cell (fun _ => rfl) rfl j x hj
  exact ⟨by simpa using H 0 _ rfl, H 1 _ rfl, H 2 _ rfl, H 3 _ rfl⟩
/-- a predicate's closure -/
def Preds (w : World) (g : Nat) (lb : Array Value) (p : Rd → Bool) (xs : List Rd) : Prop :=
  ∀ (W : World) (x : Rd), x ∈ xs → Below w.heap.size w W → Calls Tryz.prog g (#[mkR x] ++ lb) W fun e w' => e = .returned (.bool (p x)) ∧ Below W.heap.size W w'
def idxP (p : Rd → Bool) (xs : List Rd) : Int := if xs.findIdx p < xs.length then xs.findIdx p else -1
theorem idx_hit {p : Rd → Bool} {xs : List Rd} {j : Nat} (hj : j < xs.length) (h : p xs[j] = true) (hn : ∀ i (hi : i < xs.length), i < j → p xs[i] = false) : xs.findIdx p = j := by
  rw [List.findIdx_eq hj]
  exact ⟨h, fun i hi => hn i (by omega) hi⟩
theorem idx_none {p : Rd → Bool} {xs : List Rd} (h : ∀ i (hi : i < xs.length), p xs[i] = false) : xs.findIdx p = xs.length := by
  rw [List.findIdx_eq_length]
  intro x hx
  obtain ⟨i, hi, rfl⟩ := List.getElem_of_mem hx
  exact h i hi
set_option maxHeartbeats 4000000 in
set_option maxRecDepth 100000 in
theorem IndexFunc_calls (base : Nat) (v : Value) (xs : List Rd) (p : Rd → Bool) (g : Nat) (lb : Array Value) (eg : ∀ args w, (callFunc g args).run Tryz.prog w = .ok (.enter g args) w) (w : World) (h : RowR w base v xs) (hl : xs.length ≤ 9223372036854775806) (hp : Preds w g lb p xs) :
    Calls Tryz.prog 135 #[v, .func (.func g) #[] lb] w fun e w' => e = .returned (.int .i64 (idxP p xs)) ∧ Below w.heap.size w w' := by
  obtain ⟨A, c, rfl, hlc, hA⟩ := h.slice
  go_enter Tryz.func135, Tryz.ntmps135
  go_wp2_with fail
  go_loopw [5, 8] (fun _ iv wr => ∃ j : Nat, j ≤ xs.length ∧ iv = .int .i64 j ∧ RowR wr base (.slice A xs.length c) xs ∧ Below w.heap.size w wr ∧ (∀ i (hi : i < xs.length), i < j → p xs[i] = false)) (fun _ iv _ => xs.length - (intOf iv).toNat)
  case atStart => exact ⟨0, Nat.zero_le _, rfl, h, Below.refl _ _, fun i _ hi => by omega⟩
  case round =>
    clear h
    obtain ⟨j, hj, rfl, h, hb, hn⟩ := hrel
    by_cases hjl : j < xs.length
    · obtain ⟨k, rfl, _⟩ := hA (by omega)
      obtain ⟨y0, y1, y2, y3⟩ := RowR.at h j xs[j] (List.getElem?_eq_getElem hjl)
      have hcall := hp wr xs[j] (List.getElem_mem hjl) hb
      have hx := idx_hit (p := p) hjl
      generalize hy : xs[j] = x at y0 y1 y2 y3 hcall hx
      replace hy := Aside0.mk hy
      replace hn := Aside0.mk hn
      replace h := Aside0.mk h
      cases hq : p x with
      | true =>
        rw [hq] at hcall
        go_wp2_with (go_at_fn g; refine hcall.mono ?_; rintro e w' ⟨rfl, hb'⟩)
        go_ret
        have := hx hq hn.out
        exact ⟨by rw [idxP, this, if_pos hjl]; rfl, below_then hb hb.size hb'⟩
      | false =>
        rw [hq] at hcall
        go_wp2_with (go_at_fn g; refine hcall.mono ?_; rintro e w' ⟨rfl, hb'⟩)
        go_roundw
        case rel =>
          refine ⟨j + 1, by omega, by go_num, h.out.grown (grown_of_below hb' none) (by simp), below_then hb hb.size hb', fun i hi hij => ?_⟩
          rcases Nat.lt_or_ge i j with h1 | h1
          · exact hn.out i hi h1
          · obtain rfl : i = j := by omega
            rw [hy.out]; exact hq
        case measure => simp [intOf]; omega
    · obtain rfl : j = xs.length := by omega
      have := idx_none (p := p) (xs := xs) fun i hi => hn i hi hi
      go_wp2
      go_ret
      exact ⟨by rw [idxP, this, if_neg (by omega)]; rfl, hb⟩
theorem idx_any (p : Rd → Bool) (xs : List Rd) : decide (0 ≤ idxP p xs) = xs.any p := by
  unfold idxP
  cases h : xs.any p with
  | true =>
    rw [if_pos (List.findIdx_lt_length.2 (by simpa using h))]
    simp
  | false =>
    rw [if_neg (by
      rw [List.findIdx_lt_length]
      rintro ⟨x, hx, h2⟩
      have : xs.any p = true := List.any_eq_true.2 ⟨x, hx, h2⟩
      rw [h] at this; cases this)]
    simp
set_option maxHeartbeats 4000000 in
set_option maxRecDepth 100000 in
theorem ContainsFunc_calls (base : Nat) (v : Value) (xs : List Rd) (p : Rd → Bool) (g : Nat) (lb : Array Value) (eg : ∀ args w, (callFunc g args).run Tryz.prog w = .ok (.enter g args) w) (w : World) (h : RowR w base v xs) (hl : xs.length ≤ 9223372036854775806) (hp : Preds w g lb p xs) :
    Calls Tryz.prog 88 #[v, .func (.func g) #[] lb] w fun e w' => e = .returned (.bool (xs.any p)) ∧ Below w.heap.size w w' := by
  have C := IndexFunc_calls base v xs p g lb eg w h hl hp
  rw [← idx_any]
  clear h hp eg
  generalize idxP p xs = i at C ⊢
  go_enter Tryz.func88, Tryz.ntmps88
  go_wp2_with (go_at_call 135; refine C.mono ?_; rintro e w' ⟨rfl, hb⟩)
  go_ret
  exact ⟨rfl, hb⟩
end Go.Proofs.YthaoedfalkebbaaGreat
namespace Go.Proofs.YthaoedfalkebbaaGreat
open Go.RowKit Go.Maps Go.Sort Go.Lib Go.Proofs.YthaoedfalkebbaaGreatW.PrintWords Go.Proofs.YthaoedfalkebbaaGreatW.PrintLast Go.Proofs.YthaoedfalkebbaaGreatW.PrintMore
set_option linter.unusedVariables false
set_option linter.unusedSimpArgs false
set_option linter.unusedSectionVars false
abbrev boxR (x : Rd) : Obj := .cells #[.string x.t, .int .i64 x.k, .string x.f, .string x.u] 108 (0, 0)
theorem enters29 : ∀ args w, (callFunc 109 args).run Tryz.prog w = .ok (.enter 109 args) w := enters_of Tryz.func109 (by kernel_rfl) rfl
theorem enters32 : ∀ args w, (callFunc 113 args).run Tryz.prog w = .ok (.enter 113 args) w := enters_of Tryz.func113 (by kernel_rfl) rfl
theorem enters35 : ∀ args w, (callFunc 89 args).run Tryz.prog w = .ok (.enter 89 args) w := enters_of Tryz.func89 (by kernel_rfl) rfl
/-- a closure that holds one pointer to a block -/
def PredB (bx : Nat) (o : Obj) (g : Nat) (p : Rd → Bool) (xs : List Rd) : Prop :=
  ∀ (W : World) (x : Rd), x ∈ xs → W.heap[bx]? = some o → Calls Tryz.prog g #[mkR x, .pointer (some ⟨bx, 0, none⟩)] W fun e w' => e = .returned (.bool (p x)) ∧ Below W.heap.size W w'
theorem PredB.preds {bx : Nat} {o : Obj} {g : Nat} {p : Rd → Bool} {xs : List Rd} (H : PredB bx o g p xs) {w : World} (h : w.heap[bx]? = some o) : Preds w g #[.pointer (some ⟨bx, 0, none⟩)] p xs :=
  fun W x hx hb => H W x hx ((hb.block bx (Array.getElem?_eq_some_iff.1 h).1).trans h)
set_option maxHeartbeats 4000000 in
set_option maxRecDepth 100000 in
theorem pred29 (x : Rd) (bx : Nat) (xs : List Rd) (hx : x.OK) (hxs : ∀ y ∈ xs, y.OK) : PredB bx (boxR x) 109 (fun y => cov y x) xs := by
  intro W y hy h
  obtain ⟨w1, hw1⟩ : ∃ w1, w1 = W.alloc (.cells #[.string y.t, .int .i64 y.k, .string y.f, .string y.u] 108) := ⟨_, rfl⟩
  have B1 : Below W.heap.size W w1 := by rw [hw1]; exact boxed W y
  have oy : w1.heap[W.heap.size]? = some (boxR y) := by rw [hw1]; exact heap_alloc_new W _
  have ox := (B1.block bx (Array.getElem?_eq_some_iff.1 h).1).trans h
  obtain ⟨y0, y1, y2, y3⟩ := rd_cells oy
  obtain ⟨x0, x1, x2, x3⟩ := rd_cells ox
  have C := covers_calls y x (hxs y hy) hx w1
  show Calls Tryz.prog 109 #[.agg #[.string y.t, .int .i64 y.k, .string y.f, .string y.u], .pointer (some ⟨bx, 0, none⟩)] W fun e w' => e = .returned (.bool (cov y x)) ∧ Below W.heap.size W w'
  generalize cov y x = r at C ⊢
  clear oy ox hxs hx h
  go_enter Tryz.func109, Tryz.ntmps109
  go_upto_region 1 with (fail)
  rw [← hw1]
  clear hw1
  go_wp2_with fail
  refine C.mono ?_
  rintro e w3 ⟨rfl, D3⟩
  go_wp2
  go_ret
  exact ⟨rfl, below_then B1 B1.size D3⟩
set_option maxHeartbeats 4000000 in
set_option maxRecDepth 100000 in
theorem pred32 (x : Rd) (bx : Nat) (xs : List Rd) (hx : x.OK) (hxs : ∀ y ∈ xs, y.OK) : PredB bx (boxR x) 113 (fun y => cov x y) xs := by
  intro W y hy h
  obtain ⟨w1, hw1⟩ : ∃ w1, w1 = W.alloc (.cells #[.string y.t, .int .i64 y.k, .string y.f, .string y.u] 108) := ⟨_, rfl⟩
  have B1 : Below W.heap.size W w1 := by rw [hw1]; exact boxed W y
  have oy : w1.heap[W.heap.size]? = some (boxR y) := by rw [hw1]; exact heap_alloc_new W _
  have ox := (B1.block bx (Array.getElem?_eq_some_iff.1 h).1).trans h
  obtain ⟨y0, y1, y2, y3⟩ := rd_cells oy
  obtain ⟨x0, x1, x2, x3⟩ := rd_cells ox
  have C := covers_calls x y hx (hxs y hy) w1
  show Calls Tryz.prog 113 #[.agg #[.string y.t, .int .i64 y.k, .string y.f, .string y.u], .pointer (some ⟨bx, 0, none⟩)] W fun e w' => e = .returned (.bool (cov x y)) ∧ Below W.heap.size W w'
  generalize cov x y = r at C ⊢
  clear oy ox hxs hx h
  go_enter Tryz.func113, Tryz.ntmps113
  go_upto_region 1 with (fail)
  rw [← hw1]
  clear hw1
  go_wp2_with fail
  refine C.mono ?_
  rintro e w3 ⟨rfl, D3⟩
  go_wp2
  go_ret
  exact ⟨rfl, below_then B1 B1.size D3⟩
set_option maxHeartbeats 4000000 in
set_option maxRecDepth 100000 in
theorem holds_calls (y : Rd) (key : ByteArray) (W : World) : Calls Tryz.prog 90 #[.agg #[.string y.t, .int .i64 y.k, .string y.f, .string y.u], .string key] W fun e w' => e = .returned (.bool (holdB y key)) ∧ Below W.heap.size W w' := by
  have B1 := fun o => (Below.refl _ W).alloc (Nat.le_refl _) o
  unfold holdB
  by_cases k1 : y.k = 1
  · rw [if_pos k1]
    go_enter Tryz.func90, Tryz.ntmps90
    go_wp2
    all_goals
      go_ret
      exact ⟨by simp_all, B1 _⟩
  by_cases k2 : y.k = 2
  · rw [if_neg k1, if_pos k2]
    have hl := leq_less y.f.toList key.toList
    go_enter Tryz.func90, Tryz.ntmps90
    go_wp2
    all_goals
      go_ret
      refine ⟨?_, B1 _⟩
      clear B1
      simp_all [leq_less, leq_iff]
  · rw [if_neg k1, if_neg k2]
    go_enter Tryz.func90, Tryz.ntmps90
    go_wp2
    go_ret
    exact ⟨rfl, B1 _⟩
set_option maxHeartbeats 4000000 in
set_option maxRecDepth 100000 in
theorem pred35 (x : Rd) (bx : Nat) (xs : List Rd) : PredB bx (boxR x) 89 (fun y => holdB y x.f) xs := by
  intro W y hy h
  obtain ⟨w1, hw1⟩ : ∃ w1, w1 = W.alloc (.cells #[.string y.t, .int .i64 y.k, .string y.f, .string y.u] 108) := ⟨_, rfl⟩
  have B1 : Below W.heap.size W w1 := by rw [hw1]; exact boxed W y
  have oy : w1.heap[W.heap.size]? = some (boxR y) := by rw [hw1]; exact heap_alloc_new W _
  have ox := (B1.block bx (Array.getElem?_eq_some_iff.1 h).1).trans h
  obtain ⟨y0, y1, y2, y3⟩ := rd_cells oy
  obtain ⟨x0, x1, x2, x3⟩ := rd_cells ox
  have C := holds_calls y x.f w1
  show Calls Tryz.prog 89 #[.agg #[.string y.t, .int .i64 y.k, .string y.f, .string y.u], .pointer (some ⟨bx, 0, none⟩)] W fun e w' => e = .returned (.bool (holdB y x.f)) ∧ Below W.heap.size W w'
  generalize holdB y x.f = r at C ⊢
  clear oy ox h
  go_enter Tryz.func89, Tryz.ntmps89
  go_upto_region 1 with (fail)
  rw [← hw1]
  clear hw1
  go_wp2_with fail
  refine C.mono ?_
  rintro e w3 ⟨rfl, D3⟩
  go_wp2
  go_ret
  exact ⟨rfl, below_then B1 B1.size D3⟩
end Go.Proofs.YthaoedfalkebbaaGreat
