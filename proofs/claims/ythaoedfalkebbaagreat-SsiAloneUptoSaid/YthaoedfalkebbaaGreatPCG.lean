/- Cut by a program out of the seat's texts (QA QB QC QD QF QG QH QI QSh QJ QK QM QN QQ YA YB): what the theorem needs, one behind the other. -/
import Derived.Test.YthaoedfalkebbaaGreatPCA
import Derived.Test.YthaoedfalkebbaaGreatPCC
import Derived.Test.YthaoedfalkebbaaGreatPCE
import Derived.Test.YthaoedfalkebbaaGreatPCF
import Derived.WalkLawsBesides
import Derived.Maps.OwnSet
import Derived.Maps.RangeWalk
import Derived.Maps.Ext
import Derived.DeepKeys5
import Derived.Test.YthaoedfalkebbaaGreatProg
import Derived.Sort.Grow
import Derived.Sort.Walk0
import Derived.Sort.Statements
import Derived.Deep.Slices
import Derived.SizedLaws
import Derived.OpenShut
import Derived.ProofKit
import Derived.Shelf.SlGeneric
import Derived.Shelf.SlSortCmp.NoneTotal
import Derived.Ground.SlsfProg
import Derived.Laws.StructEq
import Derived.IntWalk
import Derived.Shelf.SortM.Plain
import Derived.Shelf.SortM.SortNone
import Derived.Shelf.SlicesE.Clone
import Derived.Shelf.SlicesE.Compact
import Derived.Shelf.SlMaps.Clone
import Derived.Ground.SlgnProg
import Derived.Ground.SlgmProg
import Derived.Ground.SlmcProg
namespace Go.Proofs.YthaoedfalkebbaaGreat.Lck
open Go.RowKit Go.Maps Go.Proofs.YthaoedfalkebbaaGreatW.PrintWords Go.Proofs.YthaoedfalkebbaaGreatW.PrintLast Go.Proofs.YthaoedfalkebbaaGreatW.PrintMore
set_option linter.unusedVariables false
set_option linter.unusedSimpArgs false
set_option linter.unusedSectionVars false
section
variable {P : Program} {α : Type} {k e t : TypeId} {q : IntKind} {mk : α → Value} {ok : α → Prop}
structure KeyAs (P : Program) (k : TypeId) (mk : α → Value) (ok : α → Prop) : Prop where
  keyed : Keyed P k
  lit : ∀ a, ok a → ∃ kl, keyOf P k (mk a) = some kl
  inj : ∀ a b, mk a = mk b → a = b
  inv : ∀ v kl, keyOf P k v = some kl → ∃ a, ok a ∧ v = mk a
/-- the datum D has just the entries L -/
structure Shows (P : Program) (k : TypeId) (q : IntKind) (mk : α → Value) (ok : α → Prop) (D : DataW Unit) (L : List (α × Int)) : Prop where
  size : Maps.size D = L.length
  apart : L.Pairwise (fun p p' => p.1 ≠ p'.1)
  good : ∀ p ∈ L, ok p.1
  has : ∀ a kl, keyOf P k (mk a) = some kl → (Maps.has D kl = true ↔ ∃ v, (a, v) ∈ L)
  at_ : ∀ p ∈ L, ∀ kl z, keyOf P k (mk p.1) = some kl → D.atKey kl z = .lit (.int q p.2)
/-- block b is a map with the entries L -/
def Tab (P : Program) (k e : TypeId) (q : IntKind) (mk : α → Value) (ok : α → Prop) (w : World) (b n : Nat) (L : List (α × Int)) : Prop :=
  ∃ D : DataW Unit, w.ownsMap P k (plainElem P e) b n D ∧ Shows P k q mk ok D L
theorem same_key (K : KeyAs P k mk ok) {a a' : α} {kl kl' : Lit} (h : keyOf P k (mk a) = some kl) (h' : keyOf P k (mk a') = some kl') : kl = kl' ↔ a = a' :=
  ⟨fun e => by subst e; exact K.inj _ _ (K.keyed.inj h h'), fun e => by subst e; rw [h] at h'; exact Option.some.inj h'⟩
theorem Tab.made (w : World) : Tab P k e q mk ok (w.alloc (.map #[] 0)) w.heap.size 0 [] :=
  ⟨_, World.ownsMap_made w P k _, ⟨rfl, List.Pairwise.nil, by simp, fun a kl _ => by simp [Maps.has], by simp⟩⟩
theorem Tab.kept {w w' : World} {b n : Nat} {L : List (α × Int)} {row : Option Nat} (h : Tab P k e q mk ok w b n L) (hg : w.grownBy w' row) (hne : some b ≠ row) : Tab P k e q mk ok w' b n L := by
  obtain ⟨D, h1, h2⟩ := h
  exact ⟨D, h1.kept hg hne, h2⟩
theorem Tab.lt {w : World} {b n : Nat} {L : List (α × Int)} (h : Tab P k e q mk ok w b n L) : b < w.heap.size := by
  obtain ⟨D, h1, _⟩ := h
  exact h1.lt
theorem Tab.tidy {w : World} {b n : Nat} {L : List (α × Int)} (h : Tab P k e q mk ok w b n L) : L.Pairwise (fun p p' => p.1 ≠ p'.1) := by
  obtain ⟨D, _, h2⟩ := h
  exact h2.apart
variable [DecidableEq α]
/-- what a look-up finds -/
def got (L : List (α × Int)) (a : α) : Option Int := (L.find? (fun p => p.1 = a)).map (·.2)
theorem got_mem {L : List (α × Int)} {a : α} {v : Int} (h : got L a = some v) : (a, v) ∈ L := by
  unfold got at h
  cases hf : L.find? (fun p => decide (p.1 = a)) with
  | none => rw [hf] at h; cases h
  | some p =>
    rw [hf] at h
    simp at h
    have h1 := List.find?_some hf
    have h2 := List.mem_of_find?_eq_some hf
    simp at h1
    obtain ⟨x, y⟩ := p
    simp at h h1
    subst h h1
    exact h2
theorem got_none {L : List (α × Int)} {a : α} (h : got L a = none) (v : Int) : (a, v) ∉ L := by
  unfold got at h
  simp only [Option.map_eq_none_iff, List.find?_eq_none] at h
  intro hm
  have := h _ hm
  simp at this
theorem mem_got {a : α} {v : Int} : ∀ {L : List (α × Int)}, L.Pairwise (fun p p' => p.1 ≠ p'.1) → (a, v) ∈ L → got L a = some v
  | p :: M, hL, h => by
    rw [List.pairwise_cons] at hL
    by_cases e : p.1 = a
    · rcases List.mem_cons.1 h with h | h
      · subst h; simp [got]
      · exact absurd e (hL.1 _ h)
    · have : got (p :: M) a = got M a := by simp [got, e]
      rw [this]
      rcases List.mem_cons.1 h with h | h
      · subst h; exact absurd rfl e
      · exact mem_got hL.2 h
theorem Shows.hit {D : DataW Unit} {L : List (α × Int)} (h : Shows P k q mk ok D L) {a : α} {kl : Lit} (hk : keyOf P k (mk a) = some kl) :
    (Maps.has D kl = (got L a).isSome) ∧ D.atKey kl (.lit (.int q 0)) = .lit (.int q ((got L a).getD 0)) := by
  cases hg : got L a with
  | none =>
    have hn : Maps.has D kl = false := by
      cases hh : Maps.has D kl with
      | false => rfl
      | true => obtain ⟨v, hv⟩ := (h.has a kl hk).1 hh; exact absurd hv (got_none hg v)
    exact ⟨by rw [hn]; rfl, by rw [atKey_of_not_has hn]; rfl⟩
  | some v =>
    have hm := got_mem hg
    exact ⟨by rw [(h.has a kl hk).2 ⟨v, hm⟩]; rfl, h.at_ _ hm kl _ hk⟩
theorem Shows.put (K : KeyAs P k mk ok) {D : DataW Unit} {L : List (α × Int)} (h : Shows P k q mk ok D L) (ht : Tidy D) {a : α} {v : Int} {kl : Lit} (ha : ok a) (hk : keyOf P k (mk a) = some kl) (hn : got L a = none) :
    Shows P k q mk ok (D.put kl (.lit (.int q v))) (L ++ [(a, v)]) := by
  have hkl := K.keyed.key hk
  have hno : Maps.has D kl = false := by rw [(h.hit hk).1, hn]; rfl
  refine ⟨?_, ?_, ?_, ?_, ?_⟩
  · rw [size_put ht, hno, h.size]; simp
  · rw [List.pairwise_append]
    refine ⟨h.apart, List.pairwise_singleton _ _, ?_⟩
    intro p hp p' hp' e
    rw [List.mem_singleton.1 hp'] at e
    obtain ⟨x, y⟩ := p
    simp at e
    subst e
    exact got_none hn _ hp
  · intro p hp
    rcases List.mem_append.1 hp with hp | hp
    · exact h.good p hp
    · rw [List.mem_singleton.1 hp]; exact ha
  · intro b kb hb
    by_cases e : b = a
    · subst e
      have : kb = kl := (same_key K hb hk).2 rfl
      subst this
      rw [has_put_same ht.isMap hkl]
      simp
    · have hne : kb ≠ kl := fun e' => e ((same_key K hb hk).1 e')
      rw [has_put_other hne, h.has b kb hb]
      simp [e]
  · intro p hp kb z hb
    rcases List.mem_append.1 hp with hp1 | hp1
    · have hne : kb ≠ kl := fun e' => by
        have := (same_key K hb hk).1 e'
        obtain ⟨x, y⟩ := p
        simp at this
        subst this
        exact got_none hn _ hp1
      rw [atKey_put_other hne]
      exact h.at_ p hp1 kb z hb
    · rw [List.mem_singleton.1 hp1] at hb ⊢
      have : kb = kl := (same_key K hb hk).2 rfl
      subst this
      rw [atKey_put_same ht.isMap hkl]
theorem Shows.del (K : KeyAs P k mk ok) {D : DataW Unit} {L : List (α × Int)} (h : Shows P k q mk ok D L) (ht : Tidy D) {a : α} {kl : Lit} (hk : keyOf P k (mk a) = some kl) :
    Shows P k q mk ok (D.del kl) (L.filter (fun p => p.1 ≠ a)) := by
  refine ⟨?_, h.apart.filter _, fun p hp => h.good p (List.mem_filter.1 hp).1, ?_, ?_⟩
  · have hs := size_del (k := kl) ht
    rw [h.size, (h.hit hk).1] at hs
    have hl : ∀ M : List (α × Int), M.Pairwise (fun p p' => p.1 ≠ p'.1) → (M.filter (fun p => p.1 ≠ a)).length + (if (got M a).isSome = true then 1 else 0) = M.length := by
      intro M
      induction M with
      | nil => intro _; simp [got]
      | cons p M ih =>
        intro hM
        rw [List.pairwise_cons] at hM
        have hi := ih hM.2
        by_cases e : p.1 = a
        · have hg : got M a = none := by
            cases hg : got M a with
            | none => rfl
            | some u => exact absurd e (hM.1 _ (got_mem hg))
          rw [hg] at hi
          simp [got, e] at hi ⊢
          omega
        · have : got (p :: M) a = got M a := by simp [got, e]
          rw [this]
          simp only [List.filter_cons, ne_eq, e, not_false_eq_true, decide_true, if_true, List.length_cons]
          simp only [ne_eq] at hi
          omega
    have := hl L h.apart
    omega
  · intro b kb hb
    by_cases e : b = a
    · subst e
      have : kb = kl := (same_key K hb hk).2 rfl
      subst this
      rw [has_del_same]
      simp
    · have hne : kb ≠ kl := fun e' => e ((same_key K hb hk).1 e')
      rw [has_del_other hne, h.has b kb hb]
      simp [e]
  · intro p hp kb z hb
    have hp' := List.mem_filter.1 hp
    have hne : kb ≠ kl := fun e' => by
      have := (same_key K hb hk).1 e'
      simp [this] at hp'
    rw [atKey_del_other hne]
    exact h.at_ p hp'.1 kb z hb
theorem Tab.look (K : KeyAs P k mk ok) (ht : P.underlying t = some (.map k e)) (he : P.underlying e = some (.int q)) {w : World} {b n : Nat} {L : List (α × Int)} (h : Tab P k e q mk ok w b n L) (hz : (zeroValue e).run P w = .ok (.int q 0) w) {a : α} (ha : ok a) :
    (Instr.lookup t (.map (some b)) (mk a) true).run P w = .ok (.tuple #[.int q ((got L a).getD 0), .bool (got L a).isSome]) w := by
  obtain ⟨D, h1, h2⟩ := h
  obtain ⟨kl, hk⟩ := K.lit a ha
  obtain ⟨v, ps, hrun, hv⟩ := h1.look_ok (zd := .lit (.int q 0)) (zp := []) K.keyed ht hz (plainElem_int he (by cases q <;> decide)) hk
  obtain ⟨c, rfl, hc, _⟩ := plainElem_int_inv he hv
  have hh := h2.hit hk
  have hc' : D.atKey kl (.lit (.int q 0)) = .lit (.int q c) := congrArg Prod.fst hc
  rw [hh.2] at hc'
  injection hc' with hc'
  injection hc' with _ hc'
  rw [hrun, hh.1, ← hc']
theorem Tab.len (ht : P.underlying t = some (.map k e)) {w : World} {b n : Nat} {L : List (α × Int)} (h : Tab P k e q mk ok w b n L) (ty : TypeId) : (Builtin.len_ #[t] ty #[.map (some b)]).run P w = .ok (.int .i64 (L.length : Int)) w := by
  obtain ⟨D, h1, h2⟩ := h
  rw [h1.len ht ty, h2.size]
theorem Tab.exact {w : World} {b n : Nat} {L : List (α × Int)} (h : Tab P k e q mk ok w b n L) : Tab P k e q mk ok w b L.length L := by
  obtain ⟨D, ⟨es, clock, hb, F, hs, rfl⟩, h2⟩ := h
  refine ⟨_, ⟨es, clock, hb, F, ?_, rfl⟩, h2⟩
  have := h2.size
  simp [Maps.size, length_sorted] at this
  omega
theorem Tab.store (K : KeyAs P k mk ok) (ht : P.underlying t = some (.map k e)) (he : P.underlying e = some (.int q)) {w : World} {b n : Nat} {L : List (α × Int)} (h : Tab P k e q mk ok w b n L) (hn : n < maxLen) {a : α} (ha : ok a) {v : Int} (hv : (Lit.int q v).wf = true) (hg : got L a = none) :
    ∃ w', (Instr.mapUpdate t (.map (some b)) (mk a) (.int q v)).run P w = .ok () w' ∧ Tab P k e q mk ok w' b (n + 1) (L ++ [(a, v)]) ∧ w.mapTurned w' b := by
  obtain ⟨D, h1, h2⟩ := h
  obtain ⟨kl, hk⟩ := K.lit a ha
  obtain ⟨w', hrun, h3, h4⟩ := h1.store K.keyed ht hn hk (plainElem_int he hv)
  exact ⟨w', hrun, ⟨_, h3, h2.put K (h1.tidy K.keyed) ha hk hg⟩, h4⟩
theorem Tab.drop (K : KeyAs P k mk ok) (ht : P.underlying t = some (.map k e)) {w : World} {b n : Nat} {L : List (α × Int)} (h : Tab P k e q mk ok w b n L) {a : α} (ha : ok a) (ty : TypeId) :
    ∃ w', (Builtin.delete_ #[t, k] ty #[.map (some b), mk a]).run P w = .ok (.tuple #[]) w' ∧ Tab P k e q mk ok w' b n (L.filter (fun p => p.1 ≠ a)) ∧ w.mapTurned w' b := by
  obtain ⟨D, h1, h2⟩ := h
  obtain ⟨kl, hk⟩ := K.lit a ha
  obtain ⟨w', hrun, h3, h4⟩ := h1.drop K.keyed ht hk ty
  exact ⟨w', hrun, ⟨_, h3, h2.del K (h1.tidy K.keyed) hk⟩, h4⟩
/-- a range over a map under way: what is still to come -/
def Rng (P : Program) (k e : TypeId) (q : IntKind) (mk : α → Value) (ok : α → Prop) (w : World) (b r n : Nat) (L rem : List (α × Int)) : Prop :=
  ∃ (D : DataW Unit) (left : Lit → Bool), w.ranges P k (plainElem P e) b r n D left (w.rangeLeft b r) ∧ Shows P k q mk ok D L ∧ rem.Pairwise (fun p p' => p.1 ≠ p'.1) ∧ (∀ p ∈ rem, p ∈ L) ∧ ∀ a kl, keyOf P k (mk a) = some kl → (left kl = true ↔ ∃ v, (a, v) ∈ rem)
theorem Rng.tab {w : World} {b r n : Nat} {L rem : List (α × Int)} (h : Rng P k e q mk ok w b r n L rem) : Tab P k e q mk ok w b n L := by
  obtain ⟨D, left, h1, h2, _⟩ := h
  exact ⟨D, h1.owns, h2⟩
theorem Rng.kept {w w' : World} {b r n : Nat} {L rem : List (α × Int)} {row : Option Nat} (h : Rng P k e q mk ok w b r n L rem) (hg : w.grownBy w' row) (hb : some b ≠ row) (hr : some r ≠ row) : Rng P k e q mk ok w' b r n L rem ∧ w'.rangeLeft b r = w.rangeLeft b r := by
  obtain ⟨D, left, h1, h2, h3⟩ := h
  have := h1.kept hg hb hr
  have e := this.left_eq
  exact ⟨⟨D, left, by rw [e]; exact this, h2, h3⟩, e⟩
theorem Tab.range (K : KeyAs P k mk ok) (ht : P.underlying t = some (.map k e)) {w : World} {b n : Nat} {L : List (α × Int)} (h : Tab P k e q mk ok w b n L) :
    ∃ w', (Instr.range t (.map (some b))).run P w = .ok (.pointer (some ⟨w.heap.size, 0, none⟩)) w' ∧ Rng P k e q mk ok w' b w.heap.size n L L ∧ w.grownBy w' none ∧ w'.heap.size = w.heap.size + 1 := by
  obtain ⟨D, h1, h2⟩ := h
  obtain ⟨w', hrun, h3, h4, h5⟩ := h1.range K.keyed ht
  refine ⟨w', hrun, ⟨D, Maps.has D, ?_, h2, h2.apart, fun p hp => hp, h2.has⟩, h4, h5⟩
  rw [h3.left_eq]
  exact h3
theorem Rng.next (K : KeyAs P k mk ok) (he : P.underlying e = some (.int q)) {w : World} {b r n : Nat} {L rem : List (α × Int)} (h : Rng P k e q mk ok w b r n L rem) (ty : TypeId) :
    (rem = [] ∧ (Instr.next (.pointer (some ⟨r, 0, none⟩)) false ty).run P w = .ok (.tuple #[.bool false]) w) ∨
    ∃ a v w', (a, v) ∈ rem ∧ ok a ∧ (Lit.int q v).wf = true ∧ (Instr.next (.pointer (some ⟨r, 0, none⟩)) false ty).run P w = .ok (.tuple #[.bool true, mk a, .int q v]) w' ∧ Rng P k e q mk ok w' b r n L (rem.filter (fun p => p.1 ≠ a)) ∧ w'.rangeLeft b r < w.rangeLeft b r ∧ w.grownBy w' (some r) ∧
      w'.heap.size = w.heap.size ∧ (Instr.entry (.pointer (some ⟨r, 0, none⟩))).run P w' = .ok (.tuple #[mk a, .int q v]) w' := by
  obtain ⟨D, left, h1, h2, h3, h4, h5⟩ := h
  rcases h1.next K.keyed ty with ⟨_, hl, hrun⟩ | ⟨key, val, kl, y, w', cnt', hkey, hlk, hv, hat, hrun, hrg, hlt, hgr, hsz, hen⟩
  · refine .inl ⟨?_, hrun⟩
    cases rem with
    | nil => rfl
    | cons p rem =>
      obtain ⟨kl, hk⟩ := K.lit p.1 (h2.good p (h4 p (List.mem_cons_self ..)))
      have := (h5 p.1 kl hk).2 ⟨p.2, List.mem_cons_self ..⟩
      rw [hl kl] at this
      cases this
  · obtain ⟨a, ha, rfl⟩ := K.inv key kl hkey
    obtain ⟨v, rfl, rfl, hwf⟩ := plainElem_int_inv he hv
    obtain ⟨v', hv'⟩ := (h5 a kl hkey).1 hlk
    have e1 := hat (.lit (.int q 0))
    rw [h2.at_ _ (h4 _ hv') kl _ hkey] at e1
    injection e1 with e1
    injection e1 with _ e1
    subst e1
    have e2 := hrg.left_eq
    refine .inr ⟨a, v', w', hv', ha, hwf, hrun, ⟨D, _, by rw [e2]; exact hrg, h2, h3.filter _, fun p hp => h4 p (List.mem_filter.1 hp).1, fun a' kl' hk' => ?_⟩, by rw [e2]; exact hlt, hgr, hsz, hen⟩
    by_cases e3 : a' = a
    · subst e3
      have : kl' = kl := (same_key K hk' hkey).2 rfl
      subst this
      rw [WideAt.sameKey_self (K.keyed.key hkey)]
      simp
    · have hne : kl' ≠ kl := fun e' => e3 ((same_key K hk' hkey).1 e')
      rw [sameKey_ne hne]
      simp only [Bool.not_false, Bool.and_true]
      rw [h5 a' kl' hk']
      simp [e3]
theorem turned_grown {w w' : World} {b : Nat} (h : w.mapTurned w' b) : w.grownBy w' (some b) := h.grown
end
end Go.Proofs.YthaoedfalkebbaaGreat.Lck
namespace Go.Proofs.YthaoedfalkebbaaGreat.Lck
open Go.RowKit Go.Maps Go.Proofs.YthaoedfalkebbaaGreatW.PrintWords Go.Proofs.YthaoedfalkebbaaGreatW.PrintLast Go.Proofs.YthaoedfalkebbaaGreatW.PrintMore
set_option linter.unusedVariables false
set_option linter.unusedSimpArgs false
set_option linter.unusedSectionVars false
abbrev Lk := ByteArray × ByteArray
def mkL (a : Lk) : Value := .agg #[.string a.1, .string a.2]
def okL (a : Lk) : Prop := a.1.size ≤ maxLen ∧ a.2.size ≤ maxLen
theorem wide23 : (match Tryz.prog.underlying 23 with | some (.array _ _) | some (.struct _) => true | _ => false) = true := by rw [Tryz.underlying23]
theorem keyType23 : Tryz.prog.keyType 23 = true := by kernel_rfl
theorem cells23 : Tryz.prog.cellsOf 23 = 2 := by kernel_rfl
theorem keyLits23 (d : Nat) (a b : Value) : Tryz.prog.keyLits (d + 2) 23 [a, b] = (strLit a).bind fun x => (strLit b).bind fun y => some (x ++ y) := by
  rw [show d + 2 = (d + 1) + 1 from rfl]
  unfold Program.keyLits
  simp only [Tryz.underlying23, cells23, List.length_cons, List.length_nil]
  simp [cells9, keyLits9]
  cases strLit a <;> cases strLit b <;> simp
theorem key_of (a : Lk) (h : okL a) : ∃ kl, keyOf Tryz.prog 23 (mkL a) = some kl := by
  obtain ⟨m, hm⟩ := size_pos
  have hf : (mkL a).formed Tryz.prog 23 = true := by
    simp [mkL, Value.formed, Tryz.underlying23, cells23]
  unfold keyOf
  simp only [Tryz.underlying23, keyType23, hf, Bool.and_self, if_true, hm]
  have e : (mkL a).cells.toList = [.string a.1, .string a.2] := rfl
  rw [e, keyLits23]
  simp [strLit, h.1, h.2]
set_option maxRecDepth 100000 in
theorem of_key (v : Value) (kl : Lit) (h : keyOf Tryz.prog 23 v = some kl) : ∃ a : Lk, okL a ∧ v = mkL a := by
  obtain ⟨m, hm⟩ := size_pos
  obtain ⟨xs, L, rfl, h1, _⟩ := keyOf_top wide23 h
  rw [hm] at h1
  have hl : xs.toList.length = 2 := by
    unfold Program.keyLits at h1
    simp only [Tryz.underlying23, cells23] at h1
    by_cases hh : xs.toList.length = 2
    · exact hh
    · rw [if_neg (fun h => hh h.1)] at h1
      cases h1
  obtain ⟨l⟩ := xs
  match l, hl with
  | [a, b], _ =>
    have h2 : Tryz.prog.keyLits (m + 2) 23 [a, b] = some L := h1
    rw [keyLits23] at h2
    cases ha : strLit a with
    | none => rw [ha] at h2; cases h2
    | some x =>
      cases hb : strLit b with
      | none => rw [ha, hb] at h2; cases h2
      | some y =>
        have st : ∀ (v : Value) (z : List Lit), strLit v = some z → ∃ u : ByteArray, v = .string u ∧ u.size ≤ maxLen := by
          intro v z hz
          cases v <;> try cases hz
          rename_i u
          refine ⟨u, rfl, ?_⟩
          by_cases hu : u.size ≤ maxLen
          · exact hu
          · exfalso
            have : strLit (.string u) = none := if_neg hu
            rw [this] at hz
            cases hz
        obtain ⟨u, rfl, hu⟩ := st a x ha
        obtain ⟨u', rfl, hu'⟩ := st b y hb
        exact ⟨(u, u'), ⟨hu, hu'⟩, rfl⟩
set_option maxRecDepth 100000 in
theorem keyL : KeyAs Tryz.prog 23 mkL okL where
  keyed := Keyed.of_law (deep_law_gate laid (of_decide_eq_true (by kernel_rfl)) (of_decide_eq_true (by kernel_rfl)) keyType23 wide23)
  lit := key_of
  inj := fun a b h => by
    injection h with h
    have h := congrArg Array.toList h
    simp at h
    exact Prod.ext h.1 h.2
  inv := of_key
end Go.Proofs.YthaoedfalkebbaaGreat.Lck
namespace Go.Proofs.YthaoedfalkebbaaGreat.Lck
open Go.RowKit Go.Maps Go.Proofs.YthaoedfalkebbaaGreatW.PrintWords Go.Proofs.YthaoedfalkebbaaGreatW.PrintLast Go.Proofs.YthaoedfalkebbaaGreatW.PrintMore
set_option linter.unusedVariables false
set_option linter.unusedSimpArgs false
set_option linter.unusedSectionVars false
abbrev TabL (w : World) (b n : Nat) (L : List (Lk × Int)) : Prop := Tab Tryz.prog 23 2 .i64 mkL okL w b n L
/-- a manager: where it lies, where its map lies, the most, the locks -/
structure Mg (w : World) (p b : Nat) (most : Int) (L : List (Lk × Int)) : Prop where
  most : w.cell? ⟨p, 0, none⟩ = some (.int .i64 most)
  map : w.cell? ⟨p, 1, none⟩ = some (.map (some b))
  tab : TabL w b L.length L
theorem eqlSome (b : Nat) (w : World) : (binOp .eql 145 (.map (some b)) (.map none)).run Tryz.prog w = .ok (.bool false) w := by kernel_rfl
set_option maxRecDepth 100000 in
theorem none_calls (p b : Nat) (w : World) (h : w.cell? ⟨p, 1, none⟩ = some (.map (some b))) : Calls Tryz.prog 82 #[.pointer (some ⟨p, 0, none⟩)] w fun e w' => e = .returned (.bool false) ∧ w = w' := by
  have eq := eqlSome b
  go_enter Tryz.func82, Tryz.ntmps82
  go_wp2
  go_ret
  exact ⟨rfl, rfl⟩
set_option maxRecDepth 100000 in
theorem New_bad (most : Int) (w : World) (h : most < 1 ∨ 4096 < most) : Calls Tryz.prog 36 #[.int .i64 most] w fun e w' => e = .returned (.tuple #[.pointer none, .int .i64 1]) ∧ w = w' := by
  by_cases h1 : most < 1
  · go_enter Tryz.func36, Tryz.ntmps36
    go_wp2
    go_ret2
    exact ⟨rfl, rfl⟩
  · have h2 : 4096 < most := by omega
    go_enter Tryz.func36, Tryz.ntmps36
    go_wp2
    go_ret2
    exact ⟨rfl, rfl⟩
theorem Mg.ne {w : World} {p b : Nat} {most : Int} {L : List (Lk × Int)} (h : Mg w p b most L) : p ≠ b := by
  rintro rfl
  obtain ⟨D, ⟨es, clock, hb, _⟩, _⟩ := h.tab
  have := h.most
  simp [World.cell?, hb] at this
/-- what Take leaves, and answers -/
def tk (most : Int) (L : List (Lk × Int)) (tx snap last : Int) (a : Lk) : List (Lk × Int) × Int :=
  if tx < 1 ∨ snap < 0 ∨ last < 0 then (L, 1)
  else match got L a with
    | some h => if h = tx then (L, 0) else (L, 80)
    | none => if snap < last then (L, 81) else if most ≤ L.length then (L, 4) else (L ++ [(a, tx)], 0)
set_option maxHeartbeats 4000000 in
set_option maxRecDepth 100000 in
theorem Take_bad (p b : Nat) (most : Int) (L : List (Lk × Int)) (tx snap last : Int) (a : Lk) (w : World) (h : Mg w p b most L) (ha : okL a) (hx : tx < 1 ∨ snap < 0 ∨ last < 0) :
    Calls Tryz.prog 42 #[.pointer (some ⟨p, 0, none⟩), .int .i64 tx, .int .i64 snap, .int .i64 last, mkL a] w fun e w' => e = .returned (.int .i64 1) ∧ Below w.heap.size w w' := by
  have hm := h.map
  obtain ⟨w1, hw1⟩ : ∃ w1, w1 = w.alloc (.cells #[.string a.1, .string a.2] 23) := ⟨_, rfl⟩
  have hB : Below w.heap.size w w1 := by rw [hw1]; exact (Below.refl _ w).alloc (Nat.le_refl _) _
  have hm1 : w1.cell? ⟨p, 1, none⟩ = some (.map (some b)) := (hB.cell (World.block_lt_of_cell? _ _ hm)).trans hm
  have N := none_calls p b w1 hm1
  unfold mkL
  by_cases h1 : tx < 1
  · go_enter Tryz.func42, Tryz.ntmps42
    go_wp2_with fail
    rw [← hw1]
    clear hw1
    refine N.mono ?_
    rintro e w' ⟨rfl, rfl⟩
    go_wp2
    go_ret
    exact ⟨rfl, hB⟩
  by_cases h2 : snap < 0
  · go_enter Tryz.func42, Tryz.ntmps42
    go_wp2_with fail
    rw [← hw1]
    clear hw1
    refine N.mono ?_
    rintro e w' ⟨rfl, rfl⟩
    go_wp2
    go_ret
    exact ⟨rfl, hB⟩
  have h3 : last < 0 := by omega
  · go_enter Tryz.func42, Tryz.ntmps42
    go_wp2_with fail
    rw [← hw1]
    clear hw1
    refine N.mono ?_
    rintro e w' ⟨rfl, rfl⟩
    go_wp2
    go_ret
    exact ⟨rfl, hB⟩
set_option maxHeartbeats 4000000 in
set_option maxRecDepth 100000 in
theorem Take_calls (p b : Nat) (most : Int) (L : List (Lk × Int)) (tx snap last : Int) (a : Lk) (w : World) (h : Mg w p b most L) (ha : okL a) (hwf : (Lit.int .i64 tx).wf = true) (hL : L.length < maxLen) (hx : ¬ (tx < 1 ∨ snap < 0 ∨ last < 0)) :
    Calls Tryz.prog 42 #[.pointer (some ⟨p, 0, none⟩), .int .i64 tx, .int .i64 snap, .int .i64 last, mkL a] w fun e w' => e = .returned (.int .i64 (tk most L tx snap last a).2) ∧ Mg w' p b most (tk most L tx snap last a).1 ∧ w.grownBy w' (some b) := by
  have hne := h.ne
  have hm := h.map
  obtain ⟨w1, hw1⟩ : ∃ w1, w1 = w.alloc (.cells #[.string a.1, .string a.2] 23) := ⟨_, rfl⟩
  have hB : Below w.heap.size w w1 := by rw [hw1]; exact (Below.refl _ w).alloc (Nat.le_refl _) _
  have hm1 : w1.cell? ⟨p, 1, none⟩ = some (.map (some b)) := (hB.cell (World.block_lt_of_cell? _ _ hm)).trans hm
  have hk1 : w1.cell? ⟨p, 0, none⟩ = some (.int .i64 most) := (hB.cell (World.block_lt_of_cell? _ _ h.most)).trans h.most
  have ht1 : TabL w1 b L.length L := h.tab.kept (row := none) (by rw [hw1]; exact World.grownBy_alloc _ _ _) (by simp)
  have hc1 : w1.cell? ⟨w.heap.size, 0, none⟩ = some (.string a.1) := by rw [hw1]; simp [go_sem]
  have hc2 : w1.cell? ⟨w.heap.size, 1, none⟩ = some (.string a.2) := by rw [hw1]; simp [go_sem]
  have N := none_calls p b w1 hm1
  have hlook := Tab.look (w := w1.drew) (t := 145) keyL Tryz.underlying145 Tryz.underlying2 (show TabL w1.drew b L.length L from ht1) (by kernel_rfl) ha
  have e1 : ¬ tx < 1 := by omega
  have e2 : ¬ snap < 0 := by omega
  have e3 : ¬ last < 0 := by omega
  have hB1 : w.grownBy w1 (some b) := by rw [hw1]; exact World.grownBy_alloc _ _ _
  have hlen := Tab.len (w := w1.drew.drew) (t := 145) Tryz.underlying145 (show TabL w1.drew.drew b L.length L from ht1) 3
  unfold tk
  rw [if_neg hx]
  clear hx
  unfold mkL at hlook ⊢
  cases hg : got L a with
  | some hh =>
    rw [hg] at hlook
    simp only [Option.getD_some, Option.isSome_some] at hlook
    by_cases hx : hh = tx
    · subst hx
      go_enter Tryz.func42, Tryz.ntmps42
      go_wp2_with fail
      rw [← hw1]
      clear hw1
      refine N.mono ?_
      rintro e w' ⟨rfl, rfl⟩
      go_wp2
      go_region_held3 (fun W => W.cell? ⟨p, 1, none⟩ = some (.map (some b)) ∧ W.cell? ⟨w.heap.size, 0, none⟩ = some (.string a.1) ∧ W.cell? ⟨w.heap.size, 1, none⟩ = some (.string a.2)) (first | exact ⟨hm1, hc1, hc2⟩) (fail)
      go_wp2
      go_ret
      exact ⟨rfl, ⟨hk1, hm1, ht1⟩, ⟨hB1.os, hB1.tape, hB1.output, hB1.size, hB1.block⟩⟩
    · have hx' : (hh == tx) = false := by simpa using hx
      dsimp only
      rw [if_neg hx]
      go_enter Tryz.func42, Tryz.ntmps42
      go_wp2_with fail
      rw [← hw1]
      clear hw1
      refine N.mono ?_
      rintro e w' ⟨rfl, rfl⟩
      go_wp2
      go_region_held3 (fun W => W.cell? ⟨p, 1, none⟩ = some (.map (some b)) ∧ W.cell? ⟨w.heap.size, 0, none⟩ = some (.string a.1) ∧ W.cell? ⟨w.heap.size, 1, none⟩ = some (.string a.2)) (first | exact ⟨hm1, hc1, hc2⟩) (fail)
      go_wp2
      go_ret
      exact ⟨rfl, ⟨hk1, hm1, ht1⟩, ⟨hB1.os, hB1.tape, hB1.output, hB1.size, hB1.block⟩⟩
  | none =>
    rw [hg] at hlook
    simp only [Option.getD_none, Option.isSome_none] at hlook
    dsimp only
    by_cases hx : snap < last
    · rw [if_pos hx]
      go_enter Tryz.func42, Tryz.ntmps42
      go_wp2_with fail
      rw [← hw1]
      clear hw1
      refine N.mono ?_
      rintro e w' ⟨rfl, rfl⟩
      go_wp2
      go_region_held3 (fun W => W.cell? ⟨p, 1, none⟩ = some (.map (some b)) ∧ W.cell? ⟨w.heap.size, 0, none⟩ = some (.string a.1) ∧ W.cell? ⟨w.heap.size, 1, none⟩ = some (.string a.2)) (first | exact ⟨hm1, hc1, hc2⟩) (fail)
      go_wp2
      go_ret
      exact ⟨rfl, ⟨hk1, hm1, ht1⟩, ⟨hB1.os, hB1.tape, hB1.output, hB1.size, hB1.block⟩⟩
    · rw [if_neg hx]
      have hx' : last ≤ snap := by omega
      by_cases hf : most ≤ L.length
      · rw [if_pos hf]
        go_enter Tryz.func42, Tryz.ntmps42
        go_wp2_with fail
        rw [← hw1]
        clear hw1
        refine N.mono ?_
        rintro e w' ⟨rfl, rfl⟩
        go_wp2
        go_region_held3 (fun W => W.cell? ⟨p, 1, none⟩ = some (.map (some b)) ∧ W.cell? ⟨w.heap.size, 0, none⟩ = some (.string a.1) ∧ W.cell? ⟨w.heap.size, 1, none⟩ = some (.string a.2)) (first | exact ⟨hm1, hc1, hc2⟩) (fail)
        go_wp2
        go_region_held3 (fun W => W.cell? ⟨p, 1, none⟩ = some (.map (some b)) ∧ W.cell? ⟨p, 0, none⟩ = some (.int .i64 most) ∧ (Builtin.len_ #[145] 3 #[.map (some b)]).run Tryz.prog W = .ok (.int .i64 (L.length : Int)) W) (first | exact ⟨hm1, hk1, hlen⟩) (fail)
        go_wp2
        go_ret
        exact ⟨rfl, ⟨hk1, hm1, ht1⟩, ⟨hB1.os, hB1.tape, hB1.output, hB1.size, hB1.block⟩⟩
      · rw [if_neg hf]
        have hf' : (L.length : Int) < most := by omega
        obtain ⟨w2, hst, ht2, hturn⟩ := Tab.store (w := w1.drew.drew.drew) (t := 145) keyL Tryz.underlying145 Tryz.underlying2 (show TabL w1.drew.drew.drew b L.length L from ht1) hL ha hwf hg
        unfold mkL at hst
        have hg2 := turned_grown hturn
        have hb' : ∀ q j v, w1.cell? ⟨q, j, none⟩ = some v → q ≠ b → w2.cell? ⟨q, j, none⟩ = some v := fun q j v hv hq => (World.cell?_of_block (a := ⟨q, j, none⟩) (hg2.block q (World.block_lt_of_cell? _ _ hv) (fun e => by injection e with e; exact hq e))).trans hv
        have hnb : w.heap.size ≠ b := fun e => by have := h.tab.lt; omega
        have hm2 := hb' _ _ _ hm1 hne
        have hk2 := hb' _ _ _ hk1 hne
        have hd1 := hb' _ _ _ hc1 hnb
        have hd2 := hb' _ _ _ hc2 hnb
        go_enter Tryz.func42, Tryz.ntmps42
        go_wp2_with fail
        rw [← hw1]
        clear hw1
        refine N.mono ?_
        rintro e w' ⟨rfl, rfl⟩
        go_wp2
        go_region_held3 (fun W => W.cell? ⟨p, 1, none⟩ = some (.map (some b)) ∧ W.cell? ⟨w.heap.size, 0, none⟩ = some (.string a.1) ∧ W.cell? ⟨w.heap.size, 1, none⟩ = some (.string a.2)) (first | exact ⟨hm1, hc1, hc2⟩) (fail)
        go_wp2
        go_region_held3 (fun W => W.cell? ⟨p, 1, none⟩ = some (.map (some b)) ∧ W.cell? ⟨p, 0, none⟩ = some (.int .i64 most) ∧ (Builtin.len_ #[145] 3 #[.map (some b)]).run Tryz.prog W = .ok (.int .i64 (L.length : Int)) W) (first | exact ⟨hm1, hk1, hlen⟩) (fail)
        go_wp2
        go_region_held3 (fun W => W.cell? ⟨p, 1, none⟩ = some (.map (some b)) ∧ W.cell? ⟨w.heap.size, 0, none⟩ = some (.string a.1) ∧ W.cell? ⟨w.heap.size, 1, none⟩ = some (.string a.2)) (first | exact ⟨hm1, hc1, hc2⟩ | exact ⟨hm2, hd1, hd2⟩) (fail)
        go_wp2
        go_ret
        refine ⟨rfl, ⟨hk2, hm2, by rw [List.length_append]; exact ht2⟩, ?_⟩
        exact ⟨hg2.os.trans hB1.os, hg2.tape.trans hB1.tape, hg2.output.trans hB1.output, Nat.le_trans hB1.size hg2.size, fun i hi hne => (hg2.block i (Nat.lt_of_lt_of_le hi hB1.size) hne).trans (hB1.block i hi hne)⟩
end Go.Proofs.YthaoedfalkebbaaGreat.Lck
namespace Go.Proofs.YthaoedfalkebbaaGreat.Lck
open Go.RowKit Go.Maps Go.Proofs.YthaoedfalkebbaaGreatW.PrintWords Go.Proofs.YthaoedfalkebbaaGreatW.PrintLast Go.Proofs.YthaoedfalkebbaaGreatW.PrintMore
set_option linter.unusedVariables false
set_option linter.unusedSimpArgs false
set_option linter.unusedSectionVars false
theorem Mg.kept {w w' : World} {p b : Nat} {most : Int} {L : List (Lk × Int)} (h : Mg w p b most L) {row : Option Nat} (hg : w.grownBy w' row) (hp : some p ≠ row) (hb : some b ≠ row) : Mg w' p b most L :=
  ⟨(World.cell?_of_block (a := ⟨p, 0, none⟩) (hg.block p (World.block_lt_of_cell? _ _ h.most) hp)).trans h.most, (World.cell?_of_block (a := ⟨p, 1, none⟩) (hg.block p (World.block_lt_of_cell? _ _ h.most) hp)).trans h.map, h.tab.kept hg hb⟩
theorem Mg.below {w w' : World} {p b : Nat} {most : Int} {L : List (Lk × Int)} (h : Mg w p b most L) (hb : Below w.heap.size w w') : Mg w' p b most L :=
  h.kept (row := none) ⟨hb.os, hb.tape, hb.output, hb.size, fun i hi _ => hb.block i hi⟩ (by simp) (by simp)
set_option maxRecDepth 100000 in
theorem Len_calls (p b : Nat) (most : Int) (L : List (Lk × Int)) (w : World) (h : Mg w p b most L) : Calls Tryz.prog 62 #[.pointer (some ⟨p, 0, none⟩)] w fun e w' => e = .returned (.int .i64 (L.length : Int)) ∧ w = w' := by
  have N := none_calls p b w h.map
  have hm := h.map
  have hlen := Tab.len (t := 145) Tryz.underlying145 h.tab 3
  clear h
  go_enter Tryz.func62, Tryz.ntmps62
  go_wp2_with fail
  refine N.mono ?_
  rintro e w' ⟨rfl, rfl⟩
  go_wp2
  go_ret
  exact ⟨rfl, rfl⟩
end Go.Proofs.YthaoedfalkebbaaGreat.Lck
namespace Go.Proofs.YthaoedfalkebbaaGreat.Lck
open Go.RowKit Go.Maps Go.Proofs.YthaoedfalkebbaaGreatW.PrintWords Go.Proofs.YthaoedfalkebbaaGreatW.PrintLast Go.Proofs.YthaoedfalkebbaaGreatW.PrintMore
set_option linter.unusedVariables false
set_option linter.unusedSimpArgs false
set_option linter.unusedSectionVars false
set_option maxRecDepth 100000 in
theorem isNaN_calls (s : ByteArray) (w : World) : Calls Tryz.prog 138 #[.string s] w fun e w' => e = .returned (.bool false) ∧ w = w' := by
  go_enter Tryz.func138, Tryz.ntmps138
  go_wp2
  go_ret
  exact ⟨by simp, rfl⟩
set_option maxRecDepth 100000 in
theorem Compare_calls (s u : ByteArray) (w : World) : Calls Tryz.prog 98 #[.string s, .string u] w fun e w' => e = .returned (.int .i64 (cmpS s u)) ∧ w = w' := by
  have N := fun s => isNaN_calls s w
  unfold cmpS
  cases h1 : Op.bytesLess s.toList u.toList with
  | true =>
    simp only [if_true]
    go_enter Tryz.func98, Tryz.ntmps98
    go_wp2_with fail
    refine (N s).mono ?_
    rintro e w' ⟨rfl, rfl⟩
    go_wp2_with fail
    refine (N u).mono ?_
    rintro e w' ⟨rfl, rfl⟩
    go_wp2
    go_ret
    exact ⟨rfl, rfl⟩
  | false =>
    simp only [Bool.false_eq_true, if_false]
    cases h2 : s.toList == u.toList with
    | true =>
      simp only [if_true]
      go_enter Tryz.func98, Tryz.ntmps98
      go_wp2_with fail
      refine (N s).mono ?_
      rintro e w' ⟨rfl, rfl⟩
      go_wp2_with fail
      refine (N u).mono ?_
      rintro e w' ⟨rfl, rfl⟩
      go_wp2
      go_ret
      exact ⟨rfl, rfl⟩
    | false =>
      simp only [Bool.false_eq_true, if_false]
      go_enter Tryz.func98, Tryz.ntmps98
      go_wp2_with fail
      refine (N s).mono ?_
      rintro e w' ⟨rfl, rfl⟩
      go_wp2_with fail
      refine (N u).mono ?_
      rintro e w' ⟨rfl, rfl⟩
      go_wp2
      go_ret
      exact ⟨rfl, rfl⟩
/-- the order of locks -/
def cmpL (a b : Lk) : Int := if cmpS a.1 b.1 ≠ 0 then cmpS a.1 b.1 else cmpS a.2 b.2
set_option maxRecDepth 100000 in
theorem Or_calls (g c : Nat) (x y : Int) (w : World) (h0 : w.cell? ⟨g, 0, none⟩ = some (.int .i64 x)) (h1 : w.cell? ⟨g, 1, none⟩ = some (.int .i64 y)) :
    Calls Tryz.prog 97 #[.slice (some ⟨g, 0, none⟩) 2 c] w fun e w' => e = .returned (.int .i64 (if x ≠ 0 then x else y)) ∧ w = w' := by
  by_cases hx : x = 0
  · have hx' : (x != 0) = false := by simp [hx]
    rw [if_neg (by simpa using hx)]
    by_cases hy : y = 0
    · have hy' : (y != 0) = false := by simp [hy]
      rw [hy] at h1 ⊢
      rw [hx] at h0
      clear hx hy hx' hy'
      go_enter Tryz.func97, Tryz.ntmps97
      go_wp2_with fail
      refine wp_loop_rounds 3 ?_
      rw [rounds_succ]
      go_wp2
      rw [rounds_succ]
      go_wp2
      rw [rounds_succ]
      go_wp2
      go_ret
      exact ⟨rfl, rfl⟩
    · have hy' : (y != 0) = true := by simp [hy]
      rw [hx] at h0
      clear hx hx' hy
      go_enter Tryz.func97, Tryz.ntmps97
      go_wp2_with fail
      refine wp_loop_rounds 3 ?_
      rw [rounds_succ]
      go_wp2
      rw [rounds_succ]
      go_wp2
      go_ret
      exact ⟨rfl, rfl⟩
  · have hx' : (x != 0) = true := by simp [hx]
    rw [if_pos hx]
    clear hx
    go_enter Tryz.func97, Tryz.ntmps97
    go_wp2_with fail
    refine wp_loop_rounds 3 ?_
    rw [rounds_succ]
    go_wp2
    go_ret
    exact ⟨rfl, rfl⟩
end Go.Proofs.YthaoedfalkebbaaGreat.Lck
namespace Go.Proofs.YthaoedfalkebbaaGreat.Lck
open Go.RowKit Go.Maps Go.Sort Go.Proofs.YthaoedfalkebbaaGreatW.PrintWords Go.Proofs.YthaoedfalkebbaaGreatW.PrintLast Go.Proofs.YthaoedfalkebbaaGreatW.PrintMore
set_option linter.unusedVariables false
set_option linter.unusedSimpArgs false
set_option linter.unusedSectionVars false
set_option maxHeartbeats 4000000 in
set_option maxRecDepth 100000 in
theorem closure_calls (x y : Lk) (W : World) : Calls Tryz.prog 96 #[mkL x, mkL y] W fun e w' => e = .returned (.int .i64 (cmpL x y)) ∧ ∃ q os', w' = grow (W.drewN q) os' := by
  obtain ⟨w1, hw1⟩ : ∃ w1, w1 = (W.alloc (.cells #[.string x.1, .string x.2] 23)).alloc (.cells #[.string y.1, .string y.2] 23) := ⟨_, rfl⟩
  have hg : w1 = grow W #[.cells #[.string x.1, .string x.2] 23, .cells #[.string y.1, .string y.2] 23] := by rw [hw1, alloc_eq_grow, alloc_eq_grow, grow_grow]; rfl
  have c0 : w1.cell? ⟨W.heap.size, 0, none⟩ = some (.string x.1) := by rw [hw1]; simp [go_sem]
  have c1 : w1.cell? ⟨W.heap.size, 1, none⟩ = some (.string x.2) := by rw [hw1]; simp [go_sem]
  have d0 : w1.cell? ⟨W.heap.size + 1, 0, none⟩ = some (.string y.1) := by rw [hw1]; simp [go_sem]
  have d1 : w1.cell? ⟨W.heap.size + 1, 1, none⟩ = some (.string y.2) := by rw [hw1]; simp [go_sem]
  replace hg := Aside0.mk hg
  have e0 := fun o => (((Below.refl _ w1).alloc (Nat.le_refl _) o).cell (World.block_lt_of_cell? _ _ c0)).trans c0
  have e1 := fun o => (((Below.refl _ w1).alloc (Nat.le_refl _) o).cell (World.block_lt_of_cell? _ _ c1)).trans c1
  have f0 := fun o => (((Below.refl _ w1).alloc (Nat.le_refl _) o).cell (World.block_lt_of_cell? _ _ d0)).trans d0
  have f1 := fun o => (((Below.refl _ w1).alloc (Nat.le_refl _) o).cell (World.block_lt_of_cell? _ _ d1)).trans d1
  unfold mkL cmpL
  generalize hA : cmpS x.1 y.1 = A
  generalize hB : cmpS x.2 y.2 = B
  have C1 := fun w => hA ▸ Compare_calls x.1 y.1 w
  have C2 := fun w => hB ▸ Compare_calls x.2 y.2 w
  clear hA hB
  have OC := fun w h0 h1 => Or_calls w1.heap.size 2 A B w h0 h1
  generalize (if A ≠ 0 then A else B) = R at OC ⊢
  go_enter Tryz.func96, Tryz.ntmps96
  go_upto_region 1 with fail
  rw [← hw1]
  clear hw1
  go_region_held3 (fun V => V.cell? ⟨W.heap.size, 0, none⟩ = some (.string x.1) ∧ V.cell? ⟨W.heap.size, 1, none⟩ = some (.string x.2) ∧ V.cell? ⟨W.heap.size + 1, 0, none⟩ = some (.string y.1) ∧ V.cell? ⟨W.heap.size + 1, 1, none⟩ = some (.string y.2)) (first | exact ⟨c0, c1, d0, d1⟩ | exact ⟨e0 _, e1 _, f0 _, f1 _⟩)
    (first | (go_at_call 98; with_reducible refine (C1 _).mono ?_; rintro e w' ⟨rfl, rfl⟩) | (go_at_call 98; with_reducible refine (C2 _).mono ?_; rintro e w' ⟨rfl, rfl⟩) | (go_at_call 97; refine (OC _ (by simp [go_sem]) (by simp [go_sem])).mono ?_; rintro e w' ⟨rfl, rfl⟩))
  go_wp2
  go_ret
  refine ⟨rfl, ?_⟩
  rw [hg.out]
  rw [alloc_eq_grow, grow_grow]
  exact ⟨1, _, rfl⟩
end Go.Proofs.YthaoedfalkebbaaGreat.Lck
namespace Go.Proofs.YthaoedfalkebbaaGreat.Lck
open Go.RowKit Go.Maps Go.Sort
set_option linter.unusedVariables false
set_option linter.unusedSimpArgs false
/-- which lock comes first -/
def ltL (a b : Lk) : Prop := a.1.toList < b.1.toList ∨ a.1.toList = b.1.toList ∧ a.2.toList < b.2.toList
theorem lt3 (x y : List UInt8) : x < y ∨ x = y ∨ y < x := by
  by_cases h1 : x < y
  · exact .inl h1
  · by_cases h2 : y < x
    · exact .inr (.inr h2)
    · exact .inr (.inl (List.le_antisymm (List.not_lt.1 h2) (List.not_lt.1 h1)))
theorem cmpS_lt (s u : ByteArray) : (cmpS s u < 0 ↔ s.toList < u.toList) ∧ (cmpS s u = 0 ↔ s.toList = u.toList) := by
  unfold cmpS
  rw [bytesLess_eq]
  by_cases h1 : s.toList < u.toList
  · have : s.toList ≠ u.toList := fun e => by rw [e] at h1; exact List.lt_irrefl _ h1
    simp [h1, this]
  · by_cases h2 : s.toList = u.toList
    · have h3 : ¬ u.toList < u.toList := List.lt_irrefl _
      simp [h2, h3]
    · simp [h1, h2]
theorem cmpL_lt (a b : Lk) : (cmpL a b < 0 ↔ ltL a b) ∧ (cmpL a b = 0 ↔ a = b) := by
  have h1 := cmpS_lt a.1 b.1
  have h2 := cmpS_lt a.2 b.2
  unfold cmpL ltL
  by_cases e : cmpS a.1 b.1 = 0
  · have e1 := h1.2.1 e
    rw [if_neg (by simpa using e)]
    refine ⟨?_, ?_⟩
    · rw [h2.1, e1]
      constructor
      · exact fun h => .inr ⟨rfl, h⟩
      · rintro (h | h)
        · exact absurd h (List.lt_irrefl _)
        · exact h.2
    · rw [h2.2]
      constructor
      · intro h; exact Prod.ext (toList_inj e1) (toList_inj h)
      · intro h; rw [h]
  · rw [if_pos e]
    have hne : a.1.toList ≠ b.1.toList := fun h => e (h1.2.2 h)
    refine ⟨?_, ?_⟩
    · rw [h1.1]
      constructor
      · exact .inl
      · rintro (h | h)
        · exact h
        · exact absurd h.1 hne
    · constructor
      · intro h; exact absurd h e
      · intro h; rw [h] at hne; exact absurd rfl hne
theorem ltL_irrefl (a : Lk) : ¬ ltL a a := by
  rintro (h | h)
  · exact List.lt_irrefl _ h
  · exact List.lt_irrefl _ h.2
theorem ltL_trans {a b c : Lk} (h : ltL a b) (k : ltL b c) : ltL a c := by
  unfold ltL at *
  rcases h with h | ⟨h, h'⟩ <;> rcases k with k | ⟨k, k'⟩
  · exact .inl (List.lt_trans h k)
  · exact .inl (k ▸ h)
  · exact .inl (h ▸ k)
  · exact .inr ⟨h.trans k, List.lt_trans h' k'⟩
theorem ltL_total (a b : Lk) : ltL a b ∨ a = b ∨ ltL b a := by
  unfold ltL
  rcases lt3 a.1.toList b.1.toList with h | h | h
  · exact .inl (.inl h)
  · rcases lt3 a.2.toList b.2.toList with k | k | k
    · exact .inl (.inr ⟨h, k⟩)
    · exact .inr (.inl (Prod.ext (toList_inj h) (toList_inj k)))
    · exact .inr (.inr (.inr ⟨h.symm, k⟩))
  · exact .inr (.inr (.inl h))
end Go.Proofs.YthaoedfalkebbaaGreat.Lck
namespace Go.Proofs.YthaoedfalkebbaaGreat.Lck
open Go.RowKit Go.Maps Go.Proofs.YthaoedfalkebbaaGreatW.PrintWords Go.Proofs.YthaoedfalkebbaaGreatW.PrintLast Go.Proofs.YthaoedfalkebbaaGreatW.PrintMore
set_option linter.unusedVariables false
set_option linter.unusedSimpArgs false
set_option linter.unusedSectionVars false
def cellsL (a : Lk) : List Value := [.string a.1, .string a.2]
def dL : Kd Lk := Kd.flat cellsL 2 (fun _ => rfl) (fun x u hu => by simp [cellsL] at hu; rcases hu with rfl | rfl <;> rfl)
theorem info23 : (Tryz.prog.info? 23).map (fun i => (i.zero, i.size, i.bytes)) = some (some (.agg #[.string ByteArray.empty, .string ByteArray.empty]), 2, 32) := by kernel_rfl
abbrev RngL (w : World) (b r n : Nat) (L rem : List (Lk × Int)) : Prop := Rng Tryz.prog 23 2 .i64 mkL okL w b r n L rem
theorem perm_next {L vis rem : List (Lk × Int)} {a : Lk} {v : Int} (hr : rem.Pairwise (fun p p' => p.1 ≠ p'.1)) (h : (vis ++ rem).Perm L) (hm : (a, v) ∈ rem) : ((vis ++ [(a, v)]) ++ rem.filter (fun p => p.1 ≠ a)).Perm L := by
  refine List.Perm.trans ?_ h
  rw [List.append_assoc]
  refine List.Perm.append_left vis ?_
  clear h
  induction rem with
  | nil => cases hm
  | cons p rem ih =>
    rw [List.pairwise_cons] at hr
    rcases List.mem_cons.1 hm with e | hm
    · subst e
      have : rem.filter (fun p => p.1 ≠ a) = rem := List.filter_eq_self.2 (fun p hp => by simpa using fun e => hr.1 p hp e.symm)
      rw [List.filter_cons, if_neg (by simp), this]
      exact List.Perm.refl _
    · have hne : p.1 ≠ a := hr.1 _ hm
      simp only [List.filter_cons, ne_eq, hne, not_false_eq_true, decide_true, if_true, List.singleton_append]
      exact (List.Perm.swap _ _ _).trans (List.Perm.cons _ (by simpa using ih hr.2 hm))
end Go.Proofs.YthaoedfalkebbaaGreat.Lck
namespace Go.Proofs
open Go.Shelf
def Tryz.sortLk_ren : Go.Shelf.Ren := ⟨fun | 6 => 95 | 15 => 105 | 14 => 137 | 28 => 150 | 29 => 151 | 20 => 164 | 21 => 165 | 22 => 166 | 23 => 167 | 24 => 168 | 25 => 169 | 26 => 170 | 27 => 171 | 46 => 196 | 47 => 181 | 48 => 182 | 49 => 197 | 50 => 198 | 57 => 208 | n => n, fun | 22 => 46 | 24 => 23 | 25 => 168 | 3 => 3 | 39 => 176 | 0 => 0 | 53 => 215 | 55 => 217 | 4 => 4 | 46 => 207 | 45 => 206 | 50 => 212 | 5 => 5 | 9 => 9 | 66 => 247 | 70 => 251 | 76 => 266 | 77 => 185 | n => n, fun | n => n⟩
theorem Tryz.sortLk : Go.Proofs.SlLaysF0.n6 Tryz.prog Tryz.sortLk_ren := {
  mixed := by kernel_rfl
  f6 := ⟨Tryz.f95.name, by decide, Tryz.func95.trans (congrArg some (by kernel_rfl))⟩
  f14 := ⟨Tryz.f137.name, by decide, Tryz.func137.trans (congrArg some (by kernel_rfl))⟩
  f15 := Tryz.func105.trans (congrArg some (by kernel_rfl))
  f20 := ⟨Tryz.f164.name, by decide, Tryz.func164.trans (congrArg some (by kernel_rfl))⟩
  f21 := ⟨Tryz.f165.name, by decide, Tryz.func165.trans (congrArg some (by kernel_rfl))⟩
  f22 := ⟨Tryz.f166.name, by decide, Tryz.func166.trans (congrArg some (by kernel_rfl))⟩
  f23 := ⟨Tryz.f167.name, by decide, Tryz.func167.trans (congrArg some (by kernel_rfl))⟩
  f24 := ⟨Tryz.f168.name, by decide, Tryz.func168.trans (congrArg some (by kernel_rfl))⟩
  f25 := ⟨Tryz.f169.name, by decide, Tryz.func169.trans (congrArg some (by kernel_rfl))⟩
  f26 := ⟨Tryz.f170.name, by decide, Tryz.func170.trans (congrArg some (by kernel_rfl))⟩
  f27 := ⟨Tryz.f171.name, by decide, Tryz.func171.trans (congrArg some (by kernel_rfl))⟩
  f28 := Tryz.func150.trans (congrArg some (by kernel_rfl))
  f29 := Tryz.func151.trans (congrArg some (by kernel_rfl))
  f46 := ⟨Tryz.f196.name, by decide, Tryz.func196.trans (congrArg some (by kernel_rfl))⟩
  f47 := Tryz.func181.trans (congrArg some (by kernel_rfl))
  f48 := Tryz.func182.trans (congrArg some (by kernel_rfl))
  f49 := ⟨Tryz.f197.name, by decide, Tryz.func197.trans (congrArg some (by kernel_rfl))⟩
  f50 := ⟨Tryz.f198.name, by decide, Tryz.func198.trans (congrArg some (by kernel_rfl))⟩
  f57 := ⟨Tryz.f208.name, by decide, Tryz.func208.trans (congrArg some (by kernel_rfl))⟩
  t0 := Tryz.underlying0
  a0 := Tryz.isAgg0
  z0 := Tryz.sizeOf0
  v0 := Tryz.zeroValue0
  t3 := Tryz.underlying3
  a3 := Tryz.isAgg3
  z3 := Tryz.sizeOf3
  v3 := Tryz.zeroValue3
  t4 := Tryz.underlying4
  a4 := Tryz.isAgg4
  z4 := Tryz.sizeOf4
  v4 := Tryz.zeroValue4
  t5 := Tryz.underlying5
  a5 := Tryz.isAgg5
  z5 := Tryz.sizeOf5
  v5 := Tryz.zeroValue5
  t9 := Tryz.underlying9
  a9 := Tryz.isAgg9
  z9 := Tryz.sizeOf9
  v9 := Tryz.zeroValue9
  t22 := Tryz.underlying46
  a22 := Tryz.isAgg46
  z22 := Tryz.sizeOf46
  v22 := Tryz.zeroValue46
  t25 := Tryz.underlying168
  a25 := Tryz.isAgg168
  z25 := Tryz.sizeOf168
  v25 := Tryz.zeroValue168
  t39 := Tryz.underlying176
  a39 := Tryz.isAgg176
  z39 := Tryz.sizeOf176
  v39 := Tryz.zeroValue176
  t45 := Tryz.underlying206
  a45 := Tryz.isAgg206
  z45 := Tryz.sizeOf206
  v45 := Tryz.zeroValue206
  t46 := Tryz.underlying207
  a46 := Tryz.isAgg207
  z46 := Tryz.sizeOf207
  v46 := Tryz.zeroValue207
  t50 := Tryz.underlying212
  a50 := Tryz.isAgg212
  z50 := Tryz.sizeOf212
  v50 := Tryz.zeroValue212
  t53 := Tryz.underlying215
  a53 := Tryz.isAgg215
  z53 := Tryz.sizeOf215
  v53 := Tryz.zeroValue215
  t55 := Tryz.underlying217
  a55 := Tryz.isAgg217
  z55 := Tryz.sizeOf217
  v55 := Tryz.zeroValue217
  t66 := Tryz.underlying247
  a66 := Tryz.isAgg247
  z66 := Tryz.sizeOf247
  v66 := Tryz.zeroValue247
  t70 := Tryz.underlying251
  a70 := Tryz.isAgg251
  z70 := Tryz.sizeOf251
  v70 := Tryz.zeroValue251
  t76 := Tryz.underlying266
  a76 := Tryz.isAgg266
  z76 := Tryz.sizeOf266
  v76 := Tryz.zeroValue266
  t77 := Tryz.underlying185
  a77 := Tryz.isAgg185
  z77 := Tryz.sizeOf185
  v77 := Tryz.zeroValue185 }
end Go.Proofs
namespace Go.Proofs.YthaoedfalkebbaaGreat.Lck
open Go.RowKit Go.Maps Go.Sort Go.Lib Go.Proofs.YthaoedfalkebbaaGreatW.PrintWords Go.Proofs.YthaoedfalkebbaaGreatW.PrintLast Go.Proofs.YthaoedfalkebbaaGreatW.PrintMore
set_option linter.unusedVariables false
set_option linter.unusedSimpArgs false
set_option linter.unusedSectionVars false
theorem ltOf_cmpL (x y : Lk) : ltOf cmpL x y = true ↔ ltL x y := by
  unfold ltOf
  rw [decide_eq_true_iff]
  exact (cmpL_lt x y).1
theorem ltOf_cmpL_false (x y : Lk) : ltOf cmpL x y = false ↔ ¬ ltL x y := by
  rw [← ltOf_cmpL, Bool.not_eq_true]
theorem swoL : SWO (ltOf cmpL) where
  irrefl x := (ltOf_cmpL_false _ _).2 (ltL_irrefl x)
  trans x y z h k := (ltOf_cmpL _ _).2 (ltL_trans ((ltOf_cmpL _ _).1 h) ((ltOf_cmpL _ _).1 k))
  ntrans x y z h k := by
    rw [ltOf_cmpL_false] at *
    intro hz
    rcases ltL_total x y with e | e | e
    · exact h e
    · subst e; exact k hz
    · rcases ltL_total y z with f | f | f
      · exact k f
      · subst f; exact h hz
      · exact ltL_irrefl _ (ltL_trans (ltL_trans hz f) e)
theorem totL (x y : Lk) (h : ltOf cmpL x y = false) (k : ltOf cmpL y x = false) : x = y := by
  rw [ltOf_cmpL_false] at *
  rcases ltL_total x y with e | e | e
  · exact absurd e h
  · exact e
  · exact absurd e k
def srt (xs : List Lk) : List Lk := xs.mergeSort fun x y => !(ltOf cmpL) y x
theorem srt_length (xs : List Lk) : (srt xs).length = xs.length := by simp [srt]
set_option maxRecDepth 100000 in
theorem sort_calls (W : World) (base : Nat) (ok : Nat → Prop) (v : Value) (xs : List Lk) (h : dL.R 23 W base ok v xs) (hl : xs.length < 4611686018427387904) :
    Calls Tryz.prog 95 #[v, .func (.func 96) #[] #[]] W fun e w' => e = .returned (.tuple #[]) ∧ dL.R 23 w' base ok v (srt xs) ∧ W.grownBy w' v.ownBlock := by
  obtain ⟨inner, ho⟩ := Kd.R_own h
  rcases ho.2 with ⟨rfl, hn⟩ | ⟨g, cap, cur, rfl, hb, hh, _⟩
  · obtain rfl : xs = [] := List.eq_nil_of_length_eq_zero hn
    refine (AnyF.slices_SortFunc_none Tryz.sortLk none 0 _ W).mono ?_
    rintro e w' ⟨rfl, rfl⟩
    exact ⟨rfl, by rw [show srt [] = [] by simp [srt]]; exact Kd.R_nil _ _ _ _ _, ⟨rfl, rfl, rfl, Nat.le_refl _, fun _ _ _ => rfl⟩⟩
  · have eg : ∀ args w, (callFunc 96 args).run Tryz.prog w = .ok (.enter 96 args) w := enters_of Tryz.func96 (by kernel_rfl) rfl
    have hlt : g < W.heap.size := (Array.getElem?_eq_some_iff.1 hh).1
    have hc : CmpLays Tryz.prog 96 #[] cellsL 2 cmpL g 0 xs.toArray.size W := fun m os dk _ x y => closure_calls x y _
    have hcon := AnyQ.slices_SortFunc_total Tryz.sortLk 2 Tryz.isAgg23 Tryz.sizeOf23 cellsL (fun _ => rfl) (fun x u hu => by simp [cellsL] at hu; rcases hu with rfl | rfl <;> rfl) cmpL swoL 96 #[] g 0 cap xs.toArray W eg hc (flat_holds h) hlt (by simpa using hl) totL
    rw [show xs.toArray.size = xs.length from rfl] at hcon
    refine Calls.mono hcon ?_
    rintro e w' ⟨rfl, n, os, rfl⟩
    obtain ⟨h2, h3⟩ := flat_sorted h (srt_length xs) n os
    rw [srt_length] at h2
    exact ⟨rfl, h2, h3⟩
end Go.Proofs.YthaoedfalkebbaaGreat.Lck
namespace Go.Proofs.YthaoedfalkebbaaGreat.Lck
open Go.RowKit Go.Maps Go.Proofs.YthaoedfalkebbaaGreatW.PrintWords Go.Proofs.YthaoedfalkebbaaGreatW.PrintLast Go.Proofs.YthaoedfalkebbaaGreatW.PrintMore
set_option linter.unusedVariables false
set_option linter.unusedSimpArgs false
set_option linter.unusedSectionVars false
section
variable {ops : Array Oper} {rest : List Oper} {o : Oper} {a : Act} {Q : Exit → Act → World → Prop}
theorem appL {w W : World} {z : Nat} {s x : Operand} {v : Value} {xs : List Lk} {y : Lk} {ok : Nat → Prop} (hgd : o.guard = none) (ho : o.op = .call { callee := .builtin .append, args := #[s, x], argTypes := #[46, 46] })
    (hs : a.eval s = v) (hx : a.eval x = .slice (some ⟨z, 0, none⟩) 1 1) (HO : dL.R 23 W w.heap.size ok v xs) (HB : Below w.heap.size w W) (hl : xs.length ≤ 4096) (hz : W.heap.size = z) (hfresh : ∀ k, W.heap.size ≤ k → ok k)
    (h : ∀ v1 w1, dL.R 23 w1 w.heap.size ok v1 (xs ++ [y]) → Below w.heap.size w w1 → W.grownBy w1 v.ownBlock → wpList Tryz.prog ops Q rest (a.put o.dst v1) w1) : wpList Tryz.prog ops Q (o :: rest) a (W.alloc (.cells #[.string y.1, .string y.2] 23)) := by
  subst hz
  refine Kd.R_append dL (w0 := w) w.heap.size hgd s x 46 23 _ 32 ho Tryz.underlying46 info23 rfl (by decide) (by decide) v xs y [.string y.1, .string y.2] ok (fun _ => False) hs hx rfl (fun _ hk => hk.elim) hfresh HO HB HB.size (by omega) ?_
  intro v1 w1 h1 h2 h3 _
  exact h v1 w1 h1 h2 h3
end
theorem rng_apart {w : World} {b r n : Nat} {L rem : List (Lk × Int)} (h : RngL w b r n L rem) : rem.Pairwise (fun p p' => p.1 ≠ p'.1) := by
  obtain ⟨D, left, _, _, h3, _⟩ := h
  exact h3
/-- under way: what has been seen, what is to come, what has been gathered -/
def HI (w : World) (b r : Nat) (L : List (Lk × Int)) (tx : Int) (v : Value) (wr : World) : Prop :=
  ∃ vis rem : List (Lk × Int), (vis ++ rem).Perm L ∧ RngL wr b r L.length L rem ∧ w.heap.size ≤ r ∧ dL.R 23 wr w.heap.size (fun k => k ≠ r) v ((vis.filter (fun p => p.2 = tx)).map (·.1)) ∧ Below w.heap.size w wr
theorem srt_perm {xs ys : List Lk} (h : xs.Perm ys) : srt xs = srt ys := by
  have ps : ∀ zs : List Lk, (srt zs).Pairwise (fun x y => ¬ ltL y x) := fun zs => by
    have := List.pairwise_mergeSort (le := fun x y => !(ltOf cmpL) y x) (fun a b c h k => by
      simp only [Bool.not_eq_true', ltOf_cmpL_false] at *
      intro e
      rcases ltL_total a b with f | f | f
      · exact k (ltL_trans e f)
      · subst f; exact k e
      · exact h f) (fun a b => by
      by_cases e : ltL b a
      · have : ltOf cmpL a b = false := (ltOf_cmpL_false _ _).2 (fun f => ltL_irrefl _ (ltL_trans e f))
        simp [this]
      · simp [(ltOf_cmpL_false _ _).2 e]) zs
    refine this.imp ?_
    intro a b hab
    simpa [ltOf_cmpL_false] using hab
  refine List.Perm.eq_of_pairwise (fun a b _ _ h1 h2 => ?_) (ps xs) (ps ys) ((List.mergeSort_perm ..).trans (h.trans (List.mergeSort_perm ..).symm))
  rcases ltL_total a b with e | e | e
  · exact absurd e h2
  · exact e
  · exact absurd e h1
/-- a transaction's locks -/
def heldOf (L : List (Lk × Int)) (tx : Int) : List Lk := srt ((L.filter (fun p => p.2 = tx)).map (·.1))
set_option maxHeartbeats 4000000 in
set_option maxRecDepth 100000 in
theorem Held_calls (p b : Nat) (most : Int) (L : List (Lk × Int)) (tx : Int) (w : World) (h : Mg w p b most L) (hL : L.length ≤ 4096) :
    Calls Tryz.prog 51 #[.pointer (some ⟨p, 0, none⟩), .int .i64 tx] w fun e w' => ∃ v, e = .returned v ∧ dL.R 23 w' w.heap.size (fun _ => True) v (heldOf L tx) ∧ Below w.heap.size w w' := by
  have N := none_calls p b w h.map
  have hm := h.map
  obtain ⟨w1, hrun, hR, hg1, hs1⟩ := Tab.range (t := 145) keyL Tryz.underlying145 h.tab
  go_enter Tryz.func51, Tryz.ntmps51
  go_wp2_with fail
  refine N.mono ?_
  rintro e w' ⟨rfl, rfl⟩
  go_wp2_with fail
  go_loopw [5] (fun v wr => HI w b w.heap.size L tx v wr) (fun _ wr => wr.rangeLeft b w.heap.size)
  case atStart =>
    refine ⟨[], L, List.Perm.refl _, hR, Nat.le_refl _, Kd.R_nil _ _ _ _ _, ⟨hg1.os, hg1.tape, hg1.output, hg1.size, fun i hi => hg1.block i hi (by simp)⟩⟩
  case round =>
    obtain ⟨vis, rem, hp, hr, hle, hv, hB⟩ := hrel
    rcases hr.next keyL Tryz.underlying2 0 with ⟨hnil, hrun1⟩ | ⟨a, x, w2, hmem, hok, hwf, hrun1, hr2, hlt, hg2, hs2, hent⟩
    · subst hnil
      rw [List.append_nil] at hp
      have hlen : ((vis.filter (fun p => p.2 = tx)).map (·.1)).length < 4611686018427387904 := by
        rw [List.length_map]
        have h1 := List.length_filter_le (fun p : Lk × Int => decide (p.2 = tx)) vis
        have h2 := hp.length_eq
        omega
      have S := sort_calls wr w.heap.size _ u5 _ hv hlen
      go_wp2_with fail
      refine S.mono ?_
      rintro e w3 ⟨rfl, H3, G3⟩
      go_wp2
      go_ret
      refine ⟨_, rfl, ?_, ?_⟩
      · have e1 : srt ((vis.filter (fun p => p.2 = tx)).map (·.1)) = heldOf L tx := srt_perm ((hp.filter _).map _)
        rw [← e1]
        exact Kd.R_mono H3 (fun _ _ => trivial)
      · exact hB.grown G3 hB.size (fun k hk => Kd.R_base hv k hk)
    · unfold mkL at hrun1 hent
      by_cases hx : x = tx
      · subst hx
        have hv2 : dL.R 23 w2 w.heap.size (fun k => k ≠ w.heap.size) u5 ((vis.filter (fun p => p.2 = x)).map (·.1)) := Kd.R_grown hv hg2 (fun k hk e => hk (by injection e))
        have hB2 : Below w.heap.size w w2 := hB.grown hg2 hB.size (fun k e => by cases e; exact Nat.le_refl _)
        have hlen : ((vis.filter (fun p => p.2 = x)).map (·.1)).length ≤ 4096 := by
          rw [List.length_map]
          have h1 := List.length_filter_le (fun p : Lk × Int => decide (p.2 = x)) vis
          have h2 := hp.length_eq
          rw [List.length_append] at h2
          omega
        have hv3 := fun o => Kd.R_below hv2 (below_alloc (Below.refl _ w2) o)
        have hB3 := fun o => below_alloc hB2 o
        have hr3 := w.heap.size
        have hsz : w.heap.size ≤ w2.heap.size := hB2.size
        have hrl : w.heap.size < wr.heap.size := by
          obtain ⟨D, left, h1, _⟩ := hr
          exact h1.lt
        go_wp2_with (at_builtin; refine appL (v := u5) rfl rfl rfl rfl (hv3 _) (hB3 _) hlen (by simp; omega) (fun k hk e => by simp at hk; omega) ?_; intro v1 w3 H3 B3 G3)
        have hbl := h.tab.lt
        have hob : ∀ k, u5.ownBlock = some k → k ≠ w.heap.size ∧ w.heap.size ≤ k := fun k hk => ⟨hv.1 k hk, Kd.R_base hv k hk⟩
        obtain ⟨hr4, el⟩ := hr2.kept (World.grownBy_alloc w2 (.cells #[.string a.1, .string a.2] 23) none) (by simp) (by simp)
        obtain ⟨hr6, el3⟩ := hr4.kept G3 (fun e => by have := (hob _ e.symm).2; omega) (fun e => (hob _ e.symm).1 rfl)
        refine ⟨⟨vis ++ [(a, x)], _, perm_next (rng_apart hr) hp hmem, hr6, Nat.le_refl _, ?_, B3⟩, by rw [el3, el]; exact hlt⟩
        rw [List.filter_append, List.map_append]
        simpa using H3
      · have hx' : (x == tx) = false := by simpa using hx
        go_wp2_with fail
        obtain ⟨hr4, el⟩ := hr2.kept (World.grownBy_alloc w2 (.cells #[.string a.1, .string a.2] 23) none) (by simp) (by simp)
        refine ⟨⟨vis ++ [(a, x)], _, perm_next (rng_apart hr) hp hmem, hr4, Nat.le_refl _, ?_, ?_⟩, by rw [el]; exact hlt⟩
        · rw [List.filter_append, List.map_append]
          have hv2 := Kd.R_below (Kd.R_grown hv hg2 (fun k hk e => hk (by injection e))) (below_alloc (Below.refl _ w2) (.cells #[.string a.1, .string a.2] 23))
          simpa [hx] using hv2
        · exact below_alloc (hB.grown hg2 hB.size (fun k e => by cases e; exact Nat.le_refl _)) _
end Go.Proofs.YthaoedfalkebbaaGreat.Lck
namespace Go.Proofs.YthaoedfalkebbaaGreat.Lck
open Go.RowKit Go.Maps Go.Sort Go.Proofs.YthaoedfalkebbaaGreatW.PrintWords Go.Proofs.YthaoedfalkebbaaGreatW.PrintLast Go.Proofs.YthaoedfalkebbaaGreatW.PrintMore
set_option linter.unusedVariables false
set_option linter.unusedSimpArgs false
set_option linter.unusedSectionVars false
/-- the release under way -/
def RI (w w1 : World) (b : Nat) (L : List (Lk × Int)) (xs : List Lk) (v i : Value) (wr : World) : Prop :=
  ∃ k : Nat, k ≤ xs.length ∧ i = .int .i64 k ∧ TabL wr b L.length (L.filter (fun p => (xs.take k).all (fun a => decide (p.1 ≠ a)))) ∧ dL.R 23 wr w.heap.size (fun k => k ≠ b) v xs ∧ w1.grownBy wr (some b)
theorem Mg.good {w : World} {p b : Nat} {most : Int} {L : List (Lk × Int)} (h : Mg w p b most L) : ∀ q ∈ L, okL q.1 := by
  obtain ⟨D, _, h2⟩ := h.tab
  exact h2.good
theorem heldOf_length (L : List (Lk × Int)) (tx : Int) : (heldOf L tx).length = (L.filter (fun p => p.2 = tx)).length := by simp [heldOf, srt_length]
theorem heldOf_mem {L : List (Lk × Int)} {tx : Int} {a : Lk} : a ∈ heldOf L tx ↔ (a, tx) ∈ L := by
  unfold heldOf srt
  rw [List.mem_mergeSort]
  simp only [List.mem_map, List.mem_filter, decide_eq_true_eq]
  constructor
  · rintro ⟨⟨x, y⟩, ⟨h1, h2⟩, rfl⟩
    simp only at h2
    subst h2
    exact h1
  · intro h
    exact ⟨_, ⟨h, rfl⟩, rfl⟩
theorem without_step {L : List (Lk × Int)} {xs : List Lk} {k : Nat} (hk : k < xs.length) {a : Lk} (ha : xs.getD k (ByteArray.empty, ByteArray.empty) = a) :
    L.filter (fun p => (xs.take (k + 1)).all (fun a => decide (p.1 ≠ a))) = (L.filter (fun p => (xs.take k).all (fun a => decide (p.1 ≠ a)))).filter (fun p => p.1 ≠ a) := by
  have e : xs[k] = a := by rw [← ha, List.getD_eq_getElem?_getD, List.getElem?_eq_getElem hk]; rfl
  rw [List.filter_filter, List.take_succ_eq_append_getElem hk, e]
  congr 1
  funext p
  rw [List.all_append]
  simp [Bool.and_comm]
theorem without_all {L : List (Lk × Int)} (hL : L.Pairwise (fun p p' => p.1 ≠ p'.1)) (tx : Int) : L.filter (fun p => (heldOf L tx).all (fun a => decide (p.1 ≠ a))) = L.filter (fun p => p.2 ≠ tx) := by
  refine List.filter_congr fun p hp => ?_
  rw [Bool.eq_iff_iff]
  simp only [List.all_eq_true, decide_eq_true_eq]
  constructor
  · rintro h rfl
    exact h p.1 (heldOf_mem.2 hp) rfl
  · rintro h a ha rfl
    have h1 := mem_got hL (heldOf_mem.1 ha)
    have h2 := mem_got hL (show (p.1, p.2) ∈ L from hp)
    rw [h1] at h2
    exact h (Option.some.inj h2).symm
set_option maxHeartbeats 4000000 in
set_option maxRecDepth 100000 in
theorem Release_calls (p b : Nat) (most : Int) (L : List (Lk × Int)) (tx : Int) (w : World) (h : Mg w p b most L) (hL : L.length ≤ 4096) :
    Calls Tryz.prog 53 #[.pointer (some ⟨p, 0, none⟩), .int .i64 tx] w fun e w' => e = .returned (.int .i64 ((L.filter (fun p => p.2 = tx)).length : Nat)) ∧ Mg w' p b most (L.filter (fun p => p.2 ≠ tx)) ∧ w.grownBy w' (some b) := by
  have N := none_calls p b w h.map
  have hm := h.map
  have hH := Held_calls p b most L tx w h hL
  go_enter Tryz.func53, Tryz.ntmps53
  go_wp2_with fail
  refine N.mono ?_
  rintro e w' ⟨rfl, rfl⟩
  go_wp2_with fail
  refine hH.mono ?_
  rintro e w1 ⟨v, rfl, H1, B1⟩
  obtain ⟨A, c, rfl, hle, hC⟩ := Kd.R_reads H1
  go_wp2_with fail
  have hs1 := B1.size
  have hb0 := h.tab.lt
  have hp0 := World.block_lt_of_cell? _ _ hm
  have hne := h.ne
  have hlen : (heldOf L tx).length ≤ 4096 := by
    rw [heldOf_length]
    exact Nat.le_trans (List.length_filter_le _ _) hL
  go_loopw [15] (fun i wr => RI w w1 b L (heldOf L tx) (.slice A (heldOf L tx).length c) i wr) (fun i _ => (heldOf L tx).length - (intOf i).toNat)
  case atStart =>
    refine ⟨0, Nat.zero_le _, rfl, ?_, ?_, ?_⟩
    · have : L.filter (fun p => ((heldOf L tx).take 0).all (fun a => decide (p.1 ≠ a))) = L := List.filter_eq_self.2 (fun _ _ => rfl)
      rw [this]
      exact (h.below B1).tab
    · exact Kd.R_mono (Kd.R_bound H1) (fun k hk e => by have := hk.2.1; omega)
    · exact ⟨rfl, rfl, rfl, Nat.le_refl _, fun _ _ _ => rfl⟩
  case round =>
    obtain ⟨k, hk, rfl, hT, hR, hG⟩ := hrel
    by_cases hlt : k < (heldOf L tx).length
    · obtain ⟨ad, cs, rfl, hcl, hcs, hcc⟩ := Kd.C_get (Kd.R_reads' hR).2.2 (ByteArray.empty, ByteArray.empty) (k : Int) (by omega) (by omega)
      generalize haa : (heldOf L tx).getD (k : Int).toNat (ByteArray.empty, ByteArray.empty) = a at hcs
      obtain rfl : cs = cellsL a := hcs
      have q0 : wr.cell? (ad.add (k * 2)) = some (.string a.1) := hcc 0 _ rfl
      have q1 : wr.cell? (ad.add (k * 2 + 1)) = some (.string a.2) := hcc 1 _ rfl
      obtain ⟨g, rfl⟩ := Kd.R_head hR
      rw [add_plain] at q0 q1
      clear hcc hcl
      obtain ⟨w2, hw2⟩ : ∃ w2, w2 = wr.alloc (.cells #[.string a.1, .string a.2] 23) := ⟨_, rfl⟩
      have hg2 : wr.grownBy w2 none := by rw [hw2]; exact World.grownBy_alloc _ _ _
      have hmr : wr.cell? ⟨p, 1, none⟩ = some (.map (some b)) := hG.cell (B1.cell hp0 |>.trans hm) (fun e => by injection e with e; exact hne e)
      have hm2 : w2.cell? ⟨p, 1, none⟩ = some (.map (some b)) := hg2.cell hmr (by simp)
      have c0 : w2.cell? ⟨wr.heap.size, 0, none⟩ = some (.string a.1) := by rw [hw2]; simp [go_sem]
      have c1 : w2.cell? ⟨wr.heap.size, 1, none⟩ = some (.string a.2) := by rw [hw2]; simp [go_sem]
      have hka : (heldOf L tx).getD k (ByteArray.empty, ByteArray.empty) = a := haa
      have hok : okL a := by
        have hm : a ∈ heldOf L tx := by
          rw [← hka, List.getD_eq_getElem?_getD, List.getElem?_eq_getElem hlt]
          exact List.getElem_mem hlt
        exact h.good _ (heldOf_mem.1 hm)
      have hbr : b < wr.heap.size := Nat.lt_of_lt_of_le (Nat.lt_of_lt_of_le hb0 hs1) hG.size
      have ht2 : TabL w2 b L.length _ := hT.kept hg2 (by simp)
      obtain ⟨w3, hst, ht3, hturn⟩ := Tab.drop (w := w2.drew) (t := 145) keyL Tryz.underlying145 (show TabL w2.drew b L.length _ from ht2) hok 0
      unfold mkL at hst
      have hg3 := turned_grown hturn
      have hb3 : ∀ q j v, w2.cell? ⟨q, j, none⟩ = some v → q ≠ b → w3.cell? ⟨q, j, none⟩ = some v := fun q j v hv hq => hg3.cell (show w2.drew.cell? _ = _ from hv) (fun e => by injection e with e; exact hq e)
      have hm3 := hb3 _ _ _ hm2 hne
      have d0 := hb3 _ _ _ c0 (by omega)
      have d1 := hb3 _ _ _ c1 (by omega)
      clear hb3 hmr
      go_wp2_with fail
      rw [← hw2]
      clear hw2
      go_region_held3 (fun W => W.cell? ⟨p, 1, none⟩ = some (.map (some b)) ∧ W.cell? ⟨wr.heap.size, 0, none⟩ = some (.string a.1) ∧ W.cell? ⟨wr.heap.size, 1, none⟩ = some (.string a.2)) (first | exact ⟨hm2, c0, c1⟩ | exact ⟨hm3, d0, d1⟩) (fail)
      go_wp2
      go_roundw
      case rel =>
        refine ⟨k + 1, by omega, by go_num, ?_, ?_, ?_⟩
        · rw [without_step hlt hka]; exact ht3
        · have hR2 := Kd.R_grown hR hg2 (fun _ _ => by simp)
          exact Kd.R_grown (w := w2.drew) hR2 hg3 (fun k hk e => hk (by injection e))
        · exact ⟨hg3.os.trans (hg2.os.trans hG.os), hg3.tape.trans (hg2.tape.trans hG.tape), hg3.output.trans (hg2.output.trans hG.output), Nat.le_trans hG.size (Nat.le_trans hg2.size hg3.size), fun i hi hne => (hg3.block i (Nat.lt_of_lt_of_le hi (Nat.le_trans hG.size hg2.size)) hne).trans ((hg2.block i (Nat.lt_of_lt_of_le hi hG.size) (by simp)).trans (hG.block i hi hne))⟩
      case measure => simp [intOf]; omega
    · obtain rfl : k = (heldOf L tx).length := by omega
      go_wp2
      go_ret
      refine ⟨by rw [heldOf_length]; rfl, ⟨?_, ?_, ?_⟩, ?_⟩
      · exact hG.cell (B1.cell hp0 |>.trans h.most) (fun e => by injection e with e; exact hne e)
      · exact hG.cell (B1.cell hp0 |>.trans hm) (fun e => by injection e with e; exact hne e)
      · rw [List.take_length, without_all h.tab.tidy] at hT
        have hE := hT.exact
        simpa using hE
      · exact ⟨hG.os.trans B1.os, hG.tape.trans B1.tape, hG.output.trans B1.output, Nat.le_trans B1.size hG.size, fun i hi hne => (hG.block i (Nat.lt_of_lt_of_le hi B1.size) hne).trans (B1.block i hi)⟩
end Go.Proofs.YthaoedfalkebbaaGreat.Lck
namespace Go.Proofs.YthaoedfalkebbaaGreat.Lck
open Go.RowKit Go.Maps Go.Sort Go.Proofs.YthaoedfalkebbaaGreatW.PrintWords Go.Proofs.YthaoedfalkebbaaGreatW.PrintLast Go.Proofs.YthaoedfalkebbaaGreatW.PrintMore
set_option linter.unusedVariables false
set_option linter.unusedSimpArgs false
set_option linter.unusedSectionVars false
theorem eqLk (x y : Lk) (w : World) : (binOp .eql 23 (.agg #[.string x.1, .string x.2]) (.agg #[.string y.1, .string y.2])).run Tryz.prog w = .ok (.bool (decide (x = y))) w := by
  have u9 := Tryz.underlying9
  have a9 := Tryz.isAgg9
  have z9 := Tryz.sizeOf9
  have hS : Tryz.prog.underlying 23 = some (.struct (Tryz.prog.fieldsOf 23)) := by kernel_rfl
  have hp : Tryz.prog.stoodInHeld 23 = false := by kernel_rfl
  rw [run_eql_struct, show (10000 : Nat) = 9999 + 1 from rfl, run_equalIn_agg w 9999 23 _ _ hS hp]
  simp only [Program.fieldsOf, Tryz.underlying23]
  go_simp
  obtain ⟨a, b⟩ := x
  obtain ⟨c, d⟩ := y
  simp only [Prod.mk.injEq, toList_iff]
  by_cases h1 : a = c <;> by_cases h2 : b = d <;> simp [h1, h2]
theorem Take_any (p b : Nat) (most : Int) (L : List (Lk × Int)) (tx snap last : Int) (a : Lk) (w : World) (h : Mg w p b most L) (ha : okL a) (hwf : (Lit.int .i64 tx).wf = true) (hL : L.length < maxLen) :
    Calls Tryz.prog 42 #[.pointer (some ⟨p, 0, none⟩), .int .i64 tx, .int .i64 snap, .int .i64 last, .agg #[.string a.1, .string a.2]] w fun e w' => e = .returned (.int .i64 (tk most L tx snap last a).2) ∧ Mg w' p b most (tk most L tx snap last a).1 ∧ w.grownBy w' (some b) := by
  by_cases hx : tx < 1 ∨ snap < 0 ∨ last < 0
  · refine (Take_bad p b most L tx snap last a w h ha hx).mono ?_
    rintro e w' ⟨rfl, B⟩
    unfold tk
    rw [if_pos hx]
    exact ⟨rfl, h.below B, ⟨B.os, B.tape, B.output, B.size, fun i hi _ => B.block i hi⟩⟩
  · exact Take_calls p b most L tx snap last a w h ha hwf hL hx
end Go.Proofs.YthaoedfalkebbaaGreat.Lck
namespace Go.Proofs.YthaoedfalkebbaaGreat.Lck
open Go.RowKit Go.Maps Go.Sort Go.Proofs.YthaoedfalkebbaaGreatW.PrintWords Go.Proofs.YthaoedfalkebbaaGreatW.PrintLast Go.Proofs.YthaoedfalkebbaaGreatW.PrintMore
set_option linter.unusedVariables false
set_option linter.unusedSimpArgs false
set_option linter.unusedSectionVars false
set_option maxHeartbeats 4000000 in
set_option maxRecDepth 100000 in
theorem Holder_calls (p b : Nat) (most : Int) (L : List (Lk × Int)) (a : Lk) (w : World) (h : Mg w p b most L) (ha : okL a) :
    Calls Tryz.prog 40 #[.pointer (some ⟨p, 0, none⟩), .agg #[.string a.1, .string a.2]] w fun e w' => e = .returned (.tuple #[.int .i64 ((got L a).getD 0), .bool (got L a).isSome]) ∧ Below w.heap.size w w' := by
  obtain ⟨w1, hw1⟩ : ∃ w1, w1 = w.alloc (.cells #[.string a.1, .string a.2] 23) := ⟨_, rfl⟩
  have hB : Below w.heap.size w w1 := by rw [hw1]; exact (Below.refl _ w).alloc (Nat.le_refl _) _
  have hm1 : w1.cell? ⟨p, 1, none⟩ = some (.map (some b)) := (hB.cell (World.block_lt_of_cell? _ _ h.map)).trans h.map
  have ht1 : TabL w1 b L.length L := h.tab.kept (row := none) (by rw [hw1]; exact World.grownBy_alloc _ _ _) (by simp)
  have hc1 : w1.cell? ⟨w.heap.size, 0, none⟩ = some (.string a.1) := by rw [hw1]; simp [go_sem]
  have hc2 : w1.cell? ⟨w.heap.size, 1, none⟩ = some (.string a.2) := by rw [hw1]; simp [go_sem]
  have N := none_calls p b w1 hm1
  have hlook := Tab.look (w := w1.drew) (t := 145) keyL Tryz.underlying145 Tryz.underlying2 (show TabL w1.drew b L.length L from ht1) (by kernel_rfl) ha
  unfold mkL at hlook
  generalize (got L a).getD 0 = r1 at hlook ⊢
  generalize (got L a).isSome = r2 at hlook ⊢
  clear h ht1
  go_enter Tryz.func40, Tryz.ntmps40
  go_wp2_with fail
  rw [← hw1]
  clear hw1
  refine N.mono ?_
  rintro e w' ⟨rfl, rfl⟩
  go_wp2
  go_region_held3 (fun W => W.cell? ⟨p, 1, none⟩ = some (.map (some b)) ∧ W.cell? ⟨w.heap.size, 0, none⟩ = some (.string a.1) ∧ W.cell? ⟨w.heap.size, 1, none⟩ = some (.string a.2)) (first | exact ⟨hm1, hc1, hc2⟩) (fail)
  go_wp2
  go_ret2
  exact ⟨rfl, hB.os, hB.tape, hB.output, hB.size, hB.block⟩
end Go.Proofs.YthaoedfalkebbaaGreat.Lck
namespace Go.Proofs.YthaoedfalkebbaaGreat
open Go.RowKit Go.Maps Go.Sort Go.Lib Go.Shelf Go.Proofs.YthaoedfalkebbaaGreatW.PrintWords Go.Proofs.YthaoedfalkebbaaGreatW.PrintLast Go.Proofs.YthaoedfalkebbaaGreatW.PrintMore
set_option linter.unusedVariables false
set_option linter.unusedSimpArgs false
set_option linter.unusedSectionVars false
/-- what a step leaves that changes the blocks O alone -/
structure Fr (O : Nat → Prop) (w w' : World) : Prop where
  os : w'.os = w.os
  tape : w'.tape = w.tape
  output : w'.output = w.output
  size : w.heap.size ≤ w'.heap.size
  block : ∀ k o, ¬ O k → w.heap[k]? = some o → w'.heap[k]? = some o
theorem Fr.refl (O : Nat → Prop) (w : World) : Fr O w w := ⟨rfl, rfl, rfl, Nat.le_refl _, fun _ _ _ h => h⟩
theorem Fr.trans {O O2 : Nat → Prop} {w w1 w2 : World} (h1 : Fr O w w1) (h2 : Fr O2 w1 w2) (hs : ∀ k, O2 k → k < w.heap.size → O k) : Fr O w w2 :=
  ⟨h2.os.trans h1.os, h2.tape.trans h1.tape, h2.output.trans h1.output, Nat.le_trans h1.size h2.size, fun k o hk hw => h2.block k o (fun h => hk (hs k h (Array.getElem?_eq_some_iff.1 hw).1)) (h1.block k o hk hw)⟩
theorem Fr.mono {O O2 : Nat → Prop} {w w1 : World} (h : Fr O w w1) (hs : ∀ k, O k → k < w.heap.size → O2 k) : Fr O2 w w1 :=
  ⟨h.os, h.tape, h.output, h.size, fun k o hk hw => h.block k o (fun h => hk (hs k h (Array.getElem?_eq_some_iff.1 hw).1)) hw⟩
theorem Fr.grown {w w' : World} {row : Option Nat} (g : w.grownBy w' row) : Fr (fun k => row = some k) w w' :=
  ⟨g.os, g.tape, g.output, g.size, fun k o hk hw => (g.block k (Array.getElem?_eq_some_iff.1 hw).1 (fun e => hk e.symm)).trans hw⟩
theorem Fr.ofBut {base p b : Nat} {w w' : World} (h : But base p b w w') : Fr (fun k => k = p ∨ k = b) w w' :=
  ⟨h.below.os, h.below.tape, h.below.output, h.size, fun k o hk hw => h.cells k o (fun e => hk (.inl e)) (fun e => hk (.inr e)) hw⟩
theorem Fr.ofBelow {O : Nat → Prop} {w w' : World} (h : Below w.heap.size w w') : Fr O w w' :=
  ⟨h.os, h.tape, h.output, h.size, fun k o _ hw => (h.block k (Array.getElem?_eq_some_iff.1 hw).1).trans hw⟩
theorem Fr.below {O : Nat → Prop} {w w' : World} {n : Nat} (h : Fr O w w') (hn : n ≤ w.heap.size) (hO : ∀ k, O k → n ≤ k) : Below n w w' :=
  ⟨h.os, h.tape, h.output, by have := h.size; omega, fun k hk => by
    have hlt : k < w.heap.size := by omega
    rw [h.block k _ (fun h2 => by have := hO k h2; omega) (Array.getElem?_eq_getElem hlt), Array.getElem?_eq_getElem hlt]⟩
theorem Fr.cell {O : Nat → Prop} {w w' : World} (h : Fr O w w') {a : Addr} {v : Value} (hv : w.cell? a = some v) (hO : ¬ O a.block) : w'.cell? a = some v := by
  have hlt := World.block_lt_of_cell? _ _ hv
  exact (World.cell?_of_block ((h.block _ _ hO (Array.getElem?_eq_getElem hlt)).trans (Array.getElem?_eq_getElem hlt).symm)).trans hv
theorem Tab.move {P : Program} {α β : Type} {k : TypeId} {mk : α → Value} {ok : α → Prop} {R : Value → Option (DataW Unit × List MemPlace)} {cd : β → DataW Unit} {w w' : World} {b n : Nat} {L : List (α × β)} (h : Tab P k mk ok R cd w b n L) (e : w'.heap[b]? = w.heap[b]?) : Tab P k mk ok R cd w' b n L := by
  obtain ⟨D, ⟨es, clock, hb, F, hs, rfl⟩, h2⟩ := h
  exact ⟨_, ⟨es, clock, by rw [e]; exact hb, F, hs, rfl⟩, h2⟩
theorem Tab.fr {P : Program} {α β : Type} {k : TypeId} {mk : α → Value} {ok : α → Prop} {R : Value → Option (DataW Unit × List MemPlace)} {cd : β → DataW Unit} {w w' : World} {b n : Nat} {L : List (α × β)} {O : Nat → Prop} (h : Tab P k mk ok R cd w b n L) (f : Fr O w w') (hO : ¬ O b) : Tab P k mk ok R cd w' b n L := by
  obtain ⟨es, clock, hb⟩ := h.isMap
  exact h.move ((f.block b _ hO hb).trans hb.symm)
theorem Lck.Mg.fr {w w' : World} {p b : Nat} {m : Int} {L : List (Lck.Lk × Int)} {O : Nat → Prop} (h : Lck.Mg w p b m L) (f : Fr O w w') (hp : ¬ O p) (hb : ¬ O b) : Lck.Mg w' p b m L := by
  refine ⟨f.cell h.most hp, f.cell h.map hp, ?_⟩
  obtain ⟨D, ⟨es, clock, hm, F, hs, rfl⟩, h2⟩ := h.tab
  exact ⟨_, ⟨es, clock, f.block b _ hb hm, F, hs, rfl⟩, h2⟩
theorem MrS.fr {w w' : World} {base p b : Nat} {most : Int} {S : St} {O : Nat → Prop} (h : MrS w base p b most S) (f : Fr O w w') (hp : ¬ O p) (hb : ¬ O b) (hr : ∀ k c s, O k → w.heap[k]? = some (.cells c 108 s) → False) : MrS w' base p b most S := by
  obtain ⟨⟨L, M, hk, hbb⟩, r1, r2, r3, r4⟩ := h
  refine ⟨⟨L, ⟨f.block p _ hp M.cells, M.tab.fr f hb, M.low, fun e he => ?_, M.off, M.good⟩, hk, hbb⟩, r1, r2, r3, r4⟩
  refine (M.rows e he).move fun g hg => ?_
  obtain ⟨_, _, cells, hc⟩ := (M.rows e he).typed g hg
  exact (f.block g _ (fun h => hr g _ _ h hc) hc).trans hc.symm
def mvQ : Option Nat → Value
  | none => .pointer none
  | some q => .pointer (some ⟨q, 0, none⟩)
def cdQ : Option Nat → DataW Unit
  | none => .nil
  | some q => .lit (.int .i64 q)
def rQ : Value → Option (DataW Unit × List MemPlace)
  | .pointer none => some (.nil, [])
  | .pointer (some ⟨q, 0, none⟩) => some (.lit (.int .i64 q), [])
  | _ => none
theorem valQ : ValAs mvQ rQ cdQ where
  reads := fun b => by cases b <;> rfl
  inv := fun v y ps h => by
    unfold rQ at h
    split at h
    · injection h with h
      injection h with h1 h2
      exact ⟨none, rfl, h1.symm⟩
    · rename_i q
      injection h with h
      injection h with h1 h2
      exact ⟨some q, rfl, h1.symm⟩
    · cases h
  inj := fun b b' h => by
    rcases b with _ | q <;> rcases b' with _ | q'
    · rfl
    · cases h
    · cases h
    · simp [cdQ] at h
      rw [show q = q' by exact_mod_cast h]
def mkN (a : Int) : Value := .int .i64 a
def okN (a : Int) : Prop := (Lit.int .i64 a).wf = true
theorem keyN : KeyAs Tryz.prog 2 mkN okN where
  keyed := int_keyed Tryz.underlying2
  lit := fun a h => ⟨_, keyOf_int_mk Tryz.underlying2 h⟩
  inj := fun a b h => by injection h
  inv := fun v kl h => by
    obtain ⟨x, rfl, _, hw⟩ := Maps.keyOf_int_inv Tryz.underlying2 h
    exact ⟨x, hw, rfl⟩
abbrev TabT (w : World) (b n : Nat) (L : List (Int × Option Nat)) : Prop := Tab Tryz.prog 2 mkN okN rQ cdQ w b n L
abbrev RngT (w : World) (b r n : Nat) (L rem : List (Int × Option Nat)) : Prop := Rng Tryz.prog 2 mkN okN rQ cdQ w b r n L rem
theorem zero99 (w : World) : (zeroValue 99).run Tryz.prog w = .ok (mvQ none) w := Tryz.zeroValue99 w
def txCells (t : Tx) (v : Value) : Obj := .cells #[.int .i64 t.num, .int .i64 t.snap, .bool t.act, .int .i64 t.begun, .int .i64 t.ended, .bool t.fin, .bool t.fout, v] 101 (0, 0)
def hdCells (S : Sm St) (mb lp rp : Nat) : Obj := .cells #[.int .i64 S.caps.active, .int .i64 S.caps.kept, .int .i64 S.caps.reads, .int .i64 S.caps.locks, .int .i64 S.now, .int .i64 S.last, .int .i64 S.clock, .map (some mb), .pointer (some ⟨lp, 0, none⟩), .pointer (some ⟨rp, 0, none⟩)] 90 (0, 0)
def txL (Q : Int → Nat) (l : List Tx) : List (Int × Option Nat) := l.map (fun t => (t.num, some (Q t.num)))
/-- where the parts of a manager lie; F: blocks that are others' -/
structure Loc where
  p : Nat
  mb : Nat
  lp : Nat
  lb : Nat
  rp : Nat
  rb : Nat
  Q : Int → Nat
  F : Nat → Prop
structure Pm (w : World) (base : Nat) (l : Loc) (S : Sm St) : Prop where
  head : w.heap[l.p]? = some (hdCells S l.mb l.lp l.rp)
  tab : TabT w l.mb S.txs.length (txL l.Q S.txs)
  tx : ∀ t ∈ S.txs, ∃ v, w.heap[l.Q t.num]? = some (txCells t v) ∧ ∃ ws, Lo Lck.cellsL 2 23 w base v ws ∧ ws.length ≤ 4096 ∧ (∀ a, a ∈ ws ↔ a ∈ t.wrote) ∧ ∀ b, v.ownBlock = some b → ¬ l.F b
  qinj : ∀ t ∈ S.txs, ∀ u ∈ S.txs, l.Q t.num = l.Q u.num → t.num = u.num
  locks : Lck.Mg w l.lp l.lb S.caps.locks S.locks
  lkind : ∃ c s, w.heap[l.lp]? = some (.cells c 147 s)
  reads : MrS w base l.rp l.rb S.caps.reads S.reads
  dist : S.txs.Pairwise (fun a b => a.num < b.num)
  nums : ∀ t ∈ S.txs, 1 ≤ t.num ∧ t.num ≤ S.last ∧ okN t.num
  few : S.txs.length ≤ 65536
  ne1 : l.mb ≠ l.lb
  ne2 : l.mb ≠ l.rb
  ne3 : l.lb ≠ l.rb
  low : base ≤ l.p ∧ base ≤ l.mb ∧ base ≤ l.lp ∧ base ≤ l.lb ∧ base ≤ l.rb ∧ ∀ t ∈ S.txs, base ≤ l.Q t.num
/-- the blocks that are a manager's, and may change -/
def Loc.own (l : Loc) (txs : List Tx) (k : Nat) : Prop := k = l.p ∨ k = l.mb ∨ k = l.lb ∨ k = l.rp ∨ k = l.rb ∨ ∃ t ∈ txs, k = l.Q t.num
end Go.Proofs.YthaoedfalkebbaaGreat
namespace Go.Proofs.YthaoedfalkebbaaGreat
open Go.RowKit Go.Maps Go.Sort Go.Lib Go.Shelf Go.Proofs.YthaoedfalkebbaaGreatW.PrintWords Go.Proofs.YthaoedfalkebbaaGreatW.PrintLast Go.Proofs.YthaoedfalkebbaaGreatW.PrintMore
set_option linter.unusedVariables false
set_option linter.unusedSimpArgs false
set_option linter.unusedSectionVars false
abbrev ptr (q : Nat) : Value := .pointer (some ⟨q, 0, none⟩)
theorem eqm86 (b : Nat) (w : World) : (binOp .eql 86 (.map (some b)) (.map none)).run Tryz.prog w = .ok (.bool false) w := by kernel_rfl
theorem Pm.cells {w : World} {base : Nat} {l : Loc} {S : Sm St} (h : Pm w base l S) :
    w.cell? ⟨l.p, 0, none⟩ = some (.int .i64 S.caps.active) ∧ w.cell? ⟨l.p, 1, none⟩ = some (.int .i64 S.caps.kept) ∧ w.cell? ⟨l.p, 2, none⟩ = some (.int .i64 S.caps.reads) ∧ w.cell? ⟨l.p, 3, none⟩ = some (.int .i64 S.caps.locks) ∧ w.cell? ⟨l.p, 4, none⟩ = some (.int .i64 S.now) ∧ w.cell? ⟨l.p, 5, none⟩ = some (.int .i64 S.last) ∧ w.cell? ⟨l.p, 6, none⟩ = some (.int .i64 S.clock) ∧ w.cell? ⟨l.p, 7, none⟩ = some (.map (some l.mb)) ∧ w.cell? ⟨l.p, 8, none⟩ = some (ptr l.lp) ∧ w.cell? ⟨l.p, 9, none⟩ = some (ptr l.rp) :=
  ⟨cell_of_row w _ 0 _ 90 (0, 0) h.head, cell_of_row w _ 1 _ 90 (0, 0) h.head, cell_of_row w _ 2 _ 90 (0, 0) h.head, cell_of_row w _ 3 _ 90 (0, 0) h.head, cell_of_row w _ 4 _ 90 (0, 0) h.head, cell_of_row w _ 5 _ 90 (0, 0) h.head, cell_of_row w _ 6 _ 90 (0, 0) h.head, cell_of_row w _ 7 _ 90 (0, 0) h.head, cell_of_row w _ 8 _ 90 (0, 0) h.head, cell_of_row w _ 9 _ 90 (0, 0) h.head⟩
theorem tx_cells {w : World} {q : Nat} {t : Tx} {v : Value} (h : w.heap[q]? = some (txCells t v)) :
    w.cell? ⟨q, 0, none⟩ = some (.int .i64 t.num) ∧ w.cell? ⟨q, 1, none⟩ = some (.int .i64 t.snap) ∧ w.cell? ⟨q, 2, none⟩ = some (.bool t.act) ∧ w.cell? ⟨q, 3, none⟩ = some (.int .i64 t.begun) ∧ w.cell? ⟨q, 4, none⟩ = some (.int .i64 t.ended) ∧ w.cell? ⟨q, 5, none⟩ = some (.bool t.fin) ∧ w.cell? ⟨q, 6, none⟩ = some (.bool t.fout) ∧ w.cell? ⟨q, 7, none⟩ = some v :=
  ⟨cell_of_row w _ 0 _ 101 (0, 0) h, cell_of_row w _ 1 _ 101 (0, 0) h, cell_of_row w _ 2 _ 101 (0, 0) h, cell_of_row w _ 3 _ 101 (0, 0) h, cell_of_row w _ 4 _ 101 (0, 0) h, cell_of_row w _ 5 _ 101 (0, 0) h, cell_of_row w _ 6 _ 101 (0, 0) h, cell_of_row w _ 7 _ 101 (0, 0) h⟩
set_option maxRecDepth 100000 in
theorem none_s (p b : Nat) (w : World) (h : w.cell? ⟨p, 7, none⟩ = some (.map (some b))) : Calls Tryz.prog 38 #[ptr p] w fun e w' => e = .returned (.bool false) ∧ w = w' := by
  have eq := eqm86 b
  go_enter Tryz.func38, Tryz.ntmps38
  go_wp2
  go_ret
  exact ⟨rfl, rfl⟩
theorem got_tx (Q : Int → Nat) (l : List Tx) (n : Int) : got (txL Q l) n = (l.find? (fun t => t.num == n)).map (fun t => some (Q t.num)) := by
  unfold got txL
  rw [List.find?_map, Option.map_map]
  have e : (fun p : Int × Option Nat => decide (p.1 = n)) ∘ (fun t : Tx => (t.num, some (Q t.num))) = fun t => t.num == n := by
    funext t
    simp only [Function.comp]
    by_cases h : t.num = n <;> simp [h]
  rw [e]
  rfl
theorem txs_apart {w : World} {base : Nat} {l : Loc} {S : Sm St} (h : Pm w base l S) : S.txs.Pairwise (fun a b => a.num ≠ b.num) := by
  have := h.tab.tidy
  unfold txL at this
  rw [List.pairwise_map] at this
  exact this
theorem actv_find {l : List Tx} (h : l.Pairwise (fun a b => a.num ≠ b.num)) (n : Int) : l.find? (fun t => t.num == n && t.act) = (l.find? (fun t => t.num == n)).filter (·.act) := by
  induction l with
  | nil => rfl
  | cons t l ih =>
    rw [List.pairwise_cons] at h
    rw [List.find?_cons, List.find?_cons]
    cases hn : t.num == n with
    | false => simp only [Bool.false_and]; exact ih h.2
    | true =>
      cases ha : t.act with
      | true =>
        have e : Option.filter (fun x : Tx => x.act) (some t) = some t := by simp [Option.filter, ha]
        rw [e]
        rfl
      | false =>
        have e : Option.filter (fun x : Tx => x.act) (some t) = none := by simp [Option.filter, ha]
        rw [e]
        show l.find? (fun t => t.num == n && t.act) = none
        rw [List.find?_eq_none]
        intro u hu
        have := h.1 u hu
        simp only [beq_iff_eq] at hn
        simp only [Bool.and_eq_true, beq_iff_eq, not_and]
        intro e
        omega
/-- what active answers -/
def actV (l : Loc) (o : Option Tx) : Value := match o with
  | some t => .tuple #[ptr (l.Q t.num), .int .i64 0]
  | none => .tuple #[.pointer none, .int .i64 101]
set_option maxHeartbeats 2000000 in
set_option maxRecDepth 100000 in
theorem active_s (base : Nat) (l : Loc) (S : Sm St) (tx : Int) (w : World) (h : Pm w base l S) (hx : okN tx) :
    Calls Tryz.prog 39 #[ptr l.p, .int .i64 tx] w fun e w' => e = .returned (actV l (S.actv tx)) ∧ w = w' := by
  obtain ⟨_, _, _, _, _, _, _, c7, _, _⟩ := h.cells
  have N := none_s l.p l.mb w c7
  have LK := Tab.look (t := 86) (e := 99) keyN valQ Tryz.underlying86 h.tab (z := none) (zero99 w) hx
  have hap := txs_apart h
  rw [got_tx] at LK
  unfold Sm.actv
  rw [actv_find hap]
  cases hf : S.txs.find? (fun t => t.num == tx) with
  | none =>
    rw [hf] at LK
    replace LK : (Instr.lookup 86 (.map (some l.mb)) (.int .i64 tx) true).run Tryz.prog w = .ok (.tuple #[.pointer none, .bool false]) w := LK
    clear h hap hf
    go_enter Tryz.func39, Tryz.ntmps39
    go_wp2_with fail
    refine N.mono ?_
    rintro e w' ⟨rfl, rfl⟩
    go_wp2
    go_ret2
    exact ⟨rfl, rfl⟩
  | some t =>
    rw [hf] at LK
    have htm := List.mem_of_find?_eq_some hf
    have htn : t.num = tx := by have := List.find?_some hf; simpa using this
    obtain ⟨v, hv, _⟩ := h.tx t htm
    obtain ⟨_, _, d2, _⟩ := tx_cells hv
    replace LK : (Instr.lookup 86 (.map (some l.mb)) (.int .i64 tx) true).run Tryz.prog w = .ok (.tuple #[ptr (l.Q t.num), .bool true]) w := LK
    clear h hap hf htm hv
    obtain ⟨q, hq⟩ : ∃ q, q = l.Q t.num := ⟨_, rfl⟩
    rw [← hq] at LK d2
    replace htn := Aside0.mk htn
    cases ha : t.act with
    | true =>
      rw [ha] at d2
      have e : Option.filter (fun x : Tx => x.act) (some t) = some t := by simp [Option.filter, ha]
      have F : Ending.returned (.tuple #[ptr q, .int .i64 0]) = Ending.returned (actV l ((some t).filter (·.act))) := by
        rw [e, hq]
        rfl
      clear e
      replace hq := Aside0.mk hq
      replace ha := Aside0.mk ha
      replace F := Aside0.mk F
      go_enter Tryz.func39, Tryz.ntmps39
      go_wp2_with fail
      refine N.mono ?_
      rintro e w' ⟨rfl, rfl⟩
      go_wp2
      go_ret2
      exact ⟨F.out, rfl⟩
    | false =>
      rw [ha] at d2
      have F : Ending.returned (.tuple #[.pointer none, .int .i64 101]) = Ending.returned (actV l ((some t).filter (·.act))) := by
        have e : Option.filter (fun x : Tx => x.act) (some t) = none := by simp [Option.filter, ha]
        rw [e]
        rfl
      replace F := Aside0.mk F
      replace hq := Aside0.mk hq
      replace ha := Aside0.mk ha
      go_enter Tryz.func39, Tryz.ntmps39
      go_wp2_with fail
      refine N.mono ?_
      rintro e w' ⟨rfl, rfl⟩
      go_wp2
      go_ret2
      exact ⟨F.out, rfl⟩
end Go.Proofs.YthaoedfalkebbaaGreat
