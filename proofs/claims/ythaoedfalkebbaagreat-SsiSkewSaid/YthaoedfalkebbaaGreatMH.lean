import Derived.Test.YthaoedfalkebbaaGreatWMore
import Derived.WalkLawsBesides
import Derived.Maps.OwnSet
import Derived.Maps.RangeWalk
import Derived.Maps.Ext
import Derived.DeepKeys5
import Derived.Test.YthaoedfalkebbaaGreatProg
import Derived.Test.YthaoedfalkebbaaGreatMB
import Derived.Deep.Slices
import Derived.SizedLaws
import Derived.OpenShut
import Derived.ProofKit
import Derived.Test.YthaoedfalkebbaaGreatMD
import Derived.Sort.Grow
import Derived.Sort.Walk0
import Derived.Sort.Statements
namespace Go.Proofs.YthaoedfalkebbaaGreat.Lck
open Go.RowKit Go.Maps Go.Proofs.YthaoedfalkebbaaGreatW.PrintWords Go.Proofs.YthaoedfalkebbaaGreatW.PrintLast Go.Proofs.YthaoedfalkebbaaGreatW.PrintMore
set_option linter.unusedVariables false
set_option linter.unusedSimpArgs false
set_option linter.unusedSectionVars false
/-! ### a map of whole numbers, as the list of its entries -/
section
variable {P : Program} {α : Type} {k e t : TypeId} {q : IntKind} {mk : α → Value} {ok : α → Prop}
structure KeyAs (P : Program) (k : TypeId) (mk : α → Value) (ok : α → Prop) : Prop where
  keyed : Keyed P k
  lit : ∀ a, ok a → ∃ kl, keyOf P k (mk a) = some kl
  inj : ∀ a b, mk a = mk b → a = b
  inv : ∀ v kl, keyOf P k v = some kl → ∃ a, ok a ∧ v = mk a
/-- the datum D has just the entries L -/
structure Shows (P : Program) (k : TypeId) (q : IntKind) (mk : α → Value) (ok : α → Prop) (D : DataW Unit) (L : List (α × Int)) : Prop where
  size : Maps.size D = L.length
  apart : L.Pairwise (fun p p' => p.1 ≠ p'.1)
  good : ∀ p ∈ L, ok p.1
  has : ∀ a kl, keyOf P k (mk a) = some kl → (Maps.has D kl = true ↔ ∃ v, (a, v) ∈ L)
  at_ : ∀ p ∈ L, ∀ kl z, keyOf P k (mk p.1) = some kl → D.atKey kl z = .lit (.int q p.2)
/-- block b is a map with the entries L -/
def Tab (P : Program) (k e : TypeId) (q : IntKind) (mk : α → Value) (ok : α → Prop) (w : World) (b n : Nat) (L : List (α × Int)) : Prop :=
  ∃ D : DataW Unit, w.ownsMap P k (plainElem P e) b n D ∧ Shows P k q mk ok D L
theorem same_key (K : KeyAs P k mk ok) {a a' : α} {kl kl' : Lit} (h : keyOf P k (mk a) = some kl) (h' : keyOf P k (mk a') = some kl') : kl = kl' ↔ a = a' :=
  ⟨fun e => by subst e; exact K.inj _ _ (K.keyed.inj h h'), fun e => by subst e; rw [h] at h'; exact Option.some.inj h'⟩
theorem Tab.made (w : World) : Tab P k e q mk ok (w.alloc (.map #[] 0)) w.heap.size 0 [] :=
  ⟨_, World.ownsMap_made w P k _, ⟨rfl, List.Pairwise.nil, by simp, fun a kl _ => by simp [Maps.has], by simp⟩⟩
theorem Tab.kept {w w' : World} {b n : Nat} {L : List (α × Int)} {row : Option Nat} (h : Tab P k e q mk ok w b n L) (hg : w.grownBy w' row) (hne : some b ≠ row) : Tab P k e q mk ok w' b n L := by
  obtain ⟨D, h1, h2⟩ := h
  exact ⟨D, h1.kept hg hne, h2⟩
theorem Tab.lt {w : World} {b n : Nat} {L : List (α × Int)} (h : Tab P k e q mk ok w b n L) : b < w.heap.size := by
  obtain ⟨D, h1, _⟩ := h
  exact h1.lt
theorem Tab.mono {w : World} {b n n' : Nat} {L : List (α × Int)} (h : Tab P k e q mk ok w b n L) (hn : n ≤ n') : Tab P k e q mk ok w b n' L := by
  obtain ⟨D, h1, h2⟩ := h
  exact ⟨D, h1.mono hn, h2⟩
theorem Tab.tidy {w : World} {b n : Nat} {L : List (α × Int)} (h : Tab P k e q mk ok w b n L) : L.Pairwise (fun p p' => p.1 ≠ p'.1) := by
  obtain ⟨D, _, h2⟩ := h
  exact h2.apart
variable [DecidableEq α]
/-- what a look-up finds -/
def got (L : List (α × Int)) (a : α) : Option Int := (L.find? (fun p => p.1 = a)).map (·.2)
theorem got_mem {L : List (α × Int)} {a : α} {v : Int} (h : got L a = some v) : (a, v) ∈ L := by
  unfold got at h
  cases hf : L.find? (fun p => decide (p.1 = a)) with
  | none => rw [hf] at h; cases h
  | some p =>
    rw [hf] at h
    simp at h
    have h1 := List.find?_some hf
    have h2 := List.mem_of_find?_eq_some hf
    simp at h1
    obtain ⟨x, y⟩ := p
    simp at h h1
    subst h h1
    exact h2
theorem got_none {L : List (α × Int)} {a : α} (h : got L a = none) (v : Int) : (a, v) ∉ L := by
  unfold got at h
  simp only [Option.map_eq_none_iff, List.find?_eq_none] at h
  intro hm
  have := h _ hm
  simp at this
theorem mem_got {a : α} {v : Int} : ∀ {L : List (α × Int)}, L.Pairwise (fun p p' => p.1 ≠ p'.1) → (a, v) ∈ L → got L a = some v
  | p :: M, hL, h => by
    rw [List.pairwise_cons] at hL
    by_cases e : p.1 = a
    · rcases List.mem_cons.1 h with h | h
      · subst h; simp [got]
      · exact absurd e (hL.1 _ h)
    · have : got (p :: M) a = got M a := by simp [got, e]
      rw [this]
      rcases List.mem_cons.1 h with h | h
      · subst h; exact absurd rfl e
      · exact mem_got hL.2 h
theorem Shows.hit {D : DataW Unit} {L : List (α × Int)} (h : Shows P k q mk ok D L) {a : α} {kl : Lit} (hk : keyOf P k (mk a) = some kl) :
    (Maps.has D kl = (got L a).isSome) ∧ D.atKey kl (.lit (.int q 0)) = .lit (.int q ((got L a).getD 0)) := by
  cases hg : got L a with
  | none =>
    have hn : Maps.has D kl = false := by
      cases hh : Maps.has D kl with
      | false => rfl
      | true => obtain ⟨v, hv⟩ := (h.has a kl hk).1 hh; exact absurd hv (got_none hg v)
    exact ⟨by rw [hn]; rfl, by rw [atKey_of_not_has hn]; rfl⟩
  | some v =>
    have hm := got_mem hg
    exact ⟨by rw [(h.has a kl hk).2 ⟨v, hm⟩]; rfl, h.at_ _ hm kl _ hk⟩
theorem Shows.put (K : KeyAs P k mk ok) {D : DataW Unit} {L : List (α × Int)} (h : Shows P k q mk ok D L) (ht : Tidy D) {a : α} {v : Int} {kl : Lit} (ha : ok a) (hk : keyOf P k (mk a) = some kl) (hn : got L a = none) :
    Shows P k q mk ok (D.put kl (.lit (.int q v))) (L ++ [(a, v)]) := by
  have hkl := K.keyed.key hk
  have hno : Maps.has D kl = false := by rw [(h.hit hk).1, hn]; rfl
  refine ⟨?_, ?_, ?_, ?_, ?_⟩
  · rw [size_put ht, hno, h.size]; simp
  · rw [List.pairwise_append]
    refine ⟨h.apart, List.pairwise_singleton _ _, ?_⟩
    intro p hp p' hp' e
    rw [List.mem_singleton.1 hp'] at e
    obtain ⟨x, y⟩ := p
    simp at e
    subst e
    exact got_none hn _ hp
  · intro p hp
    rcases List.mem_append.1 hp with hp | hp
    · exact h.good p hp
    · rw [List.mem_singleton.1 hp]; exact ha
  · intro b kb hb
    by_cases e : b = a
    · subst e
      have : kb = kl := (same_key K hb hk).2 rfl
      subst this
      rw [has_put_same ht.isMap hkl]
      simp
    · have hne : kb ≠ kl := fun e' => e ((same_key K hb hk).1 e')
      rw [has_put_other hne, h.has b kb hb]
      simp [e]
  · intro p hp kb z hb
    rcases List.mem_append.1 hp with hp1 | hp1
    · have hne : kb ≠ kl := fun e' => by
        have := (same_key K hb hk).1 e'
        obtain ⟨x, y⟩ := p
        simp at this
        subst this
        exact got_none hn _ hp1
      rw [atKey_put_other hne]
      exact h.at_ p hp1 kb z hb
    · rw [List.mem_singleton.1 hp1] at hb ⊢
      have : kb = kl := (same_key K hb hk).2 rfl
      subst this
      rw [atKey_put_same ht.isMap hkl]
theorem Shows.del (K : KeyAs P k mk ok) {D : DataW Unit} {L : List (α × Int)} (h : Shows P k q mk ok D L) (ht : Tidy D) {a : α} {kl : Lit} (hk : keyOf P k (mk a) = some kl) :
    Shows P k q mk ok (D.del kl) (L.filter (fun p => p.1 ≠ a)) := by
  refine ⟨?_, h.apart.filter _, fun p hp => h.good p (List.mem_filter.1 hp).1, ?_, ?_⟩
  · have hs := size_del (k := kl) ht
    rw [h.size, (h.hit hk).1] at hs
    have hl : ∀ M : List (α × Int), M.Pairwise (fun p p' => p.1 ≠ p'.1) → (M.filter (fun p => p.1 ≠ a)).length + (if (got M a).isSome = true then 1 else 0) = M.length := by
      intro M
      induction M with
      | nil => intro _; simp [got]
      | cons p M ih =>
        intro hM
        rw [List.pairwise_cons] at hM
        have hi := ih hM.2
        by_cases e : p.1 = a
        · have hg : got M a = none := by
            cases hg : got M a with
            | none => rfl
            | some u => exact absurd e (hM.1 _ (got_mem hg))
          rw [hg] at hi
          simp [got, e] at hi ⊢
          omega
        · have : got (p :: M) a = got M a := by simp [got, e]
          rw [this]
          simp only [List.filter_cons, ne_eq, e, not_false_eq_true, decide_true, if_true, List.length_cons]
          simp only [ne_eq] at hi
          omega
    have := hl L h.apart
    omega
  · intro b kb hb
    by_cases e : b = a
    · subst e
      have : kb = kl := (same_key K hb hk).2 rfl
      subst this
      rw [has_del_same]
      simp
    · have hne : kb ≠ kl := fun e' => e ((same_key K hb hk).1 e')
      rw [has_del_other hne, h.has b kb hb]
      simp [e]
  · intro p hp kb z hb
    have hp' := List.mem_filter.1 hp
    have hne : kb ≠ kl := fun e' => by
      have := (same_key K hb hk).1 e'
      simp [this] at hp'
    rw [atKey_del_other hne]
    exact h.at_ p hp'.1 kb z hb
theorem Tab.look (K : KeyAs P k mk ok) (ht : P.underlying t = some (.map k e)) (he : P.underlying e = some (.int q)) {w : World} {b n : Nat} {L : List (α × Int)} (h : Tab P k e q mk ok w b n L) (hz : (zeroValue e).run P w = .ok (.int q 0) w) {a : α} (ha : ok a) :
    (Instr.lookup t (.map (some b)) (mk a) true).run P w = .ok (.tuple #[.int q ((got L a).getD 0), .bool (got L a).isSome]) w := by
  obtain ⟨D, h1, h2⟩ := h
  obtain ⟨kl, hk⟩ := K.lit a ha
  obtain ⟨v, ps, hrun, hv⟩ := h1.look_ok (zd := .lit (.int q 0)) (zp := []) K.keyed ht hz (plainElem_int he (by cases q <;> decide)) hk
  obtain ⟨c, rfl, hc, _⟩ := plainElem_int_inv he hv
  have hh := h2.hit hk
  have hc' : D.atKey kl (.lit (.int q 0)) = .lit (.int q c) := congrArg Prod.fst hc
  rw [hh.2] at hc'
  injection hc' with hc'
  injection hc' with _ hc'
  rw [hrun, hh.1, ← hc']
theorem Tab.len (ht : P.underlying t = some (.map k e)) {w : World} {b n : Nat} {L : List (α × Int)} (h : Tab P k e q mk ok w b n L) (ty : TypeId) : (Builtin.len_ #[t] ty #[.map (some b)]).run P w = .ok (.int .i64 (L.length : Int)) w := by
  obtain ⟨D, h1, h2⟩ := h
  rw [h1.len ht ty, h2.size]
theorem Tab.count {w : World} {b n : Nat} {L : List (α × Int)} (h : Tab P k e q mk ok w b n L) : L.length ≤ n := by
  obtain ⟨D, h1, h2⟩ := h
  rw [← h2.size]
  exact h1.size_le
theorem Tab.exact {w : World} {b n : Nat} {L : List (α × Int)} (h : Tab P k e q mk ok w b n L) : Tab P k e q mk ok w b L.length L := by
  obtain ⟨D, ⟨es, clock, hb, F, hs, rfl⟩, h2⟩ := h
  refine ⟨_, ⟨es, clock, hb, F, ?_, rfl⟩, h2⟩
  have := h2.size
  simp [Maps.size, length_sorted] at this
  omega
theorem Tab.store (K : KeyAs P k mk ok) (ht : P.underlying t = some (.map k e)) (he : P.underlying e = some (.int q)) {w : World} {b n : Nat} {L : List (α × Int)} (h : Tab P k e q mk ok w b n L) (hn : n < maxLen) {a : α} (ha : ok a) {v : Int} (hv : (Lit.int q v).wf = true) (hg : got L a = none) :
    ∃ w', (Instr.mapUpdate t (.map (some b)) (mk a) (.int q v)).run P w = .ok () w' ∧ Tab P k e q mk ok w' b (n + 1) (L ++ [(a, v)]) ∧ w.mapTurned w' b := by
  obtain ⟨D, h1, h2⟩ := h
  obtain ⟨kl, hk⟩ := K.lit a ha
  obtain ⟨w', hrun, h3, h4⟩ := h1.store K.keyed ht hn hk (plainElem_int he hv)
  exact ⟨w', hrun, ⟨_, h3, h2.put K (h1.tidy K.keyed) ha hk hg⟩, h4⟩
theorem Tab.drop (K : KeyAs P k mk ok) (ht : P.underlying t = some (.map k e)) {w : World} {b n : Nat} {L : List (α × Int)} (h : Tab P k e q mk ok w b n L) {a : α} (ha : ok a) (ty : TypeId) :
    ∃ w', (Builtin.delete_ #[t, k] ty #[.map (some b), mk a]).run P w = .ok (.tuple #[]) w' ∧ Tab P k e q mk ok w' b n (L.filter (fun p => p.1 ≠ a)) ∧ w.mapTurned w' b := by
  obtain ⟨D, h1, h2⟩ := h
  obtain ⟨kl, hk⟩ := K.lit a ha
  obtain ⟨w', hrun, h3, h4⟩ := h1.drop K.keyed ht hk ty
  exact ⟨w', hrun, ⟨_, h3, h2.del K (h1.tidy K.keyed) hk⟩, h4⟩
/-- a range over a map under way: what is still to come -/
def Rng (P : Program) (k e : TypeId) (q : IntKind) (mk : α → Value) (ok : α → Prop) (w : World) (b r n : Nat) (L rem : List (α × Int)) : Prop :=
  ∃ (D : DataW Unit) (left : Lit → Bool), w.ranges P k (plainElem P e) b r n D left (w.rangeLeft b r) ∧ Shows P k q mk ok D L ∧ rem.Pairwise (fun p p' => p.1 ≠ p'.1) ∧ (∀ p ∈ rem, p ∈ L) ∧ ∀ a kl, keyOf P k (mk a) = some kl → (left kl = true ↔ ∃ v, (a, v) ∈ rem)
theorem Rng.tab {w : World} {b r n : Nat} {L rem : List (α × Int)} (h : Rng P k e q mk ok w b r n L rem) : Tab P k e q mk ok w b n L := by
  obtain ⟨D, left, h1, h2, _⟩ := h
  exact ⟨D, h1.owns, h2⟩
theorem Rng.kept {w w' : World} {b r n : Nat} {L rem : List (α × Int)} {row : Option Nat} (h : Rng P k e q mk ok w b r n L rem) (hg : w.grownBy w' row) (hb : some b ≠ row) (hr : some r ≠ row) : Rng P k e q mk ok w' b r n L rem ∧ w'.rangeLeft b r = w.rangeLeft b r := by
  obtain ⟨D, left, h1, h2, h3⟩ := h
  have := h1.kept hg hb hr
  have e := this.left_eq
  exact ⟨⟨D, left, by rw [e]; exact this, h2, h3⟩, e⟩
theorem Tab.range (K : KeyAs P k mk ok) (ht : P.underlying t = some (.map k e)) {w : World} {b n : Nat} {L : List (α × Int)} (h : Tab P k e q mk ok w b n L) :
    ∃ w', (Instr.range t (.map (some b))).run P w = .ok (.pointer (some ⟨w.heap.size, 0, none⟩)) w' ∧ Rng P k e q mk ok w' b w.heap.size n L L ∧ w.grownBy w' none ∧ w'.heap.size = w.heap.size + 1 := by
  obtain ⟨D, h1, h2⟩ := h
  obtain ⟨w', hrun, h3, h4, h5⟩ := h1.range K.keyed ht
  refine ⟨w', hrun, ⟨D, Maps.has D, ?_, h2, h2.apart, fun p hp => hp, h2.has⟩, h4, h5⟩
  rw [h3.left_eq]
  exact h3
theorem Rng.next (K : KeyAs P k mk ok) (he : P.underlying e = some (.int q)) {w : World} {b r n : Nat} {L rem : List (α × Int)} (h : Rng P k e q mk ok w b r n L rem) (ty : TypeId) :
    (rem = [] ∧ (Instr.next (.pointer (some ⟨r, 0, none⟩)) false ty).run P w = .ok (.tuple #[.bool false]) w) ∨
    ∃ a v w', (a, v) ∈ rem ∧ ok a ∧ (Lit.int q v).wf = true ∧ (Instr.next (.pointer (some ⟨r, 0, none⟩)) false ty).run P w = .ok (.tuple #[.bool true, mk a, .int q v]) w' ∧ Rng P k e q mk ok w' b r n L (rem.filter (fun p => p.1 ≠ a)) ∧ w'.rangeLeft b r < w.rangeLeft b r ∧ w.grownBy w' (some r) ∧
      w'.heap.size = w.heap.size ∧ (Instr.entry (.pointer (some ⟨r, 0, none⟩))).run P w' = .ok (.tuple #[mk a, .int q v]) w' := by
  obtain ⟨D, left, h1, h2, h3, h4, h5⟩ := h
  rcases h1.next K.keyed ty with ⟨_, hl, hrun⟩ | ⟨key, val, kl, y, w', cnt', hkey, hlk, hv, hat, hrun, hrg, hlt, hgr, hsz, hen⟩
  · refine .inl ⟨?_, hrun⟩
    cases rem with
    | nil => rfl
    | cons p rem =>
      obtain ⟨kl, hk⟩ := K.lit p.1 (h2.good p (h4 p (List.mem_cons_self ..)))
      have := (h5 p.1 kl hk).2 ⟨p.2, List.mem_cons_self ..⟩
      rw [hl kl] at this
      cases this
  · obtain ⟨a, ha, rfl⟩ := K.inv key kl hkey
    obtain ⟨v, rfl, rfl, hwf⟩ := plainElem_int_inv he hv
    obtain ⟨v', hv'⟩ := (h5 a kl hkey).1 hlk
    have e1 := hat (.lit (.int q 0))
    rw [h2.at_ _ (h4 _ hv') kl _ hkey] at e1
    injection e1 with e1
    injection e1 with _ e1
    subst e1
    have e2 := hrg.left_eq
    refine .inr ⟨a, v', w', hv', ha, hwf, hrun, ⟨D, _, by rw [e2]; exact hrg, h2, h3.filter _, fun p hp => h4 p (List.mem_filter.1 hp).1, fun a' kl' hk' => ?_⟩, by rw [e2]; exact hlt, hgr, hsz, hen⟩
    by_cases e3 : a' = a
    · subst e3
      have : kl' = kl := (same_key K hk' hkey).2 rfl
      subst this
      rw [WideAt.sameKey_self (K.keyed.key hkey)]
      simp
    · have hne : kl' ≠ kl := fun e' => e3 ((same_key K hk' hkey).1 e')
      rw [sameKey_ne hne]
      simp only [Bool.not_false, Bool.and_true]
      rw [h5 a' kl' hk']
      simp [e3]
theorem turned_grown {w w' : World} {b : Nat} (h : w.mapTurned w' b) : w.grownBy w' (some b) := h.grown
end
end Go.Proofs.YthaoedfalkebbaaGreat.Lck
namespace Go.Proofs.YthaoedfalkebbaaGreat.Lck
open Go.RowKit Go.Maps Go.Proofs.YthaoedfalkebbaaGreatW.PrintWords Go.Proofs.YthaoedfalkebbaaGreatW.PrintLast Go.Proofs.YthaoedfalkebbaaGreatW.PrintMore
set_option linter.unusedVariables false
set_option linter.unusedSimpArgs false
set_option linter.unusedSectionVars false
abbrev Lk := ByteArray × ByteArray
def mkL (a : Lk) : Value := .agg #[.string a.1, .string a.2]
def okL (a : Lk) : Prop := a.1.size ≤ maxLen ∧ a.2.size ≤ maxLen
theorem wide23 : (match Tryz.prog.underlying 23 with | some (.array _ _) | some (.struct _) => true | _ => false) = true := by rw [Tryz.underlying23]
theorem keyType23 : Tryz.prog.keyType 23 = true := by kernel_rfl
theorem cells23 : Tryz.prog.cellsOf 23 = 2 := by kernel_rfl
theorem keyLits23 (d : Nat) (a b : Value) : Tryz.prog.keyLits (d + 2) 23 [a, b] = (strLit a).bind fun x => (strLit b).bind fun y => some (x ++ y) := by
  rw [show d + 2 = (d + 1) + 1 from rfl]
  unfold Program.keyLits
  simp only [Tryz.underlying23, cells23, List.length_cons, List.length_nil]
  simp [cells9, keyLits9]
  cases strLit a <;> cases strLit b <;> simp
theorem key_of (a : Lk) (h : okL a) : ∃ kl, keyOf Tryz.prog 23 (mkL a) = some kl := by
  obtain ⟨m, hm⟩ := size_pos
  have hf : (mkL a).formed Tryz.prog 23 = true := by
    simp [mkL, Value.formed, Tryz.underlying23, cells23]
  unfold keyOf
  simp only [Tryz.underlying23, keyType23, hf, Bool.and_self, if_true, hm]
  have e : (mkL a).cells.toList = [.string a.1, .string a.2] := rfl
  rw [e, keyLits23]
  simp [strLit, h.1, h.2]
set_option maxRecDepth 100000 in
theorem of_key (v : Value) (kl : Lit) (h : keyOf Tryz.prog 23 v = some kl) : ∃ a : Lk, okL a ∧ v = mkL a := by
  obtain ⟨m, hm⟩ := size_pos
  obtain ⟨xs, L, rfl, h1, _⟩ := keyOf_top wide23 h
  rw [hm] at h1
  have hl : xs.toList.length = 2 := by
    unfold Program.keyLits at h1
    simp only [Tryz.underlying23, cells23] at h1
    by_cases hh : xs.toList.length = 2
    · exact hh
    · rw [if_neg (fun h => hh h.1)] at h1
      cases h1
  obtain ⟨l⟩ := xs
  match l, hl with
  | [a, b], _ =>
    have h2 : Tryz.prog.keyLits (m + 2) 23 [a, b] = some L := h1
    rw [keyLits23] at h2
    cases ha : strLit a with
    | none => rw [ha] at h2; cases h2
    | some x =>
      cases hb : strLit b with
      | none => rw [ha, hb] at h2; cases h2
      | some y =>
        have st : ∀ (v : Value) (z : List Lit), strLit v = some z → ∃ u : ByteArray, v = .string u ∧ u.size ≤ maxLen := by
          intro v z hz
          cases v <;> try cases hz
          rename_i u
          refine ⟨u, rfl, ?_⟩
          by_cases hu : u.size ≤ maxLen
          · exact hu
          · exfalso
            have : strLit (.string u) = none := if_neg hu
            rw [this] at hz
            cases hz
        obtain ⟨u, rfl, hu⟩ := st a x ha
        obtain ⟨u', rfl, hu'⟩ := st b y hb
        exact ⟨(u, u'), ⟨hu, hu'⟩, rfl⟩
set_option maxRecDepth 100000 in
theorem keyL : KeyAs Tryz.prog 23 mkL okL where
  keyed := Keyed.of_law (deep_law_gate laid (of_decide_eq_true (by kernel_rfl)) (of_decide_eq_true (by kernel_rfl)) keyType23 wide23)
  lit := key_of
  inj := fun a b h => by
    injection h with h
    have h := congrArg Array.toList h
    simp at h
    exact Prod.ext h.1 h.2
  inv := of_key
end Go.Proofs.YthaoedfalkebbaaGreat.Lck
namespace Go.Proofs.YthaoedfalkebbaaGreat.Lck
open Go.RowKit Go.Maps Go.Proofs.YthaoedfalkebbaaGreatW.PrintWords Go.Proofs.YthaoedfalkebbaaGreatW.PrintLast Go.Proofs.YthaoedfalkebbaaGreatW.PrintMore
set_option linter.unusedVariables false
set_option linter.unusedSimpArgs false
set_option linter.unusedSectionVars false
abbrev TabL (w : World) (b n : Nat) (L : List (Lk × Int)) : Prop := Tab Tryz.prog 23 2 .i64 mkL okL w b n L
/-- a manager: where it lies, where its map lies, the most, the locks -/
structure Mg (w : World) (p b : Nat) (most : Int) (L : List (Lk × Int)) : Prop where
  most : w.cell? ⟨p, 0, none⟩ = some (.int .i64 most)
  map : w.cell? ⟨p, 1, none⟩ = some (.map (some b))
  tab : TabL w b L.length L
theorem eqlSome (b : Nat) (w : World) : (binOp .eql 145 (.map (some b)) (.map none)).run Tryz.prog w = .ok (.bool false) w := by kernel_rfl
theorem eqlNil (w : World) : (binOp .eql 145 (.map none) (.map none)).run Tryz.prog w = .ok (.bool true) w := by kernel_rfl
def Mg0 (w : World) (v : Value) : Prop := v = .pointer none ∨ ∃ p, v = .pointer (some ⟨p, 0, none⟩) ∧ w.cell? ⟨p, 1, none⟩ = some (.map none)
set_option maxRecDepth 100000 in
theorem none0_calls (v : Value) (w : World) (h : Mg0 w v) : Calls Tryz.prog 82 #[v] w fun e w' => e = .returned (.bool true) ∧ w = w' := by
  rcases h with rfl | ⟨p, rfl, h⟩
  · go_enter Tryz.func82, Tryz.ntmps82
    go_wp2
    go_ret
    exact ⟨rfl, rfl⟩
  · have eq := eqlNil
    go_enter Tryz.func82, Tryz.ntmps82
    go_wp2
    go_ret
    exact ⟨rfl, rfl⟩
set_option maxRecDepth 100000 in
theorem none_calls (p b : Nat) (w : World) (h : w.cell? ⟨p, 1, none⟩ = some (.map (some b))) : Calls Tryz.prog 82 #[.pointer (some ⟨p, 0, none⟩)] w fun e w' => e = .returned (.bool false) ∧ w = w' := by
  have eq := eqlSome b
  go_enter Tryz.func82, Tryz.ntmps82
  go_wp2
  go_ret
  exact ⟨rfl, rfl⟩
set_option maxRecDepth 100000 in
theorem New_bad (most : Int) (w : World) (h : most < 1 ∨ 4096 < most) : Calls Tryz.prog 36 #[.int .i64 most] w fun e w' => e = .returned (.tuple #[.pointer none, .int .i64 1]) ∧ w = w' := by
  by_cases h1 : most < 1
  · go_enter Tryz.func36, Tryz.ntmps36
    go_wp2
    go_ret2
    exact ⟨rfl, rfl⟩
  · have h2 : 4096 < most := by omega
    go_enter Tryz.func36, Tryz.ntmps36
    go_wp2
    go_ret2
    exact ⟨rfl, rfl⟩
set_option maxRecDepth 100000 in
theorem New_calls (most : Int) (w : World) (h1 : 1 ≤ most) (h2 : most ≤ 4096) : Calls Tryz.prog 36 #[.int .i64 most] w fun e w' => e = .returned (.tuple #[.pointer (some ⟨w.heap.size + 1, 0, none⟩), .int .i64 0]) ∧ Mg w' (w.heap.size + 1) w.heap.size most [] ∧ Below w.heap.size w w' := by
  have hmm := @run_makeMap Tryz.prog
  go_enter Tryz.func36, Tryz.ntmps36
  go_wp2
  go_ret2
  refine ⟨rfl, ⟨?_, ?_, (Tab.made w).kept (World.grownBy_alloc _ _ none) (by simp)⟩, ((Below.refl _ w).alloc (Nat.le_refl _) _).alloc (by simp) _⟩
  · simp [go_sem]
  · simp [go_sem]
theorem Mg.ne {w : World} {p b : Nat} {most : Int} {L : List (Lk × Int)} (h : Mg w p b most L) : p ≠ b := by
  rintro rfl
  obtain ⟨D, ⟨es, clock, hb, _⟩, _⟩ := h.tab
  have := h.most
  simp [World.cell?, hb] at this
/-- what Take leaves, and answers -/
def tk (most : Int) (L : List (Lk × Int)) (tx snap last : Int) (a : Lk) : List (Lk × Int) × Int :=
  if tx < 1 ∨ snap < 0 ∨ last < 0 then (L, 1)
  else match got L a with
    | some h => if h = tx then (L, 0) else (L, 80)
    | none => if snap < last then (L, 81) else if most ≤ L.length then (L, 4) else (L ++ [(a, tx)], 0)
set_option maxHeartbeats 4000000 in
set_option maxRecDepth 100000 in
theorem Take_bad (p b : Nat) (most : Int) (L : List (Lk × Int)) (tx snap last : Int) (a : Lk) (w : World) (h : Mg w p b most L) (ha : okL a) (hx : tx < 1 ∨ snap < 0 ∨ last < 0) :
    Calls Tryz.prog 42 #[.pointer (some ⟨p, 0, none⟩), .int .i64 tx, .int .i64 snap, .int .i64 last, mkL a] w fun e w' => e = .returned (.int .i64 1) ∧ Below w.heap.size w w' := by
  have hm := h.map
  obtain ⟨w1, hw1⟩ : ∃ w1, w1 = w.alloc (.cells #[.string a.1, .string a.2] 23) := ⟨_, rfl⟩
  have hB : Below w.heap.size w w1 := by rw [hw1]; exact (Below.refl _ w).alloc (Nat.le_refl _) _
  have hm1 : w1.cell? ⟨p, 1, none⟩ = some (.map (some b)) := (hB.cell (World.block_lt_of_cell? _ _ hm)).trans hm
  have N := none_calls p b w1 hm1
  unfold mkL
  by_cases h1 : tx < 1
  · go_enter Tryz.func42, Tryz.ntmps42
    go_wp2_with fail
    rw [← hw1]
    clear hw1
    refine N.mono ?_
    rintro e w' ⟨rfl, rfl⟩
    go_wp2
    go_ret
    exact ⟨rfl, hB⟩
  by_cases h2 : snap < 0
  · go_enter Tryz.func42, Tryz.ntmps42
    go_wp2_with fail
    rw [← hw1]
    clear hw1
    refine N.mono ?_
    rintro e w' ⟨rfl, rfl⟩
    go_wp2
    go_ret
    exact ⟨rfl, hB⟩
  have h3 : last < 0 := by omega
  · go_enter Tryz.func42, Tryz.ntmps42
    go_wp2_with fail
    rw [← hw1]
    clear hw1
    refine N.mono ?_
    rintro e w' ⟨rfl, rfl⟩
    go_wp2
    go_ret
    exact ⟨rfl, hB⟩
set_option maxHeartbeats 4000000 in
set_option maxRecDepth 100000 in
theorem Take_calls (p b : Nat) (most : Int) (L : List (Lk × Int)) (tx snap last : Int) (a : Lk) (w : World) (h : Mg w p b most L) (ha : okL a) (hwf : (Lit.int .i64 tx).wf = true) (hL : L.length < maxLen) (hx : ¬ (tx < 1 ∨ snap < 0 ∨ last < 0)) :
    Calls Tryz.prog 42 #[.pointer (some ⟨p, 0, none⟩), .int .i64 tx, .int .i64 snap, .int .i64 last, mkL a] w fun e w' => e = .returned (.int .i64 (tk most L tx snap last a).2) ∧ Mg w' p b most (tk most L tx snap last a).1 ∧ w.grownBy w' (some b) := by
  have hne := h.ne
  have hm := h.map
  obtain ⟨w1, hw1⟩ : ∃ w1, w1 = w.alloc (.cells #[.string a.1, .string a.2] 23) := ⟨_, rfl⟩
  have hB : Below w.heap.size w w1 := by rw [hw1]; exact (Below.refl _ w).alloc (Nat.le_refl _) _
  have hm1 : w1.cell? ⟨p, 1, none⟩ = some (.map (some b)) := (hB.cell (World.block_lt_of_cell? _ _ hm)).trans hm
  have hk1 : w1.cell? ⟨p, 0, none⟩ = some (.int .i64 most) := (hB.cell (World.block_lt_of_cell? _ _ h.most)).trans h.most
  have ht1 : TabL w1 b L.length L := h.tab.kept (row := none) (by rw [hw1]; exact World.grownBy_alloc _ _ _) (by simp)
  have hc1 : w1.cell? ⟨w.heap.size, 0, none⟩ = some (.string a.1) := by rw [hw1]; simp [go_sem]
  have hc2 : w1.cell? ⟨w.heap.size, 1, none⟩ = some (.string a.2) := by rw [hw1]; simp [go_sem]
  have N := none_calls p b w1 hm1
  have hlook := Tab.look (w := w1.drew) (t := 145) keyL Tryz.underlying145 Tryz.underlying2 (show TabL w1.drew b L.length L from ht1) (by kernel_rfl) ha
  have e1 : ¬ tx < 1 := by omega
  have e2 : ¬ snap < 0 := by omega
  have e3 : ¬ last < 0 := by omega
  have hB1 : w.grownBy w1 (some b) := by rw [hw1]; exact World.grownBy_alloc _ _ _
  have hlen := Tab.len (w := w1.drew.drew) (t := 145) Tryz.underlying145 (show TabL w1.drew.drew b L.length L from ht1) 3
  unfold tk
  rw [if_neg hx]
  clear hx
  unfold mkL at hlook ⊢
  cases hg : got L a with
  | some hh =>
    rw [hg] at hlook
    simp only [Option.getD_some, Option.isSome_some] at hlook
    by_cases hx : hh = tx
    · subst hx
      go_enter Tryz.func42, Tryz.ntmps42
      go_wp2_with fail
      rw [← hw1]
      clear hw1
      refine N.mono ?_
      rintro e w' ⟨rfl, rfl⟩
      go_wp2
      go_region_held3 (fun W => W.cell? ⟨p, 1, none⟩ = some (.map (some b)) ∧ W.cell? ⟨w.heap.size, 0, none⟩ = some (.string a.1) ∧ W.cell? ⟨w.heap.size, 1, none⟩ = some (.string a.2)) (first | exact ⟨hm1, hc1, hc2⟩) (fail)
      go_wp2
      go_ret
      exact ⟨rfl, ⟨hk1, hm1, ht1⟩, ⟨hB1.os, hB1.tape, hB1.output, hB1.size, hB1.block⟩⟩
    · have hx' : (hh == tx) = false := by simpa using hx
      dsimp only
      rw [if_neg hx]
      go_enter Tryz.func42, Tryz.ntmps42
      go_wp2_with fail
      rw [← hw1]
      clear hw1
      refine N.mono ?_
      rintro e w' ⟨rfl, rfl⟩
      go_wp2
      go_region_held3 (fun W => W.cell? ⟨p, 1, none⟩ = some (.map (some b)) ∧ W.cell? ⟨w.heap.size, 0, none⟩ = some (.string a.1) ∧ W.cell? ⟨w.heap.size, 1, none⟩ = some (.string a.2)) (first | exact ⟨hm1, hc1, hc2⟩) (fail)
      go_wp2
      go_ret
      exact ⟨rfl, ⟨hk1, hm1, ht1⟩, ⟨hB1.os, hB1.tape, hB1.output, hB1.size, hB1.block⟩⟩
  | none =>
    rw [hg] at hlook
    simp only [Option.getD_none, Option.isSome_none] at hlook
    dsimp only
    by_cases hx : snap < last
    · rw [if_pos hx]
      go_enter Tryz.func42, Tryz.ntmps42
      go_wp2_with fail
      rw [← hw1]
      clear hw1
      refine N.mono ?_
      rintro e w' ⟨rfl, rfl⟩
      go_wp2
      go_region_held3 (fun W => W.cell? ⟨p, 1, none⟩ = some (.map (some b)) ∧ W.cell? ⟨w.heap.size, 0, none⟩ = some (.string a.1) ∧ W.cell? ⟨w.heap.size, 1, none⟩ = some (.string a.2)) (first | exact ⟨hm1, hc1, hc2⟩) (fail)
      go_wp2
      go_ret
      exact ⟨rfl, ⟨hk1, hm1, ht1⟩, ⟨hB1.os, hB1.tape, hB1.output, hB1.size, hB1.block⟩⟩
    · rw [if_neg hx]
      have hx' : last ≤ snap := by omega
      by_cases hf : most ≤ L.length
      · rw [if_pos hf]
        go_enter Tryz.func42, Tryz.ntmps42
        go_wp2_with fail
        rw [← hw1]
        clear hw1
        refine N.mono ?_
        rintro e w' ⟨rfl, rfl⟩
        go_wp2
        go_region_held3 (fun W => W.cell? ⟨p, 1, none⟩ = some (.map (some b)) ∧ W.cell? ⟨w.heap.size, 0, none⟩ = some (.string a.1) ∧ W.cell? ⟨w.heap.size, 1, none⟩ = some (.string a.2)) (first | exact ⟨hm1, hc1, hc2⟩) (fail)
        go_wp2
        go_region_held3 (fun W => W.cell? ⟨p, 1, none⟩ = some (.map (some b)) ∧ W.cell? ⟨p, 0, none⟩ = some (.int .i64 most) ∧ (Builtin.len_ #[145] 3 #[.map (some b)]).run Tryz.prog W = .ok (.int .i64 (L.length : Int)) W) (first | exact ⟨hm1, hk1, hlen⟩) (fail)
        go_wp2
        go_ret
        exact ⟨rfl, ⟨hk1, hm1, ht1⟩, ⟨hB1.os, hB1.tape, hB1.output, hB1.size, hB1.block⟩⟩
      · rw [if_neg hf]
        have hf' : (L.length : Int) < most := by omega
        obtain ⟨w2, hst, ht2, hturn⟩ := Tab.store (w := w1.drew.drew.drew) (t := 145) keyL Tryz.underlying145 Tryz.underlying2 (show TabL w1.drew.drew.drew b L.length L from ht1) hL ha hwf hg
        unfold mkL at hst
        have hg2 := turned_grown hturn
        have hb' : ∀ q j v, w1.cell? ⟨q, j, none⟩ = some v → q ≠ b → w2.cell? ⟨q, j, none⟩ = some v := fun q j v hv hq => (World.cell?_of_block (a := ⟨q, j, none⟩) (hg2.block q (World.block_lt_of_cell? _ _ hv) (fun e => by injection e with e; exact hq e))).trans hv
        have hnb : w.heap.size ≠ b := fun e => by have := h.tab.lt; omega
        have hm2 := hb' _ _ _ hm1 hne
        have hk2 := hb' _ _ _ hk1 hne
        have hd1 := hb' _ _ _ hc1 hnb
        have hd2 := hb' _ _ _ hc2 hnb
        go_enter Tryz.func42, Tryz.ntmps42
        go_wp2_with fail
        rw [← hw1]
        clear hw1
        refine N.mono ?_
        rintro e w' ⟨rfl, rfl⟩
        go_wp2
        go_region_held3 (fun W => W.cell? ⟨p, 1, none⟩ = some (.map (some b)) ∧ W.cell? ⟨w.heap.size, 0, none⟩ = some (.string a.1) ∧ W.cell? ⟨w.heap.size, 1, none⟩ = some (.string a.2)) (first | exact ⟨hm1, hc1, hc2⟩) (fail)
        go_wp2
        go_region_held3 (fun W => W.cell? ⟨p, 1, none⟩ = some (.map (some b)) ∧ W.cell? ⟨p, 0, none⟩ = some (.int .i64 most) ∧ (Builtin.len_ #[145] 3 #[.map (some b)]).run Tryz.prog W = .ok (.int .i64 (L.length : Int)) W) (first | exact ⟨hm1, hk1, hlen⟩) (fail)
        go_wp2
        go_region_held3 (fun W => W.cell? ⟨p, 1, none⟩ = some (.map (some b)) ∧ W.cell? ⟨w.heap.size, 0, none⟩ = some (.string a.1) ∧ W.cell? ⟨w.heap.size, 1, none⟩ = some (.string a.2)) (first | exact ⟨hm1, hc1, hc2⟩ | exact ⟨hm2, hd1, hd2⟩) (fail)
        go_wp2
        go_ret
        refine ⟨rfl, ⟨hk2, hm2, by rw [List.length_append]; exact ht2⟩, ?_⟩
        exact ⟨hg2.os.trans hB1.os, hg2.tape.trans hB1.tape, hg2.output.trans hB1.output, Nat.le_trans hB1.size hg2.size, fun i hi hne => (hg2.block i (Nat.lt_of_lt_of_le hi hB1.size) hne).trans (hB1.block i hi hne)⟩
end Go.Proofs.YthaoedfalkebbaaGreat.Lck
namespace Go.Proofs.YthaoedfalkebbaaGreat.Lck
open Go.RowKit Go.Maps Go.Proofs.YthaoedfalkebbaaGreatW.PrintWords Go.Proofs.YthaoedfalkebbaaGreatW.PrintLast Go.Proofs.YthaoedfalkebbaaGreatW.PrintMore
set_option linter.unusedVariables false
set_option linter.unusedSimpArgs false
set_option linter.unusedSectionVars false
theorem Mg.kept {w w' : World} {p b : Nat} {most : Int} {L : List (Lk × Int)} (h : Mg w p b most L) {row : Option Nat} (hg : w.grownBy w' row) (hp : some p ≠ row) (hb : some b ≠ row) : Mg w' p b most L :=
  ⟨(World.cell?_of_block (a := ⟨p, 0, none⟩) (hg.block p (World.block_lt_of_cell? _ _ h.most) hp)).trans h.most, (World.cell?_of_block (a := ⟨p, 1, none⟩) (hg.block p (World.block_lt_of_cell? _ _ h.most) hp)).trans h.map, h.tab.kept hg hb⟩
theorem Mg.below {w w' : World} {p b : Nat} {most : Int} {L : List (Lk × Int)} (h : Mg w p b most L) (hb : Below w.heap.size w w') : Mg w' p b most L :=
  h.kept (row := none) ⟨hb.os, hb.tape, hb.output, hb.size, fun i hi _ => hb.block i hi⟩ (by simp) (by simp)
theorem Mg0.below {w w' : World} {v : Value} (h : Mg0 w v) (b : Below w.heap.size w w') : Mg0 w' v := by
  rcases h with h | ⟨p, h, hc⟩
  · exact .inl h
  · exact .inr ⟨p, h, (b.cell (World.block_lt_of_cell? _ _ hc)).trans hc⟩
set_option maxRecDepth 100000 in
theorem Len_none (v : Value) (w : World) (h : Mg0 w v) : Calls Tryz.prog 62 #[v] w fun e w' => e = .returned (.int .i64 0) ∧ w = w' := by
  have N := none0_calls v w h
  clear h
  go_enter Tryz.func62, Tryz.ntmps62
  go_wp2_with fail
  refine N.mono ?_
  rintro e w' ⟨rfl, rfl⟩
  go_wp2
  go_ret
  exact ⟨rfl, rfl⟩
set_option maxRecDepth 100000 in
theorem Len_calls (p b : Nat) (most : Int) (L : List (Lk × Int)) (w : World) (h : Mg w p b most L) : Calls Tryz.prog 62 #[.pointer (some ⟨p, 0, none⟩)] w fun e w' => e = .returned (.int .i64 (L.length : Int)) ∧ w = w' := by
  have N := none_calls p b w h.map
  have hm := h.map
  have hlen := Tab.len (t := 145) Tryz.underlying145 h.tab 3
  clear h
  go_enter Tryz.func62, Tryz.ntmps62
  go_wp2_with fail
  refine N.mono ?_
  rintro e w' ⟨rfl, rfl⟩
  go_wp2
  go_ret
  exact ⟨rfl, rfl⟩
set_option maxRecDepth 100000 in
theorem Release_none (v : Value) (tx : Int) (w : World) (h : Mg0 w v) : Calls Tryz.prog 53 #[v, .int .i64 tx] w fun e w' => e = .returned (.int .i64 0) ∧ w = w' := by
  have N := none0_calls v w h
  clear h
  go_enter Tryz.func53, Tryz.ntmps53
  go_wp2_with fail
  refine N.mono ?_
  rintro e w' ⟨rfl, rfl⟩
  go_wp2
  go_ret
  exact ⟨rfl, rfl⟩
set_option maxRecDepth 100000 in
theorem Held_none (v : Value) (tx : Int) (w : World) (h : Mg0 w v) : Calls Tryz.prog 51 #[v, .int .i64 tx] w fun e w' => e = .returned (.slice none 0 0) ∧ w = w' := by
  have N := none0_calls v w h
  clear h
  go_enter Tryz.func51, Tryz.ntmps51
  go_wp2_with fail
  refine N.mono ?_
  rintro e w' ⟨rfl, rfl⟩
  go_wp2
  go_ret
  exact ⟨rfl, rfl⟩
set_option maxRecDepth 100000 in
theorem Clone_none (v : Value) (w : World) (h : Mg0 w v) : Calls Tryz.prog 68 #[v] w fun e w' => e = .returned (.pointer none) ∧ w = w' := by
  have N := none0_calls v w h
  clear h
  go_enter Tryz.func68, Tryz.ntmps68
  go_wp2_with fail
  refine N.mono ?_
  rintro e w' ⟨rfl, rfl⟩
  go_wp2
  go_ret
  exact ⟨rfl, rfl⟩
set_option maxRecDepth 100000 in
theorem Holder_none (v : Value) (a : Lk) (w : World) (h : Mg0 w v) : Calls Tryz.prog 40 #[v, mkL a] w fun e w' => e = .returned (.tuple #[.int .i64 0, .bool false]) ∧ Below w.heap.size w w' := by
  obtain ⟨w1, hw1⟩ : ∃ w1, w1 = w.alloc (.cells #[.string a.1, .string a.2] 23) := ⟨_, rfl⟩
  have hB : Below w.heap.size w w1 := by rw [hw1]; exact (Below.refl _ w).alloc (Nat.le_refl _) _
  have N := none0_calls v w1 (h.below hB)
  clear h
  unfold mkL
  go_enter Tryz.func40, Tryz.ntmps40
  go_wp2_with fail
  rw [← hw1]
  clear hw1
  refine N.mono ?_
  rintro e w' ⟨rfl, rfl⟩
  go_wp2
  go_ret2
  exact ⟨rfl, hB⟩
set_option maxRecDepth 100000 in
theorem Take_none (v : Value) (tx snap last : Int) (a : Lk) (w : World) (h : Mg0 w v) : Calls Tryz.prog 42 #[v, .int .i64 tx, .int .i64 snap, .int .i64 last, mkL a] w fun e w' => e = .returned (.int .i64 2) ∧ Below w.heap.size w w' := by
  obtain ⟨w1, hw1⟩ : ∃ w1, w1 = w.alloc (.cells #[.string a.1, .string a.2] 23) := ⟨_, rfl⟩
  have hB : Below w.heap.size w w1 := by rw [hw1]; exact (Below.refl _ w).alloc (Nat.le_refl _) _
  have N := none0_calls v w1 (h.below hB)
  clear h
  unfold mkL
  go_enter Tryz.func42, Tryz.ntmps42
  go_wp2_with fail
  rw [← hw1]
  clear hw1
  refine N.mono ?_
  rintro e w' ⟨rfl, rfl⟩
  go_wp2
  go_ret
  exact ⟨rfl, hB⟩
end Go.Proofs.YthaoedfalkebbaaGreat.Lck
namespace Go.Proofs.YthaoedfalkebbaaGreat.Lck
open Go.ChangeShapes Go.WideShapes Go.ChangeAt Go.RowKit Go.Proofs.YthaoedfalkebbaaGreatW.PrintWords Go.Proofs.YthaoedfalkebbaaGreatW.PrintLast Go.Proofs.YthaoedfalkebbaaGreatW.PrintMore
open Go.Deep (open_slice)
set_option linter.unusedVariables false
section
variable {H : Type} {enc : TypeId × Value → H} {P : Program} {w : World} {base : Nat} {spare : Nat → Bool} {held : Bool}
end
/-! ### a struct's cells, field by field -/
section
variable {H : Type} {enc : TypeId × Value → H} {P : Program} {w : World} {base : Nat} {spare : Nat → Bool} {held : Bool}
end
/-! ### an operation of a script -/
section
variable {H : Type} {enc : TypeId × Value → H} {w : World} {base : Nat} {spare : Nat → Bool} {held : Bool}
set_option maxRecDepth 100000 in
theorem opens_lock {fuel : Nat} {cs : List Value} {y : DataW H × List MemPlace} (h : DataW.trod enc Tryz.prog w base spare held fuel 23 cs = some y) (hl : Light Tryz.prog 23 y.1) : ∃ a : Lk, cs = [.string a.1, .string a.2] ∧ okL a := by
  obtain ⟨hc, hf⟩ := opens_fields Tryz.underlying23 h hl
  have hc2 : cs.length = 2 := hc.trans cells23
  match cs, hc2 with
  | [v0, v1], _ =>
    have f0 : FldAt enc Tryz.prog w base spare held [v0, v1] 9 0 := hf 0 _ rfl
    obtain ⟨n0, y0, t0, g0⟩ := f0
    have f1 : FldAt enc Tryz.prog w base spare held [v0, v1] 9 1 := hf 1 _ rfl
    obtain ⟨n1, y1, t1, g1⟩ := f1
    simp only [cells9, List.drop_zero, List.drop_succ_cons, List.take_succ_cons, List.take_zero] at t0 t1
    obtain ⟨s, e0, w0⟩ := opens_string Tryz.underlying9 _ _ _ t0 g0
    obtain ⟨u, e1, w1⟩ := opens_string Tryz.underlying9 _ _ _ t1 g1
    cases e0; cases e1
    exact ⟨(s, u), rfl, Nat.le_trans w0 (by decide), Nat.le_trans w1 (by decide)⟩
end
end Go.Proofs.YthaoedfalkebbaaGreat.Lck
namespace Go.Proofs.YthaoedfalkebbaaGreat.Lck
open Go.RowKit Go.Maps Go.Proofs.YthaoedfalkebbaaGreatW.PrintWords Go.Proofs.YthaoedfalkebbaaGreatW.PrintLast Go.Proofs.YthaoedfalkebbaaGreatW.PrintMore
set_option linter.unusedVariables false
set_option linter.unusedSimpArgs false
set_option linter.unusedSectionVars false
set_option maxRecDepth 100000 in
theorem isNaN_calls (s : ByteArray) (w : World) : Calls Tryz.prog 138 #[.string s] w fun e w' => e = .returned (.bool false) ∧ w = w' := by
  go_enter Tryz.func138, Tryz.ntmps138
  go_wp2
  go_ret
  exact ⟨by simp, rfl⟩
set_option maxRecDepth 100000 in
theorem Compare_calls (s u : ByteArray) (w : World) : Calls Tryz.prog 98 #[.string s, .string u] w fun e w' => e = .returned (.int .i64 (cmpS s u)) ∧ w = w' := by
  have N := fun s => isNaN_calls s w
  unfold cmpS
  cases h1 : Op.bytesLess s.toList u.toList with
  | true =>
    simp only [if_true]
    go_enter Tryz.func98, Tryz.ntmps98
    go_wp2_with fail
    refine (N s).mono ?_
    rintro e w' ⟨rfl, rfl⟩
    go_wp2_with fail
    refine (N u).mono ?_
    rintro e w' ⟨rfl, rfl⟩
    go_wp2
    go_ret
    exact ⟨rfl, rfl⟩
  | false =>
    simp only [Bool.false_eq_true, if_false]
    cases h2 : s.toList == u.toList with
    | true =>
      simp only [if_true]
      go_enter Tryz.func98, Tryz.ntmps98
      go_wp2_with fail
      refine (N s).mono ?_
      rintro e w' ⟨rfl, rfl⟩
      go_wp2_with fail
      refine (N u).mono ?_
      rintro e w' ⟨rfl, rfl⟩
      go_wp2
      go_ret
      exact ⟨rfl, rfl⟩
    | false =>
      simp only [Bool.false_eq_true, if_false]
      go_enter Tryz.func98, Tryz.ntmps98
      go_wp2_with fail
      refine (N s).mono ?_
      rintro e w' ⟨rfl, rfl⟩
      go_wp2_with fail
      refine (N u).mono ?_
      rintro e w' ⟨rfl, rfl⟩
      go_wp2
      go_ret
      exact ⟨rfl, rfl⟩
/-- the order of locks -/
def cmpL (a b : Lk) : Int := if cmpS a.1 b.1 ≠ 0 then cmpS a.1 b.1 else cmpS a.2 b.2
set_option maxRecDepth 100000 in
theorem Or_calls (g c : Nat) (x y : Int) (w : World) (h0 : w.cell? ⟨g, 0, none⟩ = some (.int .i64 x)) (h1 : w.cell? ⟨g, 1, none⟩ = some (.int .i64 y)) :
    Calls Tryz.prog 97 #[.slice (some ⟨g, 0, none⟩) 2 c] w fun e w' => e = .returned (.int .i64 (if x ≠ 0 then x else y)) ∧ w = w' := by
  by_cases hx : x = 0
  · have hx' : (x != 0) = false := by simp [hx]
    rw [if_neg (by simpa using hx)]
    by_cases hy : y = 0
    · have hy' : (y != 0) = false := by simp [hy]
      rw [hy] at h1 ⊢
      rw [hx] at h0
      clear hx hy hx' hy'
      go_enter Tryz.func97, Tryz.ntmps97
      go_wp2_with fail
      refine wp_loop_rounds 3 ?_
      rw [rounds_succ]
      go_wp2
      rw [rounds_succ]
      go_wp2
      rw [rounds_succ]
      go_wp2
      go_ret
      exact ⟨rfl, rfl⟩
    · have hy' : (y != 0) = true := by simp [hy]
      rw [hx] at h0
      clear hx hx' hy
      go_enter Tryz.func97, Tryz.ntmps97
      go_wp2_with fail
      refine wp_loop_rounds 3 ?_
      rw [rounds_succ]
      go_wp2
      rw [rounds_succ]
      go_wp2
      go_ret
      exact ⟨rfl, rfl⟩
  · have hx' : (x != 0) = true := by simp [hx]
    rw [if_pos hx]
    clear hx
    go_enter Tryz.func97, Tryz.ntmps97
    go_wp2_with fail
    refine wp_loop_rounds 3 ?_
    rw [rounds_succ]
    go_wp2
    go_ret
    exact ⟨rfl, rfl⟩
end Go.Proofs.YthaoedfalkebbaaGreat.Lck
namespace Go.Proofs.YthaoedfalkebbaaGreat.Lck
open Go.RowKit Go.Maps Go.Sort Go.Proofs.YthaoedfalkebbaaGreatW.PrintWords Go.Proofs.YthaoedfalkebbaaGreatW.PrintLast Go.Proofs.YthaoedfalkebbaaGreatW.PrintMore
set_option linter.unusedVariables false
set_option linter.unusedSimpArgs false
set_option linter.unusedSectionVars false
set_option maxHeartbeats 4000000 in
set_option maxRecDepth 100000 in
theorem closure_calls (x y : Lk) (W : World) : Calls Tryz.prog 96 #[mkL x, mkL y] W fun e w' => e = .returned (.int .i64 (cmpL x y)) ∧ ∃ q os', w' = grow (W.drewN q) os' := by
  obtain ⟨w1, hw1⟩ : ∃ w1, w1 = (W.alloc (.cells #[.string x.1, .string x.2] 23)).alloc (.cells #[.string y.1, .string y.2] 23) := ⟨_, rfl⟩
  have hg : w1 = grow W #[.cells #[.string x.1, .string x.2] 23, .cells #[.string y.1, .string y.2] 23] := by rw [hw1, alloc_eq_grow, alloc_eq_grow, grow_grow]; rfl
  have c0 : w1.cell? ⟨W.heap.size, 0, none⟩ = some (.string x.1) := by rw [hw1]; simp [go_sem]
  have c1 : w1.cell? ⟨W.heap.size, 1, none⟩ = some (.string x.2) := by rw [hw1]; simp [go_sem]
  have d0 : w1.cell? ⟨W.heap.size + 1, 0, none⟩ = some (.string y.1) := by rw [hw1]; simp [go_sem]
  have d1 : w1.cell? ⟨W.heap.size + 1, 1, none⟩ = some (.string y.2) := by rw [hw1]; simp [go_sem]
  replace hg := Aside0.mk hg
  have e0 := fun o => (((Below.refl _ w1).alloc (Nat.le_refl _) o).cell (World.block_lt_of_cell? _ _ c0)).trans c0
  have e1 := fun o => (((Below.refl _ w1).alloc (Nat.le_refl _) o).cell (World.block_lt_of_cell? _ _ c1)).trans c1
  have f0 := fun o => (((Below.refl _ w1).alloc (Nat.le_refl _) o).cell (World.block_lt_of_cell? _ _ d0)).trans d0
  have f1 := fun o => (((Below.refl _ w1).alloc (Nat.le_refl _) o).cell (World.block_lt_of_cell? _ _ d1)).trans d1
  unfold mkL cmpL
  generalize hA : cmpS x.1 y.1 = A
  generalize hB : cmpS x.2 y.2 = B
  have C1 := fun w => hA ▸ Compare_calls x.1 y.1 w
  have C2 := fun w => hB ▸ Compare_calls x.2 y.2 w
  clear hA hB
  have OC := fun w h0 h1 => Or_calls w1.heap.size 2 A B w h0 h1
  generalize (if A ≠ 0 then A else B) = R at OC ⊢
  go_enter Tryz.func96, Tryz.ntmps96
  go_upto_region 1 with fail
  rw [← hw1]
  clear hw1
  go_region_held3 (fun V => V.cell? ⟨W.heap.size, 0, none⟩ = some (.string x.1) ∧ V.cell? ⟨W.heap.size, 1, none⟩ = some (.string x.2) ∧ V.cell? ⟨W.heap.size + 1, 0, none⟩ = some (.string y.1) ∧ V.cell? ⟨W.heap.size + 1, 1, none⟩ = some (.string y.2)) (first | exact ⟨c0, c1, d0, d1⟩ | exact ⟨e0 _, e1 _, f0 _, f1 _⟩)
    (first | (go_at_call 98; with_reducible refine (C1 _).mono ?_; rintro e w' ⟨rfl, rfl⟩) | (go_at_call 98; with_reducible refine (C2 _).mono ?_; rintro e w' ⟨rfl, rfl⟩) | (go_at_call 97; refine (OC _ (by simp [go_sem]) (by simp [go_sem])).mono ?_; rintro e w' ⟨rfl, rfl⟩))
  go_wp2
  go_ret
  refine ⟨rfl, ?_⟩
  rw [hg.out]
  rw [alloc_eq_grow, grow_grow]
  exact ⟨1, _, rfl⟩
end Go.Proofs.YthaoedfalkebbaaGreat.Lck
namespace Go.Proofs.YthaoedfalkebbaaGreat.Lck
open Go.RowKit Go.Maps Go.Sort
set_option linter.unusedVariables false
set_option linter.unusedSimpArgs false
/-- which lock comes first -/
def ltL (a b : Lk) : Prop := a.1.toList < b.1.toList ∨ a.1.toList = b.1.toList ∧ a.2.toList < b.2.toList
theorem lt3 (x y : List UInt8) : x < y ∨ x = y ∨ y < x := by
  by_cases h1 : x < y
  · exact .inl h1
  · by_cases h2 : y < x
    · exact .inr (.inr h2)
    · exact .inr (.inl (List.le_antisymm (List.not_lt.1 h2) (List.not_lt.1 h1)))
theorem cmpS_lt (s u : ByteArray) : (cmpS s u < 0 ↔ s.toList < u.toList) ∧ (cmpS s u = 0 ↔ s.toList = u.toList) := by
  unfold cmpS
  rw [bytesLess_eq]
  by_cases h1 : s.toList < u.toList
  · have : s.toList ≠ u.toList := fun e => by rw [e] at h1; exact List.lt_irrefl _ h1
    simp [h1, this]
  · by_cases h2 : s.toList = u.toList
    · have h3 : ¬ u.toList < u.toList := List.lt_irrefl _
      simp [h2, h3]
    · simp [h1, h2]
theorem cmpL_lt (a b : Lk) : (cmpL a b < 0 ↔ ltL a b) ∧ (cmpL a b = 0 ↔ a = b) := by
  have h1 := cmpS_lt a.1 b.1
  have h2 := cmpS_lt a.2 b.2
  unfold cmpL ltL
  by_cases e : cmpS a.1 b.1 = 0
  · have e1 := h1.2.1 e
    rw [if_neg (by simpa using e)]
    refine ⟨?_, ?_⟩
    · rw [h2.1, e1]
      constructor
      · exact fun h => .inr ⟨rfl, h⟩
      · rintro (h | h)
        · exact absurd h (List.lt_irrefl _)
        · exact h.2
    · rw [h2.2]
      constructor
      · intro h; exact Prod.ext (toList_inj e1) (toList_inj h)
      · intro h; rw [h]
  · rw [if_pos e]
    have hne : a.1.toList ≠ b.1.toList := fun h => e (h1.2.2 h)
    refine ⟨?_, ?_⟩
    · rw [h1.1]
      constructor
      · exact .inl
      · rintro (h | h)
        · exact h
        · exact absurd h.1 hne
    · constructor
      · intro h; exact absurd h e
      · intro h; rw [h] at hne; exact absurd rfl hne
theorem ltL_irrefl (a : Lk) : ¬ ltL a a := by
  rintro (h | h)
  · exact List.lt_irrefl _ h
  · exact List.lt_irrefl _ h.2
theorem ltL_trans {a b c : Lk} (h : ltL a b) (k : ltL b c) : ltL a c := by
  unfold ltL at *
  rcases h with h | ⟨h, h'⟩ <;> rcases k with k | ⟨k, k'⟩
  · exact .inl (List.lt_trans h k)
  · exact .inl (k ▸ h)
  · exact .inl (h ▸ k)
  · exact .inr ⟨h.trans k, List.lt_trans h' k'⟩
theorem ltL_total (a b : Lk) : ltL a b ∨ a = b ∨ ltL b a := by
  unfold ltL
  rcases lt3 a.1.toList b.1.toList with h | h | h
  · exact .inl (.inl h)
  · rcases lt3 a.2.toList b.2.toList with k | k | k
    · exact .inl (.inr ⟨h, k⟩)
    · exact .inr (.inl (Prod.ext (toList_inj h) (toList_inj k)))
    · exact .inr (.inr (.inr ⟨h.symm, k⟩))
  · exact .inr (.inr (.inl h))
end Go.Proofs.YthaoedfalkebbaaGreat.Lck
namespace Go.Proofs.YthaoedfalkebbaaGreat.Lck
open Go.RowKit Go.Maps Go.Proofs.YthaoedfalkebbaaGreatW.PrintWords Go.Proofs.YthaoedfalkebbaaGreatW.PrintLast Go.Proofs.YthaoedfalkebbaaGreatW.PrintMore
set_option linter.unusedVariables false
set_option linter.unusedSimpArgs false
set_option linter.unusedSectionVars false
def cellsL (a : Lk) : List Value := [.string a.1, .string a.2]
def dL : Kd Lk := Kd.flat cellsL 2 (fun _ => rfl) (fun x u hu => by simp [cellsL] at hu; rcases hu with rfl | rfl <;> rfl)
theorem info23 : (Tryz.prog.info? 23).map (fun i => (i.zero, i.size, i.bytes)) = some (some (.agg #[.string ByteArray.empty, .string ByteArray.empty]), 2, 32) := by kernel_rfl
abbrev RngL (w : World) (b r n : Nat) (L rem : List (Lk × Int)) : Prop := Rng Tryz.prog 23 2 .i64 mkL okL w b r n L rem
theorem perm_next {L vis rem : List (Lk × Int)} {a : Lk} {v : Int} (hr : rem.Pairwise (fun p p' => p.1 ≠ p'.1)) (h : (vis ++ rem).Perm L) (hm : (a, v) ∈ rem) : ((vis ++ [(a, v)]) ++ rem.filter (fun p => p.1 ≠ a)).Perm L := by
  refine List.Perm.trans ?_ h
  rw [List.append_assoc]
  refine List.Perm.append_left vis ?_
  clear h
  induction rem with
  | nil => cases hm
  | cons p rem ih =>
    rw [List.pairwise_cons] at hr
    rcases List.mem_cons.1 hm with e | hm
    · subst e
      have : rem.filter (fun p => p.1 ≠ a) = rem := List.filter_eq_self.2 (fun p hp => by simpa using fun e => hr.1 p hp e.symm)
      rw [List.filter_cons, if_neg (by simp), this]
      exact List.Perm.refl _
    · have hne : p.1 ≠ a := hr.1 _ hm
      simp only [List.filter_cons, ne_eq, hne, not_false_eq_true, decide_true, if_true, List.singleton_append]
      exact (List.Perm.swap _ _ _).trans (List.Perm.cons _ (by simpa using ih hr.2 hm))
end Go.Proofs.YthaoedfalkebbaaGreat.Lck
