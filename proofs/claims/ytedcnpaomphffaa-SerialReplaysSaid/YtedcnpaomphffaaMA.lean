import Derived.Test.YtedcnpaomphffaaGD
import Derived.Shelf.SlSortCmp.Insertion
namespace Go.Proofs.Ytedcnpaomphffaa
set_option linter.unusedVariables false
set_option linter.unusedSimpArgs false
/-! ### dependencies, orders, walks: plain -/
/-- a dependency -/
structure Dp where
  f : Int
  t : Int
  k : Int
deriving DecidableEq
/-- the place of a number in a list; -1: nowhere -/
def plc (l : List Int) (n : Int) : Int := if n ∈ l then (l.idxOf n : Int) else -1
theorem plc_mem {l : List Int} {n : Int} (h : n ∈ l) : plc l n = (l.idxOf n : Int) ∧ l.idxOf n < l.length := ⟨if_pos h, List.idxOf_lt_length_of_mem h⟩
theorem plc_not {l : List Int} {n : Int} (h : n ∉ l) : plc l n = -1 := if_neg h
theorem plc_neg {l : List Int} {n : Int} : plc l n < 0 ↔ n ∉ l := by
  unfold plc
  split <;> rename_i h <;> simp [h] <;> omega
theorem plc_nonneg {l : List Int} {n : Int} : 0 ≤ plc l n ↔ n ∈ l := by
  have := @plc_neg l n
  constructor
  · intro h
    exact Classical.byContradiction fun e => by have := this.2 e; omega
  · intro h
    rcases Int.lt_or_le (plc l n) 0 with e | e
    · exact absurd h (this.1 e)
    · exact e
/-! orders that all dependencies follow -/
def leadsB (g : List Dp) (a b : Int) : Bool := g.any (fun d => d.f == a && d.t == b)
def freeB (g : List Dp) (done : List Int) (n : Int) : Bool := g.all (fun d => !(d.t == n) || decide (d.f ∈ done))
theorem leadsB_iff {g : List Dp} {a b : Int} : leadsB g a b = true ↔ ∃ d ∈ g, d.f = a ∧ d.t = b := by
  unfold leadsB
  simp
theorem freeB_iff {g : List Dp} {done : List Int} {n : Int} : freeB g done n = true ↔ ∀ d ∈ g, d.t = n → d.f ∈ done := by
  unfold freeB
  rw [List.all_eq_true]
  constructor
  · intro h d hd e
    have := h d hd
    simpa [e] using this
  · intro h d hd
    by_cases e : d.t = n
    · simp [h d hd e]
    · simp [e]
/-- what may come next -/
def cand (g : List Dp) (names done : List Int) : List Int := names.filter (fun n => !decide (n ∈ done) && freeB g done n)
theorem mem_cand {g : List Dp} {names done : List Int} {n : Int} : n ∈ cand g names done ↔ n ∈ names ∧ n ∉ done ∧ ∀ d ∈ g, d.t = n → d.f ∈ done := by
  unfold cand
  rw [List.mem_filter, Bool.and_eq_true, freeB_iff]
  simp
/-- all orders that go on from one that has begun -/
def enum (g : List Dp) (names : List Int) : Nat → List Int → List (List Int)
  | 0, done => [done]
  | k + 1, done => (cand g names done).flatMap fun n => enum g names k (done ++ [n])
/-- the first one -/
def greedy (g : List Dp) (names : List Int) : Nat → List Int → Option (List Int)
  | 0, done => some done
  | k + 1, done => match cand g names done with
    | [] => none
    | n :: _ => greedy g names k (done ++ [n])
/-- a beginning: each with all that lead to it ahead of it -/
def Pre (g : List Dp) (names done : List Int) : Prop := done.Nodup ∧ (∀ n ∈ done, n ∈ names) ∧ ∀ a n b, done = a ++ n :: b → ∀ d ∈ g, d.t = n → d.f ∈ a
def Topo (g : List Dp) (names L : List Int) : Prop := Pre g names L ∧ ∀ n ∈ names, n ∈ L
theorem Pre.nil (g : List Dp) (names : List Int) : Pre g names [] := ⟨List.nodup_nil, by simp, fun a n b e => by simp at e⟩
theorem Pre.snoc {g : List Dp} {names done : List Int} (h : Pre g names done) {n : Int} (hn : n ∈ cand g names done) : Pre g names (done ++ [n]) := by
  obtain ⟨h1, h2, h3⟩ := h
  obtain ⟨c1, c2, c3⟩ := mem_cand.1 hn
  refine ⟨?_, ?_, ?_⟩
  · rw [List.nodup_append]
    refine ⟨h1, by simp, fun a ha b hb e => ?_⟩
    rw [List.mem_singleton.1 hb] at e
    rw [e] at ha
    exact c2 ha
  · intro m hm
    rcases List.mem_append.1 hm with hm | hm
    · exact h2 m hm
    · rw [List.mem_singleton.1 hm]; exact c1
  · intro a m b e d hd hdt
    rcases List.eq_nil_or_concat b with hb | ⟨b', x, hb⟩
    · subst hb
      have e1 : done = a ∧ [n] = [m] := List.append_inj' e (by simp)
      obtain ⟨rfl, e2⟩ := e1
      injection e2 with e2
      subst e2
      exact c3 d hd hdt
    · subst hb
      have e0 : done ++ [n] = (a ++ m :: b') ++ [x] := by rw [e]; simp
      have e1 := List.append_inj' e0 (by simp)
      exact h3 a m b' e1.1 d hd hdt
theorem first_out {p : Int → Prop} [DecidablePred p] : ∀ {L : List Int}, (∃ n ∈ L, ¬ p n) → ∃ a n b, L = a ++ n :: b ∧ ¬ p n ∧ ∀ m ∈ a, p m
  | [], h => by obtain ⟨n, hn, _⟩ := h; cases hn
  | x :: L, h => by
    by_cases hx : p x
    · have : ∃ n ∈ L, ¬ p n := by
        obtain ⟨n, hn, hp⟩ := h
        rcases List.mem_cons.1 hn with rfl | hn
        · exact absurd hx hp
        · exact ⟨n, hn, hp⟩
      obtain ⟨a, n, b, e, h1, h2⟩ := first_out this
      refine ⟨x :: a, n, b, by rw [e]; rfl, h1, fun m hm => ?_⟩
      rcases List.mem_cons.1 hm with rfl | hm
      · exact hx
      · exact h2 m hm
    · exact ⟨[], x, L, rfl, hx, by simp⟩
theorem sub_le : ∀ {done names : List Int}, done.Nodup → (∀ n ∈ done, n ∈ names) → done.length ≤ names.length
  | [], _, _, _ => Nat.zero_le _
  | x :: xs, names, h1, h2 => by
    rw [List.nodup_cons] at h1
    have hx := h2 x List.mem_cons_self
    have := sub_le (names := names.erase x) h1.2 (fun n hn => by
      have hne : n ≠ x := fun e => h1.1 (e ▸ hn)
      exact (List.mem_erase_of_ne hne).2 (h2 n (List.mem_cons_of_mem _ hn)))
    rw [List.length_erase_of_mem hx] at this
    have := List.length_pos_of_mem hx
    simp only [List.length_cons]
    omega
theorem sub_len {done names : List Int} (h1 : done.Nodup) (h2 : ∀ n ∈ done, n ∈ names) (h3 : names.Nodup) : done.length ≤ names.length ∧ (done.length = names.length → ∀ n ∈ names, n ∈ done) := by
  refine ⟨sub_le h1 h2, fun e n hn => Classical.byContradiction fun hno => ?_⟩
  have := sub_le (done := n :: done) (names := names) (List.nodup_cons.2 ⟨hno, h1⟩) (fun m hm => by
    rcases List.mem_cons.1 hm with rfl | hm
    · exact hn
    · exact h2 m hm)
  simp only [List.length_cons] at this
  omega
/-- where there is an order at all, one can go on -/
theorem cand_some {g : List Dp} {names L done : List Int} (hL : Topo g names L) (hn : names.Nodup) (hd : Pre g names done) (hl : done.length < names.length) : ∃ n, n ∈ cand g names done := by
  have hex : ∃ n ∈ L, ¬ n ∈ done := by
    refine Classical.byContradiction fun hno => ?_
    have hall : ∀ n ∈ names, n ∈ done := fun n hn' => Classical.byContradiction fun e => hno ⟨n, hL.2 n hn', e⟩
    have := (sub_len hn hall hd.1).1
    omega
  obtain ⟨a, n, b, e, h1, h2⟩ := first_out hex
  refine ⟨n, mem_cand.2 ⟨hL.1.2.1 n (by rw [e]; simp), h1, fun d hd' hdt => h2 _ (hL.1.2.2 a n b e d hd' hdt)⟩⟩
theorem Pre.len {g : List Dp} {names done : List Int} (h : Pre g names done) (hn : names.Nodup) : done.length ≤ names.length := (sub_len h.1 h.2.1 hn).1
/-- the first order is the first of all -/
theorem greedy_enum {g : List Dp} {names L : List Int} (hL : Topo g names L) (hn : names.Nodup) : ∀ (k : Nat) (done : List Int), Pre g names done → done.length + k = names.length → greedy g names k done = (enum g names k done).head? ∧ (greedy g names k done).isSome = true
  | 0, done, _, _ => ⟨rfl, rfl⟩
  | k + 1, done, hd, hk => by
    obtain ⟨n, hc⟩ := cand_some hL hn hd (by omega)
    unfold greedy enum
    cases hcd : cand g names done with
    | nil => rw [hcd] at hc; cases hc
    | cons m ms =>
      have hm : m ∈ cand g names done := by rw [hcd]; exact List.mem_cons_self
      obtain ⟨h1, h2⟩ := greedy_enum hL hn k (done ++ [m]) (hd.snoc hm) (by simp; omega)
      refine ⟨?_, h2⟩
      show greedy g names k (done ++ [m]) = _
      rw [List.flatMap_cons, List.head?_append, h1]
      rw [h1] at h2
      cases hh : (enum g names k (done ++ [m])).head? with
      | none => rw [hh] at h2; cases h2
      | some x => rfl
theorem greedy_topo {g : List Dp} {names : List Int} (hn : names.Nodup) : ∀ (k : Nat) (done L : List Int), Pre g names done → done.length + k = names.length → greedy g names k done = some L → Topo g names L
  | 0, done, L, hd, hk, h => by
    injection h with h
    subst h
    exact ⟨hd, (sub_len hd.1 hd.2.1 hn).2 (by omega)⟩
  | k + 1, done, L, hd, hk, h => by
    unfold greedy at h
    cases hcd : cand g names done with
    | nil => rw [hcd] at h; cases h
    | cons m ms =>
      rw [hcd] at h
      have hm : m ∈ cand g names done := by rw [hcd]; exact List.mem_cons_self
      exact greedy_topo hn k (done ++ [m]) L (hd.snoc hm) (by simp; omega) h
/-! walks -/
def Walk (g : List Dp) : Nat → Int → Int → Prop
  | 0, a, b => a = b
  | k + 1, a, b => ∃ c, leadsB g a c = true ∧ Walk g k c b
theorem Walk.snoc {g : List Dp} : ∀ {k : Nat} {a b c : Int}, Walk g k a b → leadsB g b c = true → Walk g (k + 1) a c
  | 0, a, b, c, h, hl => by
    have h' : a = b := h
    subst h'
    exact ⟨c, hl, rfl⟩
  | k + 1, a, b, c, ⟨x, hx, h⟩, hl => ⟨x, hx, Walk.snoc h hl⟩
theorem Walk.last {g : List Dp} : ∀ {k : Nat} {a c : Int}, Walk g (k + 1) a c → ∃ b, Walk g k a b ∧ leadsB g b c = true
  | 0, a, c, ⟨x, hx, h⟩ => by
    have h' : x = c := h
    subst h'
    exact ⟨a, rfl, hx⟩
  | k + 1, a, c, ⟨x, hx, h⟩ => by
    obtain ⟨b, h1, h2⟩ := Walk.last h
    exact ⟨b, ⟨x, hx, h1⟩, h2⟩
theorem Walk.app {g : List Dp} : ∀ {j k : Nat} {a b c : Int}, Walk g j a b → Walk g k b c → Walk g (j + k) a c
  | 0, k, a, b, c, h, h2 => by
    have h' : a = b := h
    subst h'
    rw [Nat.zero_add]; exact h2
  | j + 1, k, a, b, c, ⟨x, hx, h⟩, h2 => by
    rw [Nat.add_right_comm]
    exact ⟨x, hx, Walk.app h h2⟩
/-- how far it is from a to b -/
def IsDist (g : List Dp) (a b : Int) (d : Int) : Prop := (d = -1 ∧ ∀ k, ¬ Walk g k a b) ∨ ∃ k : Nat, d = (k : Int) ∧ Walk g k a b ∧ ∀ j, j < k → ¬ Walk g j a b
theorem IsDist.unique {g : List Dp} {a b d d' : Int} (h : IsDist g a b d) (h' : IsDist g a b d') : d = d' := by
  rcases h with ⟨rfl, h⟩ | ⟨k, rfl, h1, h2⟩ <;> rcases h' with ⟨rfl, h'⟩ | ⟨k', rfl, h1', h2'⟩
  · rfl
  · exact absurd h1' (h k')
  · exact absurd h1 (h' k)
  · rcases Nat.lt_trichotomy k k' with e | e | e
    · exact absurd h1 (h2' k e)
    · rw [e]
    · exact absurd h1' (h2 k' e)
theorem walk_mem {g : List Dp} {names : List Int} (hg : ∀ d ∈ g, d.f ∈ names ∧ d.t ∈ names) : ∀ {k : Nat} {a b : Int}, b ∈ names → Walk g k a b → a ∈ names
  | 0, a, b, hb, h => by have h' : a = b := h; rw [h']; exact hb
  | k + 1, a, b, hb, ⟨c, hc, h⟩ => by
    obtain ⟨d, hd, rfl, _⟩ := leadsB_iff.1 hc
    exact (hg d hd).1
/-- in an order that all dependencies follow no walk leads back -/
theorem topo_walk {g : List Dp} {names L : List Int} (hL : Topo g names L) (hg : ∀ d ∈ g, d.f ∈ names ∧ d.t ∈ names) : ∀ {k : Nat} {a b : Int}, a ∈ names → Walk g (k + 1) a b → L.idxOf a < L.idxOf b := by
  have edge : ∀ a b, leadsB g a b = true → L.idxOf a < L.idxOf b := by
    intro a b h
    obtain ⟨d, hd, rfl, rfl⟩ := leadsB_iff.1 h
    have hb := hL.2 _ (hg d hd).2
    obtain ⟨x, y, e⟩ := List.append_of_mem hb
    by_cases hx : d.t ∈ x
    · obtain ⟨x1, x2, e2⟩ := List.append_of_mem hx
      have hnd := hL.1.1
      rw [e, e2] at hnd
      simp [List.nodup_append] at hnd
    · have ha := hL.1.2.2 x d.t y e d hd rfl
      rw [e, List.idxOf_append, List.idxOf_append, if_pos ha, if_neg hx]
      have := List.idxOf_lt_length_of_mem ha
      omega
  intro k
  induction k with
  | zero =>
    intro a b ha h
    obtain ⟨c, hc, h⟩ := h
    have h' : c = b := h
    rw [← h']
    exact edge _ _ hc
  | succ k ih =>
    intro a b ha h
    obtain ⟨c, hc, h⟩ := h
    have h1 := edge _ _ hc
    obtain ⟨d, hd, _, rfl⟩ := leadsB_iff.1 hc
    have := ih (hg d hd).2 h
    omega
end Go.Proofs.Ytedcnpaomphffaa
namespace Go.Proofs.Ytedcnpaomphffaa
open Go.RowKit Go.Maps Go.Sort Go.Lib Go.Proofs.YtedcnpaomphffaaW.PrintWords Go.Proofs.YtedcnpaomphffaaW.PrintLast Go.Proofs.YtedcnpaomphffaaW.PrintMore
set_option linter.unusedVariables false
set_option linter.unusedSimpArgs false
/-! ### orders by a comparison -/
structure Ord3 {α : Type} (c : α → α → Int) : Prop where
  refl : ∀ a, c a a = 0
  anti : ∀ a b, c a b < 0 ↔ 0 < c b a
  trans : ∀ a b d, c a b ≤ 0 → c b d ≤ 0 → c a d ≤ 0 ∧ (c a d = 0 → c a b = 0 ∧ c b d = 0)
def cmpN (s u : Int) : Int := if s < u then -1 else if s = u then 0 else 1
theorem strictC_unique {α : Type} {c : α → α → Int} (h : Ord3 c) (he : ∀ a b, c a b = 0 → a = b) : ∀ {xs ys : List α}, xs.Pairwise (fun x y => c x y < 0) → ys.Pairwise (fun x y => c x y < 0) → (∀ x, x ∈ xs ↔ x ∈ ys) → xs = ys
  | [], [], _, _, _ => rfl
  | [], y :: ys, _, _, hm => by have := (hm y).2 List.mem_cons_self; cases this
  | x :: xs, [], _, _, hm => by have := (hm x).1 List.mem_cons_self; cases this
  | x :: xs, y :: ys, hx, hy, hm => by
    rw [List.pairwise_cons] at hx hy
    have irr : ∀ a, ¬ c a a < 0 := fun a => by rw [h.refl]; omega
    have hxy : x = y := by
      rcases List.mem_cons.1 ((hm x).1 List.mem_cons_self) with e | e
      · exact e
      · rcases List.mem_cons.1 ((hm y).2 List.mem_cons_self) with f | f
        · exact f.symm
        · have h1 := hx.1 y f
          have h2 := hy.1 x e
          have := h.anti x y
          omega
    subst hxy
    have sub : ∀ {xa xb : List α}, (∀ a ∈ xa, c x a < 0) → (∀ z, z ∈ x :: xa ↔ z ∈ x :: xb) → ∀ z, z ∈ xa → z ∈ xb := by
      intro xa xb ha hm z hz
      rcases List.mem_cons.1 ((hm z).1 (List.mem_cons_of_mem _ hz)) with e | e
      · subst e; exact absurd (ha _ hz) (irr _)
      · exact e
    rw [strictC_unique h he hx.2 hy.2 (fun z => ⟨sub hx.1 hm z, sub hy.1 (fun z => (hm z).symm) z⟩)]
def nub {α : Type} [DecidableEq α] : List α → List α
  | [] => []
  | x :: xs => if x ∈ xs then nub xs else x :: nub xs
theorem mem_nub {α : Type} [DecidableEq α] : ∀ {xs : List α} {z : α}, z ∈ nub xs ↔ z ∈ xs
  | [], z => Iff.rfl
  | x :: xs, z => by
    unfold nub
    split
    · rename_i h
      rw [mem_nub, List.mem_cons]
      constructor
      · exact .inr
      · rintro (rfl | h2)
        · exact h
        · exact h2
    · rw [List.mem_cons, List.mem_cons, mem_nub]
theorem nodup_nub {α : Type} [DecidableEq α] : ∀ (xs : List α), (nub xs).Nodup
  | [] => List.nodup_nil
  | x :: xs => by
    unfold nub
    split
    · exact nodup_nub xs
    · rename_i h
      rw [List.nodup_cons]
      exact ⟨fun e => h (mem_nub.1 e), nodup_nub xs⟩
section
variable {α β : Type} {c c1 c2 : α → α → Int}
theorem Ord3.lex (h1 : Ord3 c1) (h2 : Ord3 c2) : Ord3 (fun a b => if c1 a b ≠ 0 then c1 a b else c2 a b) where
  refl a := by simp [h1.refl, h2.refl]
  anti a b := by
    have := h1.anti a b
    have := h1.anti b a
    have := h2.anti a b
    by_cases e : c1 a b = 0
    · have e2 : c1 b a = 0 := by omega
      simpa [e, e2] using h2.anti a b
    · have e2 : c1 b a ≠ 0 := by omega
      simpa [e, e2] using h1.anti a b
  trans a b d := by
    intro hab hbd
    have key := h1.trans a b d
    have k2 := h2.trans a b d
    by_cases e1 : c1 a b = 0
    · by_cases e2 : c1 b d = 0
      · obtain ⟨k3, k4⟩ := key (by omega) (by omega)
        have k5 : c1 a d = 0 := by
          have := h1.anti a d
          have k6 := h1.trans d b a (by have := h1.anti b d; have := h1.anti d b; omega) (by have := h1.anti a b; have := h1.anti b a; omega)
          omega
        simp only [e1, e2, k5, ne_eq, not_true_eq_false, if_false] at hab hbd ⊢
        exact k2 hab hbd
      · simp only [e1, e2, ne_eq, not_true_eq_false, not_false_eq_true, if_false, if_true] at hab hbd ⊢
        obtain ⟨k3, k4⟩ := key (by omega) hbd
        have k5 : c1 a d ≠ 0 := fun h => e2 (k4 h).2
        simp only [k5, ne_eq, not_false_eq_true, if_true]
        exact ⟨k3, fun h => (by first | exact absurd h k5 | cases h)⟩
    · by_cases e2 : c1 b d = 0
      · simp only [e1, e2, ne_eq, not_true_eq_false, not_false_eq_true, if_false, if_true] at hab hbd ⊢
        obtain ⟨k3, k4⟩ := key hab (by omega)
        have k5 : c1 a d ≠ 0 := fun h => e1 (k4 h).1
        simp only [k5, ne_eq, not_false_eq_true, if_true]
        exact ⟨k3, fun h => (by first | exact absurd h k5 | cases h)⟩
      · simp only [e1, e2, ne_eq, not_false_eq_true, if_true] at hab hbd ⊢
        obtain ⟨k3, k4⟩ := key hab hbd
        have k5 : c1 a d ≠ 0 := fun h => e1 (k4 h).1
        simp only [k5, ne_eq, not_false_eq_true, if_true]
        exact ⟨k3, fun h => (by first | exact absurd h k5 | cases h)⟩
theorem Ord3.by {c : β → β → Int} (h : Ord3 c) (f : α → β) : Ord3 (fun a b => c (f a) (f b)) where
  refl a := h.refl _
  anti a b := h.anti _ _
  trans a b d := h.trans _ _ _
end
theorem ord_N : Ord3 cmpN where
  refl a := by simp [cmpN]
  anti a b := by unfold cmpN; split <;> split <;> (try split) <;> (try split) <;> omega
  trans a b d := by
    unfold cmpN
    intro h1 h2
    constructor
    · split <;> (try split) <;> (try omega)
    · intro h3
      split at h1 <;> split at h2 <;> (try split at h1) <;> (try split at h2) <;> (try split at h3) <;> (try split at h3) <;> first | omega | (constructor <;> (split <;> (try split) <;> omega))
theorem cmpN_eq {a b : Int} (h : cmpN a b = 0) : a = b := by
  unfold cmpN at h
  split at h
  · omega
  · split at h
    · assumption
    · omega
section
variable {α : Type} {c : α → α → Int}
theorem Ord3.swo (h : Ord3 c) : SWO (ltOf c) where
  irrefl x := by unfold ltOf; rw [h.refl]; rfl
  trans x y z h1 h2 := by
    unfold ltOf at *
    rw [decide_eq_true_iff] at *
    obtain ⟨k1, k2⟩ := h.trans x y z (by omega) (by omega)
    by_cases e : c x z = 0
    · have := (k2 e).1; omega
    · omega
  ntrans x y z h1 h2 := by
    unfold ltOf at *
    rw [decide_eq_false_iff_not] at *
    have a1 := h.anti y x
    have a2 := h.anti x y
    have a3 := h.anti z y
    have a4 := h.anti y z
    have a5 := h.anti z x
    have a6 := h.anti x z
    obtain ⟨k1, k2⟩ := h.trans z y x (by omega) (by omega)
    omega
theorem Ord3.tot (h : Ord3 c) (he : ∀ a b, c a b = 0 → a = b) (x y : α) (h1 : ltOf c x y = false) (h2 : ltOf c y x = false) : x = y := by
  unfold ltOf at *
  rw [decide_eq_false_iff_not] at *
  have := h.anti x y
  have := h.anti y x
  exact he _ _ (by omega)
/-- sorted by a comparison -/
def srtC (c : α → α → Int) (xs : List α) : List α := xs.mergeSort fun x y => !(ltOf c) y x
theorem srtC_length (xs : List α) : (srtC c xs).length = xs.length := by simp [srtC]
theorem srtC_perm (xs : List α) : (srtC c xs).Perm xs := List.mergeSort_perm _ _
theorem srtC_rising (h : Ord3 c) (xs : List α) : (srtC c xs).Pairwise (fun x y => c x y ≤ 0) := by
  have h1 := List.pairwise_mergeSort (le := fun x y => !(ltOf c) y x) (fun a b d => by
      simp only [Bool.not_eq_true']
      intro k1 k2
      exact h.swo.ntrans _ _ _ k2 k1) (fun a b => by
      unfold ltOf
      simp only [Bool.or_eq_true, Bool.not_eq_true', decide_eq_false_iff_not]
      have := h.anti a b
      omega) xs
  refine h1.imp fun {a b} hab => ?_
  unfold ltOf at hab
  simp only [Bool.not_eq_true', decide_eq_false_iff_not] at hab
  have := h.anti b a
  have := h.anti a b
  omega
end
/-- dependencies in order -/
def cmpDp (a b : Dp) : Int := if cmpN a.f b.f ≠ 0 then cmpN a.f b.f else if cmpN a.t b.t ≠ 0 then cmpN a.t b.t else cmpN a.k b.k
theorem ord_Dp : Ord3 cmpDp := (ord_N.by Dp.f).lex ((ord_N.by Dp.t).lex (ord_N.by Dp.k))
theorem cmpDp_eq {a b : Dp} (h : cmpDp a b = 0) : a = b := by
  unfold cmpDp at h
  by_cases h1 : cmpN a.f b.f = 0
  · by_cases h2 : cmpN a.t b.t = 0
    · simp only [h1, h2, ne_eq, not_true_eq_false, if_false] at h
      obtain ⟨f, t, k⟩ := a
      obtain ⟨f', t', k'⟩ := b
      have e1 := cmpN_eq h1
      have e2 := cmpN_eq h2
      have e3 := cmpN_eq h
      simp only at e1 e2 e3
      rw [e1, e2, e3]
    · simp only [h1, h2, ne_eq, not_true_eq_false, not_false_eq_true, if_false, if_true] at h
  · simp only [h1, ne_eq, not_false_eq_true, if_true] at h
theorem cmpN_lt {a b : Int} : cmpN a b < 0 ↔ a < b := by unfold cmpN; split <;> (try split) <;> omega
theorem cmpN_zero {a b : Int} : cmpN a b = 0 ↔ a = b := by unfold cmpN; split <;> (try split) <;> omega
/-- .. as the document compares them -/
def lessD (a b : Dp) : Bool := if a.f = b.f then (if a.t = b.t then decide (a.k < b.k) else decide (a.t < b.t)) else decide (a.f < b.f)
theorem lessD_cmp (a b : Dp) : lessD a b = decide (cmpDp a b < 0) := by
  unfold lessD cmpDp
  by_cases h1 : a.f = b.f
  · by_cases h2 : a.t = b.t
    · rw [if_pos h1, if_pos h2, if_neg (by simpa using cmpN_zero.2 h1), if_neg (by simpa using cmpN_zero.2 h2)]
      exact decide_eq_decide.2 cmpN_lt.symm
    · rw [if_pos h1, if_neg h2, if_neg (by simpa using cmpN_zero.2 h1), if_pos (fun e => h2 (cmpN_zero.1 e))]
      exact decide_eq_decide.2 cmpN_lt.symm
  · rw [if_neg h1, if_pos (fun e => h1 (cmpN_zero.1 e))]
    exact decide_eq_decide.2 cmpN_lt.symm
/-- a list, in order, each once -/
def riseD (xs : List Dp) : List Dp := srtC cmpDp (nub xs)
theorem riseD_spec (xs : List Dp) : (riseD xs).Pairwise (fun x y => cmpDp x y < 0) ∧ ∀ d, d ∈ riseD xs ↔ d ∈ xs := by
  have hp := srtC_perm (c := cmpDp) (nub xs)
  refine ⟨?_, fun d => ?_⟩
  · have h1 := srtC_rising ord_Dp (nub xs)
    have h2 : (srtC cmpDp (nub xs)).Nodup := hp.nodup_iff.2 (nodup_nub xs)
    rw [List.nodup_iff_pairwise_ne] at h2
    refine (h1.and h2).imp fun {a b} hab => ?_
    have := hab.1
    by_cases e : cmpDp a b = 0
    · exact absurd (cmpDp_eq e) hab.2
    · omega
  · unfold riseD
    rw [hp.mem_iff, mem_nub]
theorem riseD_eq {xs ys : List Dp} (h : ys.Pairwise (fun x y => cmpDp x y < 0)) (hm : ∀ d, d ∈ ys ↔ d ∈ xs) : ys = riseD xs :=
  strictC_unique ord_Dp (fun _ _ => cmpDp_eq) h (riseD_spec xs).1 (fun d => by rw [hm, (riseD_spec xs).2])
theorem nub_len {α : Type} [DecidableEq α] : ∀ xs : List α, (nub xs).length ≤ xs.length
  | [] => Nat.le_refl _
  | x :: xs => by
    unfold nub
    have := nub_len xs
    split
    · simp only [List.length_cons]; omega
    · simp only [List.length_cons]; omega
theorem riseD_len (xs : List Dp) : (riseD xs).length ≤ xs.length := by
  unfold riseD
  rw [srtC_length]
  exact nub_len xs
end Go.Proofs.Ytedcnpaomphffaa
namespace Go.Proofs.Ytedcnpaomphffaa
set_option linter.unusedVariables false
set_option linter.unusedSimpArgs false
/-! ### histories, plain -/
structure Ac where
  t : Int
  wr : Bool
  item : ByteArray
  v : Int
structure Hs where
  C : List Int
  A : List Ac
def isW (t : Int) (item : ByteArray) (a : Ac) : Bool := a.wr && ((a.t == t) && (a.item.toList == item.toList))
/-- does a transaction write an item? -/
def wrs (A : List Ac) (t : Int) (item : ByteArray) : Bool := A.any (isW t item)
theorem isW_iff {t : Int} {item : ByteArray} {a : Ac} : isW t item a = true ↔ a.wr = true ∧ a.t = t ∧ a.item.toList = item.toList := by
  unfold isW
  simp
theorem wrs_iff {A : List Ac} {t : Int} {item : ByteArray} : wrs A t item = true ↔ ∃ a ∈ A, a.wr = true ∧ a.t = t ∧ a.item.toList = item.toList := by
  unfold wrs
  simp only [List.any_eq_true, isW_iff]
structure OkH (h : Hs) : Prop where
  la : h.A.length ≤ 4096
  lc : h.C.length ≤ 4096
  pos : ∀ c ∈ h.C, 1 ≤ c
  nd : h.C.Nodup
  inC : ∀ a ∈ h.A, a.t ∈ h.C
  wv : ∀ a ∈ h.A, a.wr = true → a.v = 0
  once : h.A.Pairwise (fun a b => ¬ (a.wr = true ∧ b.wr = true ∧ a.t = b.t ∧ a.item.toList = b.item.toList))
  rd : ∀ a ∈ h.A, a.wr = false → a.v = 0 ∨ (a.v ∈ h.C ∧ wrs h.A a.v a.item = true)
open Classical in
noncomputable def chk (h : Hs) : Int := if OkH h then 0 else 110
theorem chk_ok {h : Hs} (k : OkH h) : chk h = 0 := if_pos k
theorem chk_no {h : Hs} (k : ¬ OkH h) : chk h = 110 := if_neg k
/-- the transaction that writes the version behind one; 0: none -/
def nxt (h : Hs) (item : ByteArray) (ver : Int) : Int := ((h.C.drop (if ver = 0 then 0 else (plc h.C ver + 1).toNat)).find? (fun c => wrs h.A c item)).getD 0
/-- the versions of an item -/
def vers (h : Hs) (item : ByteArray) : List Int := h.C.filter (fun c => wrs h.A c item)
def okD (d : Dp) : Bool := !(d.f == 0) && (!(d.t == 0) && !(d.f == d.t))
def actD (h : Hs) (a : Ac) : List Dp := if a.wr = true then [⟨a.t, nxt h a.item a.t, 2⟩] else if a.v = a.t then [] else [⟨a.v, a.t, 1⟩, ⟨a.t, nxt h a.item a.v, 3⟩]
def depsL (h : Hs) : List Dp := (h.A.flatMap (actD h)).filter okD
theorem mem_deps {h : Hs} {d : Dp} : d ∈ depsL h ↔ okD d = true ∧ ∃ a ∈ h.A, d ∈ actD h a := by
  unfold depsL
  rw [List.mem_filter, List.mem_flatMap]
  exact ⟨fun ⟨x, y⟩ => ⟨y, x⟩, fun ⟨x, y⟩ => ⟨y, x⟩⟩
theorem vers_nodup {h : Hs} (k : OkH h) (item : ByteArray) : (vers h item).Nodup := k.nd.filter _
theorem mem_vers {h : Hs} {item : ByteArray} {c : Int} : c ∈ vers h item ↔ c ∈ h.C ∧ wrs h.A c item = true := by
  unfold vers
  rw [List.mem_filter]
theorem nxt_zero (h : Hs) (item : ByteArray) : nxt h item 0 = ((vers h item)[0]?).getD 0 := by
  unfold nxt vers
  rw [if_pos rfl, List.drop_zero, ← List.head?_filter, List.head?_eq_getElem?]
theorem split_at {C : List Int} (hn : C.Nodup) {c : Int} (hc : c ∈ C) : ∃ x y, C = x ++ c :: y ∧ c ∉ x ∧ c ∉ y ∧ plc C c = (x.length : Int) := by
  obtain ⟨x, y, e⟩ := List.append_of_mem hc
  have hn' := hn
  rw [e, List.nodup_append, List.nodup_cons] at hn'
  have hx : c ∉ x := fun hx => hn'.2.2 c hx c List.mem_cons_self rfl
  refine ⟨x, y, e, hx, hn'.2.1.1, ?_⟩
  rw [(plc_mem hc).1, e, List.idxOf_append, if_neg hx]
  simp
theorem vers_split {h : Hs} {item : ByteArray} {c : Int} {x y : List Int} (e : h.C = x ++ c :: y) (hw : wrs h.A c item = true) : vers h item = x.filter (fun c => wrs h.A c item) ++ c :: y.filter (fun c => wrs h.A c item) := by
  unfold vers
  rw [e, List.filter_append, List.filter_cons, if_pos hw]
theorem nxt_of {h : Hs} (k : OkH h) {item : ByteArray} {ver : Int} (h0 : ver ≠ 0) {x y : List Int} (e : h.C = x ++ ver :: y) (hx : ver ∉ x) : nxt h item ver = ((y.filter (fun c => wrs h.A c item)).head?).getD 0 := by
  unfold nxt
  have hm : ver ∈ h.C := by rw [e]; simp
  have hp : plc h.C ver = (x.length : Int) := by
    rw [(plc_mem hm).1, e, List.idxOf_append, if_neg hx]
    simp
  rw [if_neg h0, hp, List.head?_filter]
  have : (((x.length : Int) + 1).toNat) = x.length + 1 := by omega
  rw [this, e, List.drop_append, List.drop_of_length_le (by omega)]
  simp
/-- the version behind one, as the next of the versions -/
theorem nxt_vers {h : Hs} (k : OkH h) {item : ByteArray} {ver : Int} (hv : ver ∈ vers h item) : nxt h item ver = ((vers h item)[(vers h item).idxOf ver + 1]?).getD 0 := by
  obtain ⟨hc, hw⟩ := mem_vers.1 hv
  obtain ⟨x, y, e, hx, hy, _⟩ := split_at k.nd hc
  have h0 : ver ≠ 0 := by have := k.pos _ hc; omega
  rw [nxt_of k h0 e hx, vers_split e hw]
  have hx' : ver ∉ x.filter (fun c => wrs h.A c item) := fun hm => hx (List.mem_filter.1 hm).1
  rw [List.idxOf_append, if_neg hx', List.idxOf_cons_self, Nat.zero_add, List.getElem?_append_right (by omega)]
  rw [show (x.filter (fun c => wrs h.A c item)).length + 1 - (x.filter (fun c => wrs h.A c item)).length = 1 by omega, List.head?_eq_getElem?]
  rfl
theorem nxt_mem {h : Hs} (k : OkH h) {item : ByteArray} {ver : Int} (h1 : nxt h item ver ≠ 0) : nxt h item ver ∈ vers h item := by
  unfold nxt at h1 ⊢
  cases hf : (h.C.drop (if ver = 0 then 0 else (plc h.C ver + 1).toNat)).find? (fun c => wrs h.A c item) with
  | none => rw [hf] at h1; exact absurd rfl h1
  | some c =>
    rw [Option.getD_some]
    have h2 := List.find?_some hf
    have h3 := List.mem_of_find?_eq_some hf
    exact mem_vers.2 ⟨List.mem_of_mem_drop h3, h2⟩
theorem nxt_ne {h : Hs} (k : OkH h) {item : ByteArray} {ver : Int} (hv : ver ∈ h.C) : nxt h item ver ≠ ver := by
  intro e
  have h0 : ver ≠ 0 := by have := k.pos _ hv; omega
  obtain ⟨x, y, ec, hx, hy, _⟩ := split_at k.nd hv
  rw [nxt_of k h0 ec hx] at e
  cases hf : (y.filter (fun c => wrs h.A c item)).head? with
  | none => rw [hf] at e; exact h0 e.symm
  | some z =>
    rw [hf, Option.getD_some] at e
    have := List.mem_of_mem_head? hf
    rw [e] at this
    exact hy (List.mem_filter.1 this).1
/-- both ends of a dependency are transactions -/
theorem deps_ends {h : Hs} (k : OkH h) {d : Dp} (hd : d ∈ depsL h) : d.f ∈ h.C ∧ d.t ∈ h.C ∧ d.f ≠ d.t := by
  obtain ⟨hok, a, ha, hm⟩ := mem_deps.1 hd
  unfold okD at hok
  simp only [Bool.and_eq_true, Bool.not_eq_true', beq_eq_false_iff_ne] at hok
  obtain ⟨h1, h2, h3⟩ := hok
  refine ⟨?_, ?_, h3⟩
  · unfold actD at hm
    split at hm
    · rw [List.mem_singleton.1 hm]; exact k.inC a ha
    · rename_i hw
      split at hm
      · cases hm
      · rename_i hv
        rcases List.mem_cons.1 hm with rfl | hm
        · have hw' : a.wr = false := by simpa using hw
          rcases k.rd a ha hw' with h0 | h0
          · exact absurd h0 h1
          · exact h0.1
        · rw [List.mem_singleton.1 hm]; exact k.inC a ha
  · unfold actD at hm
    split at hm
    · rw [List.mem_singleton.1 hm] at h2 ⊢
      exact (mem_vers.1 (nxt_mem k h2)).1
    · split at hm
      · cases hm
      · rcases List.mem_cons.1 hm with rfl | hm
        · exact k.inC a ha
        · rw [List.mem_singleton.1 hm] at h2 ⊢
          exact (mem_vers.1 (nxt_mem k h2)).1
/-- what the program finds: the versions that stand side by side, and of each read two -/
def pairD (l : List Int) (d : Dp) : Prop := ∃ i, d.k = 2 ∧ l[i]? = some d.f ∧ l[i + 1]? = some d.t
def readD (h : Hs) (a : Ac) (d : Dp) : Prop := a.wr = false ∧ a.v ≠ a.t ∧ d.f ≠ d.t ∧ ((a.v ≠ 0 ∧ d = ⟨a.v, a.t, 1⟩) ∨ ∃ w, (vers h a.item)[if a.v = 0 then 0 else (vers h a.item).idxOf a.v + 1]? = some w ∧ d = ⟨a.t, w, 3⟩)
theorem deps_iff {h : Hs} (k : OkH h) (d : Dp) : d ∈ depsL h ↔ (∃ item, pairD (vers h item) d) ∨ ∃ a ∈ h.A, readD h a d := by
  rw [mem_deps]
  have vpos : ∀ item c, c ∈ vers h item → 1 ≤ c := fun item c hc => k.pos _ (mem_vers.1 hc).1
  constructor
  · rintro ⟨hok, a, ha, hm⟩
    unfold okD at hok
    simp only [Bool.and_eq_true, Bool.not_eq_true', beq_eq_false_iff_ne] at hok
    obtain ⟨h1, h2, h3⟩ := hok
    unfold actD at hm
    split at hm
    · rename_i hw
      rw [List.mem_singleton.1 hm] at h1 h2 h3 ⊢
      left
      have hv : a.t ∈ vers h a.item := mem_vers.2 ⟨k.inC a ha, wrs_iff.2 ⟨a, ha, hw, rfl, rfl⟩⟩
      refine ⟨a.item, (vers h a.item).idxOf a.t, rfl, ?_, ?_⟩
      · have := List.idxOf_lt_length_of_mem hv
        rw [List.getElem?_eq_getElem this, List.getElem_idxOf this]
      · have e := nxt_vers k hv
        simp only at h2 ⊢
        cases hg : (vers h a.item)[(vers h a.item).idxOf a.t + 1]? with
        | none => rw [e, hg] at h2; exact absurd rfl h2
        | some w => rw [e, hg]; rfl
    · rename_i hw
      have hw' : a.wr = false := by simpa using hw
      split at hm
      · cases hm
      · rename_i hv
        right
        refine ⟨a, ha, hw', hv, h3, ?_⟩
        rcases List.mem_cons.1 hm with rfl | hm
        · exact .inl ⟨h1, rfl⟩
        · have hd := List.mem_singleton.1 hm
          right
          refine ⟨nxt h a.item a.v, ?_, hd⟩
          rw [hd] at h2
          simp only at h2
          by_cases h0 : a.v = 0
          · rw [if_pos h0]
            have e : nxt h a.item a.v = ((vers h a.item)[0]?).getD 0 := by rw [h0]; exact nxt_zero h a.item
            cases hg : (vers h a.item)[0]? with
            | none => rw [e, hg] at h2; exact absurd rfl h2
            | some w => rw [e, hg]; rfl
          · rw [if_neg h0]
            have hm' : a.v ∈ vers h a.item := by
              rcases k.rd a ha hw' with e | e
              · exact absurd e h0
              · exact mem_vers.2 e
            have e := nxt_vers k hm'
            cases hg : (vers h a.item)[(vers h a.item).idxOf a.v + 1]? with
            | none => rw [e, hg] at h2; exact absurd rfl h2
            | some w => rw [e, hg]; rfl
  · rintro (⟨item, i, hk, hf, ht⟩ | ⟨a, ha, hw, hv, h3, hd⟩)
    · have mf := List.mem_of_getElem? hf
      have mt := List.mem_of_getElem? ht
      have hnd := vers_nodup k item
      have hi := (List.getElem?_eq_some_iff.1 hf).1
      have hi1 := (List.getElem?_eq_some_iff.1 ht).1
      have ne : d.f ≠ d.t := by
        intro e
        have e1 := (List.getElem?_eq_some_iff.1 hf).2
        have e2 := (List.getElem?_eq_some_iff.1 ht).2
        have := (List.nodup_iff_pairwise_ne.1 hnd)
        have := List.pairwise_iff_getElem.1 this i (i + 1) hi hi1 (by omega)
        exact this (by rw [e1, e2, e])
      have p1 := vpos item _ mf
      have p2 := vpos item _ mt
      refine ⟨?_, ?_⟩
      · unfold okD
        simp only [Bool.and_eq_true, Bool.not_eq_true', beq_eq_false_iff_ne]
        exact ⟨by omega, by omega, ne⟩
      · obtain ⟨a, ha, hw, hat, hit⟩ := wrs_iff.1 (mem_vers.1 mf).2
        have hv : vers h a.item = vers h item := by unfold vers wrs isW; rw [hit]
        refine ⟨a, ha, ?_⟩
        unfold actD
        rw [if_pos hw, List.mem_singleton]
        have mv : a.t ∈ vers h a.item := by rw [hv, hat]; exact mf
        have e := nxt_vers k mv
        have ei : (vers h item).idxOf d.f = i := by
          have e1 := (List.getElem?_eq_some_iff.1 hf).2
          rw [← e1]
          exact hnd.idxOf_getElem i hi
        rw [hv, hat, ei, ht, Option.getD_some] at e
        obtain ⟨df, dt, dk⟩ := d
        simp only at hk hat e ⊢
        rw [hk, hat, e]
    · have hw' : ¬ a.wr = true := by rw [hw]; decide
      rcases hd with ⟨h0, rfl⟩ | ⟨w, hg, rfl⟩
      · refine ⟨?_, a, ha, ?_⟩
        · unfold okD
          simp only [Bool.and_eq_true, Bool.not_eq_true', beq_eq_false_iff_ne]
          have := k.pos _ (k.inC a ha)
          exact ⟨h0, by omega, hv⟩
        · unfold actD
          rw [if_neg hw', if_neg hv]
          exact List.mem_cons_self
      · have mw := List.mem_of_getElem? hg
        refine ⟨?_, a, ha, ?_⟩
        · unfold okD
          simp only [Bool.and_eq_true, Bool.not_eq_true', beq_eq_false_iff_ne]
          have := k.pos _ (k.inC a ha)
          have := vpos _ _ mw
          exact ⟨by omega, by omega, h3⟩
        · unfold actD
          rw [if_neg hw', if_neg hv]
          refine List.mem_cons_of_mem _ (List.mem_singleton.2 ?_)
          congr 1
          by_cases h0 : a.v = 0
          · rw [if_pos h0] at hg
            rw [h0, nxt_zero, hg]; rfl
          · rw [if_neg h0] at hg
            have hm' : a.v ∈ vers h a.item := by
              rcases k.rd a ha hw with e | e
              · exact absurd e h0
              · exact mem_vers.2 e
            rw [nxt_vers k hm', hg]; rfl
/-- the dependencies of a history, in order, each once -/
def graphP (h : Hs) : List Dp := riseD (depsL h)
theorem mem_graph {h : Hs} {d : Dp} : d ∈ graphP h ↔ d ∈ depsL h := (riseD_spec (depsL h)).2 d
theorem actD_len (h : Hs) (a : Ac) : (actD h a).length ≤ 2 := by unfold actD; split <;> (try split) <;> simp
theorem deps_len (h : Hs) : (depsL h).length ≤ 2 * h.A.length := by
  unfold depsL
  refine Nat.le_trans (List.length_filter_le _ _) ?_
  induction h.A with
  | nil => simp
  | cons a l ih =>
    rw [List.flatMap_cons, List.length_append, List.length_cons]
    have := actD_len h a
    omega
theorem graph_len (h : Hs) : (graphP h).length ≤ 2 * h.A.length := Nat.le_trans (riseD_len _) (deps_len h)
end Go.Proofs.Ytedcnpaomphffaa
