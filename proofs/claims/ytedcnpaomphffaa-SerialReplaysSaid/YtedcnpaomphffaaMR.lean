import Derived.Test.YtedcnpaomphffaaME
namespace Go.Proofs.Ytedcnpaomphffaa
open Go.RowKit Go.Maps Go.Sort Go.Lib Go.Shelf Go.Proofs.YtedcnpaomphffaaW.PrintWords Go.Proofs.YtedcnpaomphffaaW.PrintLast Go.Proofs.YtedcnpaomphffaaW.PrintMore
set_option linter.unusedVariables false
set_option linter.unusedSimpArgs false
set_option linter.unusedSectionVars false
/-! ### snapshots: the plain law (two antidependencies one behind the other) -/
/-- the newest version ahead of a place; 0: none -/
def newest (h : Hs) (s : Nat) (item : ByteArray) : Int := (((h.C.take s).filter (fun c => wrs h.A c item)).getLast?).getD 0
/-- a transaction sees the snapshot s -/
def SnapAt (h : Hs) (t : Int) (s : Nat) : Prop := ∀ a ∈ h.A, a.t = t → (a.wr = true → ∀ (k : Nat) (c : Int), s ≤ k → (k : Int) < plc h.C t → h.C[k]? = some c → wrs h.A c a.item = false) ∧ (a.wr = false → a.v = t ∨ a.v = newest h s a.item)
def Snaps (h : Hs) : Prop := ∀ i (hi : i < h.C.length), ∃ s, s ≤ i ∧ SnapAt h h.C[i] s
theorem plc_idx {C : List Int} (hn : C.Nodup) {i : Nat} (hi : i < C.length) : plc C C[i] = (i : Int) := by
  refine plc_first hi rfl fun j hj hji => ?_
  rw [List.nodup_iff_pairwise_ne, List.pairwise_iff_getElem] at hn
  exact hn j i hj hi hji
theorem nxt_after {h : Hs} (k : OkH h) {item : ByteArray} {ver : Int} (h1 : nxt h item ver ≠ 0) (hv : ver = 0 ∨ ver ∈ h.C) : nxt h item ver ∈ h.C ∧ wrs h.A (nxt h item ver) item = true ∧ (ver ≠ 0 → plc h.C ver < plc h.C (nxt h item ver)) := by
  obtain ⟨h2, h3⟩ := mem_vers.1 (nxt_mem k h1)
  refine ⟨h2, h3, fun h0 => ?_⟩
  have hm := hv.resolve_left h0
  have hp := plc_nonneg.2 hm
  unfold nxt at h1 ⊢
  rw [if_neg h0] at h1 ⊢
  cases hf : (h.C.drop (plc h.C ver + 1).toNat).find? (fun c => wrs h.A c item) with
  | none => rw [hf] at h1; exact absurd rfl h1
  | some n =>
    rw [Option.getD_some]
    obtain ⟨i, hi, e⟩ := List.mem_iff_getElem.1 (List.mem_of_find?_eq_some hf)
    rw [List.getElem_drop] at e
    rw [List.length_drop] at hi
    rw [← e, plc_idx k.nd (by omega)]
    omega
theorem newest_mem {h : Hs} (k : OkH h) {s : Nat} {item : ByteArray} (h0 : newest h s item ≠ 0) : newest h s item ∈ h.C ∧ wrs h.A (newest h s item) item = true ∧ plc h.C (newest h s item) < (s : Int) := by
  unfold newest at h0 ⊢
  cases hf : ((h.C.take s).filter (fun c => wrs h.A c item)).getLast? with
  | none => rw [hf] at h0; exact absurd rfl h0
  | some n =>
    rw [Option.getD_some]
    have hm := List.mem_of_getLast? hf
    obtain ⟨h1, h2⟩ := List.mem_filter.1 hm
    obtain ⟨i, hi, e⟩ := List.mem_iff_getElem.1 h1
    rw [List.getElem_take] at e
    rw [List.length_take] at hi
    refine ⟨List.mem_of_mem_take h1, h2, ?_⟩
    rw [← e, plc_idx k.nd (by omega)]
    omega
theorem newest_top {h : Hs} (k : OkH h) {s : Nat} {item : ByteArray} {n : Int} (hn : n ∈ h.C) (hw : wrs h.A n item = true) (hp : plc h.C n < (s : Int)) : newest h s item ≠ 0 ∧ plc h.C n ≤ plc h.C (newest h s item) := by
  obtain ⟨p, hp1, e1, e2⟩ := plc_at hn
  rw [e1] at hp ⊢
  have hsplit : (h.C.take s).filter (fun c => wrs h.A c item) = ((h.C.take s).take p).filter (fun c => wrs h.A c item) ++ (n :: ((h.C.take s).drop (p + 1)).filter (fun c => wrs h.A c item)) := by
    have e3 : h.C.take s = (h.C.take s).take p ++ (n :: (h.C.take s).drop (p + 1)) := by
      have hl : p < (h.C.take s).length := by rw [List.length_take]; omega
      have e4 : (h.C.take s)[p] = n := by rw [List.getElem_take, e2]
      rw [← e4]
      rw [List.getElem_cons_drop, List.take_append_drop]
    conv => lhs; rw [e3]
    rw [List.filter_append, List.filter_cons, if_pos hw]
  unfold newest
  rw [hsplit]
  cases hl : ((h.C.take s).drop (p + 1)).filter (fun c => wrs h.A c item) with
  | nil =>
    rw [List.getLast?_append, List.getLast?_singleton]
    simp only [Option.some_or, Option.getD_some]
    exact ⟨by have := k.pos n hn; omega, by rw [e1]; exact Int.le_refl _⟩
  | cons m ms =>
    obtain ⟨z, hz⟩ : ∃ z, (n :: m :: ms).getLast? = some z := ⟨_, List.getLast?_eq_some_getLast (by simp)⟩
    rw [List.getLast?_append, hz]
    simp only [Option.some_or, Option.getD_some]
    have hz2 : z ∈ m :: ms := by
      rw [List.getLast?_cons_cons] at hz
      exact List.mem_of_getLast? hz
    rw [← hl] at hz2
    obtain ⟨h1, h2⟩ := List.mem_filter.1 hz2
    obtain ⟨i, hi, e⟩ := List.mem_iff_getElem.1 h1
    rw [List.getElem_drop, List.getElem_take] at e
    rw [List.length_drop, List.length_take] at hi
    have hz3 : z ∈ h.C := by rw [← e]; exact List.getElem_mem _
    refine ⟨by have := k.pos z hz3; omega, ?_⟩
    rw [← e, plc_idx k.nd (by omega)]
    omega
theorem wrs_congr {A : List Ac} {t : Int} {x y : ByteArray} (e : x.toList = y.toList) : wrs A t x = wrs A t y := by
  unfold wrs isW
  rw [e]
/-- where dependencies lead, seen from the snapshots -/
theorem snap_edge {h : Hs} (k : OkH h) {s : Int → Nat} (hs : ∀ t ∈ h.C, SnapAt h t (s t)) {d : Dp} (hd : d ∈ depsL h) : (d.k ≠ 3 → plc h.C d.f < (s d.t : Int)) ∧ (d.k = 3 → (s d.f : Int) ≤ plc h.C d.t) := by
  obtain ⟨he1, he2, he3⟩ := deps_ends k hd
  obtain ⟨hok, a, ha, hm⟩ := mem_deps.1 hd
  unfold okD at hok
  simp only [Bool.and_eq_true, Bool.not_eq_true', beq_eq_false_iff_ne] at hok
  obtain ⟨o1, o2, o3⟩ := hok
  have hat := k.inC a ha
  unfold actD at hm
  by_cases hw : a.wr = true
  · rw [if_pos hw] at hm
    rw [List.mem_singleton.1 hm] at o1 o2 o3 he1 he2 ⊢
    simp only at o1 o2 o3 he1 he2 ⊢
    refine ⟨fun _ => ?_, fun e => absurd e (by decide)⟩
    obtain ⟨n1, n2, n3⟩ := nxt_after k o2 (.inr hat)
    have n3 := n3 o1
    unfold wrs at n2
    obtain ⟨b, hb, hbw⟩ := List.any_eq_true.1 n2
    obtain ⟨b1, b2, b3⟩ := isW_iff.1 hbw
    have hS := (hs _ n1 b hb b2).1 b1
    refine Classical.byContradiction fun hno => ?_
    obtain ⟨p, hp, e1, e2⟩ := plc_at hat
    have := hS p a.t (by omega) (by omega) (by rw [List.getElem?_eq_getElem hp, e2])
    rw [wrs_congr b3] at this
    have h2 : wrs h.A a.t a.item = true := by
      unfold wrs
      exact List.any_eq_true.2 ⟨a, ha, isW_iff.2 ⟨hw, rfl, rfl⟩⟩
    rw [h2] at this
    cases this
  · rw [if_neg hw] at hm
    have hwf : a.wr = false := by simpa using hw
    have hS := (hs _ hat a ha rfl).2 hwf
    by_cases hv : a.v = a.t
    · rw [if_pos hv] at hm
      cases hm
    · rw [if_neg hv] at hm
      have hS := hS.resolve_left hv
      rcases List.mem_cons.1 hm with e | e
      · rw [e] at o1 o2 o3 ⊢
        simp only at o1 o2 o3 ⊢
        refine ⟨fun _ => ?_, fun e => absurd e (by decide)⟩
        have hne : newest h (s a.t) a.item ≠ 0 := by rw [← hS]; exact o1
        have := (newest_mem k hne).2.2
        rw [← hS] at this
        exact this
      · rw [List.mem_singleton.1 e] at o1 o2 o3 ⊢
        simp only at o1 o2 o3 ⊢
        refine ⟨fun h3 => absurd rfl h3, fun _ => ?_⟩
        have hvm : a.v = 0 ∨ a.v ∈ h.C := by
          rcases k.rd a ha hwf with h0 | h0
          · exact .inl h0
          · exact .inr h0.1
        obtain ⟨n1, n2, n3⟩ := nxt_after k o2 hvm
        refine Classical.byContradiction fun hno => ?_
        obtain ⟨t1, t2⟩ := newest_top k n1 n2 (s := s a.t) (by omega)
        rw [← hS] at t1 t2
        have := n3 t1
        omega
/-- the law of two antidependencies -/
theorem two_rw {h : Hs} (k : OkH h) (hs : Snaps h) {n : Nat} (L : Nat → Int) (hn : 0 < n) (hL : ∀ i, leadsB (graphP h) (L i) (L (i + 1)) = true) (hper : ∀ i, L (i + n) = L i) :
    ∃ i, i < n ∧ (⟨L i, L (i + 1), 3⟩ : Dp) ∈ graphP h ∧ (⟨L (i + 1), L (i + 2), 3⟩ : Dp) ∈ graphP h := by
  have hmem : ∀ i, L i ∈ h.C := fun i => by
    obtain ⟨d, hd, e, _⟩ := leadsB_iff.1 (hL i)
    rw [← e]
    exact (deps_ends k (mem_graph.1 hd)).1
  have hsn : ∀ t : Int, ∃ s : Nat, t ∈ h.C → ((s : Int) ≤ plc h.C t ∧ SnapAt h t s) := fun t => by
    by_cases ht : t ∈ h.C
    · obtain ⟨p, hp, e1, e2⟩ := plc_at ht
      obtain ⟨s, h1, h2⟩ := hs p hp
      rw [e2] at h2
      exact ⟨s, fun _ => ⟨by rw [e1]; omega, h2⟩⟩
    · exact ⟨0, fun h => absurd h ht⟩
  obtain ⟨s, hs2⟩ : ∃ s : Int → Nat, ∀ t, t ∈ h.C → ((s t : Int) ≤ plc h.C t ∧ SnapAt h t (s t)) := ⟨fun t => (hsn t).choose, fun t => (hsn t).choose_spec⟩
  have hS : ∀ t ∈ h.C, SnapAt h t (s t) := fun t ht => (hs2 t ht).2
  -- the one that commits first
  have hmin : ∀ m, ∃ c, c ≤ m ∧ ∀ i, i ≤ m → plc h.C (L c) ≤ plc h.C (L i) := fun m => by
    induction m with
    | zero => exact ⟨0, Nat.le_refl _, fun i hi => by rw [show i = 0 from Nat.le_zero.1 hi]; exact Int.le_refl _⟩
    | succ m ih =>
      obtain ⟨c, hc, hi⟩ := ih
      by_cases h1 : plc h.C (L c) ≤ plc h.C (L (m + 1))
      · refine ⟨c, by omega, fun i hi2 => ?_⟩
        rcases Nat.lt_or_ge i (m + 1) with h2 | h2
        · exact hi i (by omega)
        · obtain rfl : i = m + 1 := by omega
          exact h1
      · refine ⟨m + 1, Nat.le_refl _, fun i hi2 => ?_⟩
        rcases Nat.lt_or_ge i (m + 1) with h2 | h2
        · have := hi i (by omega)
          omega
        · obtain rfl : i = m + 1 := by omega
          exact Int.le_refl _
  obtain ⟨c0, hc0, hcm⟩ := hmin (n - 1)
  have hall : ∀ i, plc h.C (L c0) ≤ plc h.C (L i) := fun i => by
    induction i using Nat.strongRecOn with
    | _ i ih =>
      rcases Nat.lt_or_ge i n with h1 | h1
      · exact hcm i (by omega)
      · have := ih (i - n) (by omega)
        rw [← hper (i - n), show i - n + n = i by omega] at this
        exact this
  have hper2 : ∀ j i, L (i + j * n) = L i := fun j => by
    induction j with
    | zero => intro i; rw [Nat.zero_mul, Nat.add_zero]
    | succ j ih => intro i; rw [Nat.add_mul, Nat.one_mul, ← Nat.add_assoc, hper, ih]
  -- i + 2 at the place of c0, behind some rounds
  have hi2 : ∃ i, L (i + 2) = L c0 := ⟨c0 + 2 * n - 2, by rw [show c0 + 2 * n - 2 + 2 = c0 + 2 * n by omega, hper2]⟩
  obtain ⟨i, hi⟩ := hi2
  have hb : (⟨L (i + 1), L (i + 2), 3⟩ : Dp) ∈ graphP h := by
    obtain ⟨d, hd, e1, e2⟩ := leadsB_iff.1 (hL (i + 1))
    have E := snap_edge k hS (mem_graph.1 hd)
    by_cases h3 : d.k = 3
    · have : d = ⟨L (i + 1), L (i + 2), 3⟩ := by
        cases d
        simp only at e1 e2 h3
        subst e1 e2 h3
        rfl
      rwa [← this]
    · have h1 := E.1 h3
      rw [e1, e2] at h1
      have h2 := (hs2 _ (hmem (i + 2))).1
      have h4 := hall (i + 1)
      rw [← hi] at h4
      have h5 : plc h.C (L (i + 1 + 1)) = plc h.C (L (i + 2)) := rfl
      have h6 : (s (L (i + 1 + 1)) : Int) = s (L (i + 2)) := rfl
      omega
  have ha : (⟨L i, L (i + 1), 3⟩ : Dp) ∈ graphP h := by
    obtain ⟨d, hd, e1, e2⟩ := leadsB_iff.1 (hL i)
    have E := snap_edge k hS (mem_graph.1 hd)
    by_cases h3 : d.k = 3
    · have : d = ⟨L i, L (i + 1), 3⟩ := by
        cases d
        simp only at e1 e2 h3
        subst e1 e2 h3
        rfl
      rwa [← this]
    · have h1 := E.1 h3
      rw [e1, e2] at h1
      have h2 := (snap_edge k hS (mem_graph.1 hb)).2 rfl
      simp only at h2
      have h4 := hall i
      rw [← hi] at h4
      omega
  refine ⟨i % n, Nat.mod_lt _ hn, ?_⟩
  have e : ∀ j, L (i % n + j) = L (i + j) := fun j => by
    have := hper2 (i / n) (i % n + j)
    rw [← this]
    congr 1
    have := Nat.mod_add_div i n
    rw [Nat.mul_comm] at this
    omega
  have e0 := e 0
  rw [Nat.add_zero, Nat.add_zero] at e0
  rw [e0, e 1, e 2]
  exact ⟨ha, hb⟩
end Go.Proofs.Ytedcnpaomphffaa
namespace Go.Proofs.Ytedcnpaomphffaa
open Go.RowKit Go.Maps Go.Sort Go.Lib Go.Shelf Go.Proofs.YtedcnpaomphffaaW.PrintWords Go.Proofs.YtedcnpaomphffaaW.PrintLast Go.Proofs.YtedcnpaomphffaaW.PrintMore
set_option linter.unusedVariables false
set_option linter.unusedSimpArgs false
set_option linter.unusedSectionVars false
/-! ### an order or a round: the plain law -/
/-- where no order goes on there is a round -/
theorem greedy_none {g : List Dp} {names : List Int} (hg : ∀ d ∈ g, d.f ∈ names) (hn : names.Nodup) : ∀ (k : Nat) (done : List Int), Pre g names done → done.length + k = names.length → greedy g names k done = none → ∃ n ∈ names, ∃ j, Walk g (j + 1) n n
  | 0, done, _, _, h => by cases h
  | k + 1, done, hd, hk, h => by
    cases hc : cand g names done with
    | cons n ns =>
      have e : greedy g names (k + 1) done = greedy g names k (done ++ [n]) := by
        conv => lhs; unfold greedy
        rw [hc]
      rw [e] at h
      exact greedy_none hg hn k (done ++ [n]) (hd.snoc (by rw [hc]; exact List.mem_cons_self)) (by rw [List.length_append, List.length_singleton]; omega) h
    | nil =>
      -- each that is left has one ahead of it that is left
      have pred : ∀ n : Int, ∃ m : Int, (n ∈ names ∧ n ∉ done) → (m ∈ names ∧ m ∉ done ∧ leadsB g m n = true) := fun n => by
        by_cases hno : n ∈ names ∧ n ∉ done
        · have : ¬ ∀ d ∈ g, d.t = n → d.f ∈ done := fun hf => by
            have : n ∈ cand g names done := mem_cand.2 ⟨hno.1, hno.2, hf⟩
            rw [hc] at this
            cases this
          obtain ⟨d, hd1⟩ := Classical.not_forall.1 this
          obtain ⟨hd2, hd3⟩ := Classical.not_forall.1 hd1
          obtain ⟨hd4, hd5⟩ := Classical.not_forall.1 hd3
          exact ⟨d.f, fun _ => ⟨hg d hd2, hd5, leadsB_iff.2 ⟨d, hd2, rfl, hd4⟩⟩⟩
        · exact ⟨0, fun h => absurd h hno⟩
      obtain ⟨p, hp⟩ : ∃ p : Int → Int, ∀ n, (n ∈ names ∧ n ∉ done) → (p n ∈ names ∧ p n ∉ done ∧ leadsB g (p n) n = true) := ⟨fun n => (pred n).choose, fun n => (pred n).choose_spec⟩
      obtain ⟨n0, h0⟩ : ∃ n0, n0 ∈ names ∧ n0 ∉ done := by
        refine Classical.byContradiction fun hno => ?_
        have hall : ∀ n ∈ names, n ∈ done := fun n hn' => Classical.byContradiction fun e => hno ⟨n, hn', e⟩
        have := sub_le hn hall
        omega
      obtain ⟨S, hS⟩ : ∃ S : Nat → Int, S = fun i => Nat.rec n0 (fun _ x => p x) i := ⟨_, rfl⟩
      have S0 : S 0 = n0 := by subst hS; rfl
      have S1 : ∀ i, S (i + 1) = p (S i) := fun i => by subst hS; rfl
      have hin : ∀ i, S i ∈ names ∧ S i ∉ done := fun i => by
        induction i with
        | zero => rw [S0]; exact h0
        | succ i ih => rw [S1]; exact ⟨(hp _ ih).1, (hp _ ih).2.1⟩
      have hl : ∀ i, leadsB g (S (i + 1)) (S i) = true := fun i => by rw [S1]; exact (hp _ (hin i)).2.2
      have hw : ∀ k i, Walk g k (S (i + k)) (S i) := fun k => by
        induction k with
        | zero => intro i; rfl
        | succ k ih => intro i; exact ⟨S (i + k), hl (i + k), ih i⟩
      have hrep : ∃ i j, i < j ∧ S i = S j := by
        refine Classical.byContradiction fun hno => ?_
        have := sub_le (done := (List.range (names.length + 1)).map S) (names := names) (by
          rw [List.nodup_iff_pairwise_ne, List.pairwise_map]
          exact List.pairwise_lt_range.imp fun {a b} hab e => hno ⟨a, b, hab, e⟩) (fun n hn' => by
          obtain ⟨i, _, rfl⟩ := List.mem_map.1 hn'
          exact (hin i).1)
        rw [List.length_map, List.length_range] at this
        omega
      obtain ⟨i, j, hij, e⟩ := hrep
      refine ⟨S i, (hin i).1, j - i - 1, ?_⟩
      have := hw (j - i) i
      rw [show i + (j - i) = j by omega, ← e, show j - i = (j - i - 1) + 1 by omega] at this
      exact this
/-- no order: a round of two or more -/
theorem round_long {g : List Dp} {names L : List Int} (hg : ∀ d ∈ g, d.f ∈ names ∧ d.t ∈ names ∧ d.f ≠ d.t) (hn : names.Nodup) (hR : RoundOf g names L) (hno : (greedy g names names.length []).isSome = false) : 2 ≤ L.length := by
  have hgn : greedy g names names.length [] = none := by
    cases h : greedy g names names.length [] with
    | none => rfl
    | some x => rw [h] at hno; cases hno
  obtain ⟨n, hnm, j, hw⟩ := greedy_none (fun d hd => (hg d hd).1) hn _ _ (Pre.nil g names) (by simp) hgn
  obtain ⟨b, f, hb, hL⟩ := hR
  have hb2 : 2 ≤ b := by
    rcases hb with ⟨rfl, _, h0⟩ | ⟨k, hk, _, rfl, hpos, hthr, _⟩
    · obtain ⟨p, hp, rfl⟩ := List.mem_iff_getElem.1 hnm
      rcases h0 p hp hp with ⟨_, h1⟩ | ⟨q, e, _⟩
      · exact absurd hw (h1 j)
      · omega
    · rcases hthr with ⟨e, _⟩ | ⟨q, e, hq, _⟩
      · omega
      · rcases Nat.eq_zero_or_pos q with rfl | hq0
        · obtain ⟨c, h1, h2⟩ := hq
          have h2 : c = names[k] := h2
          rw [h2] at h1
          obtain ⟨d, hd, e1, e2⟩ := leadsB_iff.1 h1
          exact absurd (e1.trans e2.symm) (hg d hd).2.2
        · omega
  rcases hL with ⟨e, _⟩ | ⟨_, hl, _⟩
  · omega
  · omega
/-- from each of a round to the next one leads a dependency -/
theorem round_leads {g : List Dp} {names L : List Int} (hR : RoundOf g names L) (hl : 2 ≤ L.length) {i : Nat} (hi : i < L.length) (hi2 : (i + 1) % L.length < L.length) : leadsB g L[i] L[(i + 1) % L.length] = true := by
  obtain ⟨b, f, hb, ⟨_, rfl⟩ | ⟨hb0, hlb, p1, p2, p3, p4⟩⟩ := hR
  · simp at hl
  rcases Nat.lt_or_ge (i + 1) L.length with h | h
  · have e : (i + 1) % L.length = i + 1 := Nat.mod_eq_of_lt h
    have := p4 i L[i] L[i + 1] (List.getElem?_eq_getElem hi) (List.getElem?_eq_getElem h)
    obtain ⟨p, hp, ex, hlead, _⟩ := this
    simp only [e]
    exact hlead
  · have ei : i + 1 = L.length := by omega
    have e : (i + 1) % L.length = 0 := by rw [ei, Nat.mod_self]
    have hf : L[0] = f := by
      rw [List.getElem?_eq_getElem (by omega)] at p3
      injection p3
    simp only [e]
    rw [hf]
    have hlast := p4 (i - 1) L[i - 1] L[i] (List.getElem?_eq_getElem (by omega)) (by rw [show i - 1 + 1 = i by omega]; exact List.getElem?_eq_getElem hi)
    obtain ⟨p, hp, ex, _, hmin, _⟩ := hlast
    have hw := hmin.1
    rw [show b.toNat - (i - 1 + 1) = 0 + 1 by omega] at hw
    obtain ⟨c, h1, h2⟩ := hw
    have h2 : c = f := h2
    rw [h2] at h1
    exact h1
end Go.Proofs.Ytedcnpaomphffaa
namespace Go.Proofs.Ytedcnpaomphffaa
open Go.RowKit Go.Maps Go.Sort Go.Lib Go.Shelf Go.Proofs.YtedcnpaomphffaaW.PrintWords Go.Proofs.YtedcnpaomphffaaW.PrintLast Go.Proofs.YtedcnpaomphffaaW.PrintMore
set_option linter.unusedVariables false
set_option linter.unusedSimpArgs false
set_option linter.unusedSectionVars false
/-! ### in a serial order each read finds the version that it saw -/
theorem OkH.reorder {h : Hs} (k : OkH h) {L : List Int} (hl : L.length = h.C.length) (hn : L.Nodup) (hm : ∀ x, x ∈ L ↔ x ∈ h.C) : OkH ⟨L, h.A⟩ where
  la := k.la
  lc := by show L.length ≤ 4096; rw [hl]; exact k.lc
  pos := fun c hc => k.pos c ((hm c).1 hc)
  nd := hn
  inC := fun a ha => (hm _).2 (k.inC a ha)
  wv := k.wv
  once := k.once
  rd := fun a ha hw => by
    rcases k.rd a ha hw with h0 | ⟨h1, h2⟩
    · exact .inl h0
    · exact .inr ⟨(hm _).2 h1, h2⟩
/-- in an order that all dependencies follow, one end lies ahead of the other -/
theorem topo_plc {g : List Dp} {names L : List Int} (hT : Topo g names L) {d : Dp} (hd : d ∈ g) (ht : d.t ∈ L) : plc L d.f < plc L d.t := by
  obtain ⟨p, hp, e1, e2⟩ := plc_at ht
  have e : L = L.take p ++ d.t :: L.drop (p + 1) := by
    rw [← e2, List.getElem_cons_drop, List.take_append_drop]
  have hf := hT.1.2.2 _ _ _ e d hd rfl
  obtain ⟨i, hi, e3⟩ := List.mem_iff_getElem.1 hf
  rw [List.getElem_take] at e3
  rw [List.length_take] at hi
  rw [e1, ← e3, plc_idx hT.1.1 (by omega)]
  omega
theorem vers_chain {h : Hs} (k : OkH h) {names L : List Int} (hT : Topo (graphP h) names L) (hm : ∀ x, x ∈ h.C → x ∈ L) (item : ByteArray) : ∀ (n i : Nat) (x y : Int), (vers h item)[i]? = some x → (vers h item)[i + n + 1]? = some y → plc L x < plc L y := by
  have step : ∀ (i : Nat) (x y : Int), (vers h item)[i]? = some x → (vers h item)[i + 1]? = some y → plc L x < plc L y := fun i x y hx hy => by
    have hd : (⟨x, y, 2⟩ : Dp) ∈ depsL h := (deps_iff k _).2 (.inl ⟨item, i, rfl, hx, hy⟩)
    exact topo_plc hT (mem_graph.2 hd) (hm _ (mem_vers.1 (List.mem_of_getElem? hy)).1)
  intro n
  induction n with
  | zero => intro i x y hx hy; exact step i x y hx hy
  | succ n ih =>
    intro i x y hx hy
    have hlt := (List.getElem?_eq_some_iff.1 hy).1
    have hz : (vers h item)[i + n + 1]? = some (vers h item)[i + n + 1] := List.getElem?_eq_getElem (by omega)
    have h1 := ih i x _ hx hz
    have h2 := step (i + n + 1) _ y hz hy
    omega
theorem plc_le_eq {L : List Int} {x y : Int} (hx : x ∈ L) (hy : y ∈ L) (h : plc L x = plc L y) : x = y := by
  obtain ⟨p, hp, e1, e2⟩ := plc_at hx
  obtain ⟨q, hq, e3, e4⟩ := plc_at hy
  have : p = q := by omega
  subst this
  rw [← e2, e4]
/-- the last one ahead of a reader that writes what it reads is the one that it saw -/
theorem last_law {h : Hs} (k : OkH h) {names L : List Int} (hT : Topo (graphP h) names L) (hl : L.length = h.C.length) (hm : ∀ x, x ∈ L ↔ x ∈ h.C) {a : Ac} (ha : a ∈ h.A) (hw : a.wr = false) (hv : a.v ≠ a.t) : newest ⟨L, h.A⟩ (plc L a.t).toNat a.item = a.v := by
  have k2 := k.reorder hl hT.1.1 hm
  have hat := (hm _).2 (k.inC a ha)
  have hp0 := plc_nonneg.2 hat
  have hps : (((plc L a.t).toNat : Nat) : Int) = plc L a.t := Int.toNat_of_nonneg hp0
  -- no version behind the one that was read lies ahead of the reader
  have after : ∀ (q : Nat) (w : Int), (if a.v = 0 then 0 else (vers h a.item).idxOf a.v + 1) ≤ q → (vers h a.item)[q]? = some w → plc L a.t ≤ plc L w := fun q w hq hqw => by
    have hlt := (List.getElem?_eq_some_iff.1 hqw).1
    obtain ⟨w0, hw0⟩ : ∃ w0, (vers h a.item)[if a.v = 0 then 0 else (vers h a.item).idxOf a.v + 1]? = some w0 := ⟨_, List.getElem?_eq_getElem (by omega)⟩
    have hw1 := hw0
    obtain ⟨m, hme⟩ : ∃ m, m = if a.v = 0 then 0 else (vers h a.item).idxOf a.v + 1 := ⟨_, rfl⟩
    rw [← hme] at hq hw0
    have h0 : plc L a.t ≤ plc L w0 := by
      by_cases e : a.t = w0
      · rw [e]; exact Int.le_refl _
      · have hd : (⟨a.t, w0, 3⟩ : Dp) ∈ depsL h := (deps_iff k _).2 (.inr ⟨a, ha, hw, hv, e, .inr ⟨w0, hw1, rfl⟩⟩)
        exact Int.le_of_lt (topo_plc hT (mem_graph.2 hd) ((hm _).2 (mem_vers.1 (List.mem_of_getElem? hw0)).1))
    rcases Nat.lt_or_ge m q with h1 | h1
    · have := vers_chain k hT (fun x hx => (hm x).2 hx) a.item (q - m - 1) m w0 w hw0 (by rw [show m + (q - m - 1) + 1 = q by omega]; exact hqw)
      omega
    · obtain rfl : q = m := by omega
      rw [hw0] at hqw
      injection hqw with hqw
      rw [← hqw]
      exact h0
  by_cases hv0 : a.v = 0
  · rw [hv0]
    refine Classical.byContradiction fun hno => ?_
    obtain ⟨n1, n2, n3⟩ := newest_mem k2 hno
    have hmv : newest ⟨L, h.A⟩ (plc L a.t).toNat a.item ∈ vers h a.item := mem_vers.2 ⟨(hm _).1 n1, n2⟩
    obtain ⟨q, hq, e⟩ := List.mem_iff_getElem.1 hmv
    have := after q _ (by rw [if_pos hv0]; exact Nat.zero_le _) (by rw [List.getElem?_eq_getElem hq, e])
    simp only at n3
    omega
  · obtain ⟨c1, c2⟩ := (k.rd a ha hw).resolve_left hv0
    have hvv : a.v ∈ vers h a.item := mem_vers.2 ⟨c1, c2⟩
    have hd : (⟨a.v, a.t, 1⟩ : Dp) ∈ depsL h := (deps_iff k _).2 (.inr ⟨a, ha, hw, hv, hv, .inl ⟨hv0, rfl⟩⟩)
    have hvt := topo_plc hT (mem_graph.2 hd) hat
    simp only at hvt
    obtain ⟨t1, t2⟩ := newest_top k2 (s := (plc L a.t).toNat) (item := a.item) (n := a.v) ((hm _).2 c1) c2 (by show plc L a.v < _; omega)
    obtain ⟨n1, n2, n3⟩ := newest_mem k2 t1
    simp only at n1 n3 t2
    have hmv : newest ⟨L, h.A⟩ (plc L a.t).toNat a.item ∈ vers h a.item := mem_vers.2 ⟨(hm _).1 n1, n2⟩
    obtain ⟨q, hq, e⟩ := List.mem_iff_getElem.1 hmv
    have hi := List.idxOf_lt_length_of_mem hvv
    have hqp : q ≤ (vers h a.item).idxOf a.v := by
      refine Classical.byContradiction fun hno => ?_
      have := after q _ (by rw [if_neg hv0]; omega) (by rw [List.getElem?_eq_getElem hq, e])
      omega
    refine plc_le_eq n1 ((hm _).2 c1) ?_
    rcases Nat.lt_or_ge q ((vers h a.item).idxOf a.v) with h1 | h1
    · have := vers_chain k hT (fun x hx => (hm x).2 hx) a.item ((vers h a.item).idxOf a.v - q - 1) q _ a.v (by rw [List.getElem?_eq_getElem hq, e]) (by rw [show q + ((vers h a.item).idxOf a.v - q - 1) + 1 = (vers h a.item).idxOf a.v by omega, List.getElem?_eq_getElem hi, List.getElem_idxOf])
      omega
    · have eq : q = (vers h a.item).idxOf a.v := by omega
      have : newest ⟨L, h.A⟩ (plc L a.t).toNat a.item = a.v := by
        rw [← e]
        simp only [eq]
        exact List.getElem_idxOf _
      rw [this]
end Go.Proofs.Ytedcnpaomphffaa
namespace Go.Proofs.Ytedcnpaomphffaa
open Go.RowKit Go.Maps Go.Sort Go.Lib Go.Shelf Go.Proofs.YtedcnpaomphffaaW.PrintWords Go.Proofs.YtedcnpaomphffaaW.PrintLast Go.Proofs.YtedcnpaomphffaaW.PrintMore
set_option linter.unusedVariables false
set_option linter.unusedSimpArgs false
set_option linter.unusedSectionVars false
/-! ### the document's snapshot, Snapshots -/
theorem newest_succ {h : Hs} {s : Nat} {item : ByteArray} (hs : s < h.C.length) : newest h (s + 1) item = if wrs h.A h.C[s] item = true then h.C[s] else newest h s item := by
  unfold newest
  rw [List.take_succ_eq_append_getElem hs, List.filter_append]
  by_cases hw : wrs h.A h.C[s] item = true
  · rw [if_pos hw, List.filter_cons, if_pos hw]
    simp
  · rw [if_neg hw, List.filter_cons, if_neg hw]
    simp
def SnB (h : Hs) (t : Int) (s : Nat) (a : Ac) : Prop := (a.wr = true → ∀ (k : Nat) (c : Int), s ≤ k → (k : Int) < plc h.C t → h.C[k]? = some c → wrs h.A c a.item = false) ∧ (a.wr = false → a.v = t ∨ a.v = newest h s a.item)
def SnJ (w : World) (h : Hs) (t : Int) (s : Nat) (v : Value) (wr : World) : Prop := ∃ j : Nat, v = .int .i64 (j : Int) ∧ j ≤ h.A.length ∧ (∀ k (hk : k < h.A.length), k < j → h.A[k].t = t → SnB h t s h.A[k]) ∧ Below w.heap.size w wr
def SnK (w : World) (h : Hs) (s : Nat) (a : Ac) (v : Value) (wr : World) : Prop := ∃ k : Nat, v = .int .i64 (k : Int) ∧ s ≤ k ∧ k ≤ h.C.length ∧ (∀ (i : Nat) (c : Int), s ≤ i → i < k → h.C[i]? = some c → wrs h.A c a.item = false) ∧ Below w.heap.size w wr
def SnN (w : World) (h : Hs) (s : Nat) (a : Ac) (v10 v11 : Value) (wr : World) : Prop := ∃ k : Nat, v11 = .int .i64 (k : Int) ∧ k ≤ s ∧ v10 = .int .i64 (newest h k a.item) ∧ Below w.heap.size w wr
def SpPost (h : Hs) (t : Int) (s : Nat) (w : World) (e : Ending) (w' : World) : Prop := ∃ b, e = .returned (.bool b) ∧ (b = true → SnapAt h t s) ∧ Below w.heap.size w w'
theorem spPost_no {h : Hs} {t : Int} {s : Nat} {w w' : World} (B : Below w.heap.size w w') : SpPost h t s w (.returned (.bool false)) w' := ⟨false, rfl, fun h => (by cases h), B⟩
set_option maxHeartbeats 8000000 in
set_option maxRecDepth 100000 in
theorem snapshot_calls (z : HV) (t : Int) (s : Nat) (w : World) (hz : z.OK w) (hs : s ≤ z.h.C.length) :
    Calls Try.prog 20 #[mkH z, .int .i64 t, .int .i64 (s : Int)] w (SpPost z.h t s w) := by
  obtain ⟨A1, c1, A2, c2, h⟩ := z
  obtain ⟨w1, hw1, B1, hz1, b0, b1⟩ := hv_box _ w hz
  obtain ⟨bx, hbx⟩ : ∃ bx, bx = w.heap.size := ⟨_, rfl⟩
  have hl := hz.la
  have hlc := hz.lc
  have PL := fun W (B : Below w1.heap.size w1 W) => place_calls _ t W (hz1.below B)
  have WRT := fun W (B : Below w1.heap.size w1 W) x it => writes_calls _ x it W (hz1.below B)
  have za : ∀ W, Below w1.heap.size w1 W → dA.C W A2 h.A.length h.A := fun W B => (hz1.below B).a
  have zc : ∀ W, Below w1.heap.size w1 W → dI.C W A1 h.C.length h.C := fun W B => (hz1.below B).c
  dsimp only [mkH] at hw1 b0 b1 hl hlc PL WRT hs ⊢
  clear hz hz1
  have no : ∀ W, Below w1.heap.size w1 W → SpPost h t s w (.returned (.bool false)) W := fun W B => spPost_no (below_then B1 B1.size B)
  have J0 : SnJ w1 h t s (.int .i64 0) w1 := ⟨0, rfl, Nat.zero_le _, fun _ _ h => by omega, Below.refl _ _⟩
  have hpl : plc h.C t ≤ (h.C.length : Int) := by
    by_cases hm : t ∈ h.C
    · have := plc_mem hm; omega
    · rw [plc_not hm]; omega
  replace no := Aside0.mk no
  replace hs := Aside0.mk hs
  go_enter Try.func20, Try.ntmps20
  go_upto_region 1 with (fail)
  rw [← hw1, ← hbx]
  rw [← hbx] at b0 b1
  clear hw1
  replace hbx := Aside0.mk hbx
  go_wp2_with fail
  go_loopw [7] (fun v wr => SnJ w1 h t s v wr) (fun v _ => h.A.length - (intOf v).toNat)
  case atStart => exact J0
  case round =>
    clear J0
    obtain ⟨j, rfl, hj, hb, B⟩ := hrel
    have d0 := up_below B b0
    have d1 := up_below B b1
    by_cases hlt : j < h.A.length
    · obtain ⟨ad, rfl, q0, q1, q2, q3⟩ := CA_at (za wr B) j hlt
      obtain ⟨W2, hW2⟩ : ∃ W2, W2 = wr.alloc (.cells #[.int .i64 h.A[j].t, .bool h.A[j].wr, .string h.A[j].item, .int .i64 h.A[j].v] 40) := ⟨_, rfl⟩
      have B2 : Below wr.heap.size wr W2 := by rw [hW2]; exact (Below.refl _ wr).alloc (Nat.le_refl _) _
      have ob : W2.heap[wr.heap.size]? = some (boxA h.A[j]) := by rw [hW2]; exact heap_alloc_new wr _
      obtain ⟨bn, hbn⟩ : ∃ b, b = wr.heap.size := ⟨_, rfl⟩
      have BW := below_then B B.size B2
      have fin : ∀ W, Below W2.heap.size W2 W → (h.A[j].t = t → SnB h t s h.A[j]) → SnJ w1 h t s (.int .i64 ((j : Int) + 1)) W := fun W BX hx => ⟨j + 1, by simp, by omega, fun k hk h1 => by
        rcases Nat.lt_or_ge k j with h2 | h2
        · exact hb k hk h2
        · obtain rfl : k = j := by omega
          exact hx, below_then BW BW.size BX⟩
      generalize h.A[j] = a at q0 q1 q2 q3 hW2 ob fin
      clear hb
      go_upto_region 5 with (fail)
      rw [← hW2, ← hbn]
      rw [← hbn] at ob
      clear hW2 q0 q1 q2 q3
      replace hbn := Aside0.mk hbn
      have e0 := up_below B2 d0
      have e1 := up_below B2 d1
      obtain ⟨r0, r1, r2, r3⟩ := ac_cells ob
      clear d0 d1
      by_cases ht : a.t = t
      · have et : (a.t != t) = false := by simpa using ht
        replace ht := Aside0.mk ht
        cases k1 : a.wr with
        | true =>
          rw [k1] at r1
          replace k1 := Aside0.mk k1
          have K0 : SnK W2 h s a (.int .i64 (s : Int)) W2 := ⟨s, rfl, Nat.le_refl _, hs.out, fun i c h1 h2 => by omega, Below.refl _ _⟩
          replace fin := Aside0.mk fin
          go_wp2_with fail
          go_loopw [9] (fun v wr => SnK W2 h s a v wr) (fun v _ => h.C.length - (intOf v).toNat)
          case atStart => exact K0
          case round =>
            clear K0
            obtain ⟨k, rfl, hsk, hkC, hb, B3⟩ := hrel
            have B13 := below_then BW BW.size B3
            have f0 := up_below B3 e0
            have f1 := up_below B3 e1
            obtain ⟨s0, s1, s2, s3⟩ := ac_cells (blk_below ob B3)
            have PL3 := PL wr B13
            go_wp2_with fail
            refine PL3.mono ?_
            rintro e W4 ⟨rfl, B4⟩
            have B14 := below_then B13 B13.size B4
            have B24 := below_then B3 B3.size B4
            have g0 := up_below B4 f0
            have g1 := up_below B4 f1
            have g2 := up_below B4 s2
            clear PL3 f0 f1 s0 s1 s2 s3
            by_cases hlt2 : (k : Int) < plc h.C t
            · have hk2 : k < h.C.length := by omega
              obtain ⟨adc, rfl, qc⟩ := CI_at (zc W4 B14) k hk2
              have WR := fun n => WRT (W4.drewN n) (below_then B14 B14.size (drewB W4 n)) h.C[k] a.item
              have BD := drewB W4 1
              have hil : (k : Int) < (h.C.length : Int) := by omega
              cases hw : wrs h.A h.C[k] a.item with
              | true =>
                rw [hw] at WR
                generalize h.C[k] = x at qc WR
                clear hb fin
                go_wp2_with fail
                go_region_held3 (fun V => V.cell? ⟨bx, 0, none⟩ = some (.slice (some adc) h.C.length c1) ∧ V.cell? ⟨bx, 1, none⟩ = some (.slice (some ad) h.A.length c2) ∧ V.cell? (adc.add k) = some (.int .i64 x) ∧ V.cell? ⟨bn, 2, none⟩ = some (.string a.item)) (first | exact ⟨g0, g1, qc, g2⟩ | exact ⟨K9 _ _ g0, K9 _ _ g1, K9 _ _ qc, K9 _ _ g2⟩)
                  ((go_at_call 37; refine (WR _).mono ?_; rintro e W' ⟨rfl, B'⟩; have K9 : ∀ q v, W4.cell? q = some v → W'.cell? q = some v := fun q v hv => (B'.cell (World.block_lt_of_cell? _ _ hv)).trans hv))
                have F := no.out W' (below_then B14 B14.size (below_then BD BD.size B'))
                clear g0 g1 g2 qc b0 b1
                replace F := Aside0.mk F
                go_wp2
                go_ret
                exact F.out
              | false =>
                have F : ∀ W, Below W4.heap.size W4 W → SnK W2 h s a (.int .i64 ((k : Int) + 1)) W := fun W BX => ⟨k + 1, by simp, by omega, by omega, fun i c h1 h2 h3 => by
                  rcases Nat.lt_or_ge i k with h4 | h4
                  · exact hb i c h1 h4 h3
                  · obtain rfl : i = k := by omega
                    rw [List.getElem?_eq_getElem hk2] at h3
                    injection h3 with h3
                    rw [← h3]
                    exact hw, below_then B24 B24.size BX⟩
                rw [hw] at WR
                generalize h.C[k] = x at qc WR
                clear hb fin hw
                replace F := Aside0.mk F
                go_wp2_with fail
                go_region_held3 (fun V => V.cell? ⟨bx, 0, none⟩ = some (.slice (some adc) h.C.length c1) ∧ V.cell? ⟨bx, 1, none⟩ = some (.slice (some ad) h.A.length c2) ∧ V.cell? (adc.add k) = some (.int .i64 x) ∧ V.cell? ⟨bn, 2, none⟩ = some (.string a.item)) (first | exact ⟨g0, g1, qc, g2⟩ | exact ⟨K9 _ _ g0, K9 _ _ g1, K9 _ _ qc, K9 _ _ g2⟩)
                  ((go_at_call 37; refine (WR _).mono ?_; rintro e W' ⟨rfl, B'⟩; have K9 : ∀ q v, W4.cell? q = some v → W'.cell? q = some v := fun q v hv => (B'.cell (World.block_lt_of_cell? _ _ hv)).trans hv))
                have F2 := F.out W' (below_then BD BD.size B')
                clear g0 g1 g2 qc b0 b1 F
                replace F2 := Aside0.mk F2
                go_wp2
                refine ⟨F2.out, ?_⟩
                simp [intOf]
                omega
            · have F := fin.out W4 B24 (fun _ => ⟨fun _ k' c h1 h2 h3 => hb k' c h1 (by omega) h3, fun h => (by rw [k1.out] at h; cases h)⟩)
              clear hb fin
              replace F := Aside0.mk F
              go_wp2
              refine ⟨F.out, ?_⟩
              simp [intOf]
              omega
        | false =>
          rw [k1] at r1
          replace k1 := Aside0.mk k1
          have K0 : SnN W2 h s a (.int .i64 0) (.int .i64 0) W2 := ⟨0, rfl, Nat.zero_le _, by simp [newest], Below.refl _ _⟩
          replace fin := Aside0.mk fin
          go_wp2_with fail
          go_loopw [10, 11] (fun v10 v11 wr => SnN W2 h s a v10 v11 wr) (fun _ v11 _ => s - (intOf v11).toNat)
          case atStart => exact K0
          case round =>
            clear K0
            obtain ⟨k, rfl, hks, rfl, B3⟩ := hrel
            have B13 := below_then BW BW.size B3
            have f0 := up_below B3 e0
            have f1 := up_below B3 e1
            obtain ⟨s0, s1, s2, s3⟩ := ac_cells (blk_below ob B3)
            by_cases hlt2 : k < s
            · have hk2 : k < h.C.length := by have := hs.out; omega
              obtain ⟨adc, rfl, qc⟩ := CI_at (zc wr B13) k hk2
              have WR := fun n => WRT (wr.drewN n) (below_then B13 B13.size (drewB wr n)) h.C[k] a.item
              have BD := drewB wr 1
              have hil : (k : Int) < (h.C.length : Int) := by omega
              have hks2 : (k : Int) < (s : Int) := by omega
              have hnw := newest_succ (h := h) (s := k) (item := a.item) hk2
              cases hw : wrs h.A h.C[k] a.item with
              | true =>
                rw [hw, if_pos rfl] at hnw
                have F : ∀ W, Below wr.heap.size wr W → SnN W2 h s a (.int .i64 h.C[k]) (.int .i64 ((k : Int) + 1)) W := fun W BX => ⟨k + 1, by simp, by omega, by rw [hnw], below_then B3 B3.size BX⟩
                rw [hw] at WR
                generalize h.C[k] = x at qc WR F
                generalize newest h k a.item = nw
                clear hnw fin hw
                replace F := Aside0.mk F
                go_wp2_with fail
                go_region_held3 (fun V => V.cell? ⟨bx, 0, none⟩ = some (.slice (some adc) h.C.length c1) ∧ V.cell? ⟨bx, 1, none⟩ = some (.slice (some ad) h.A.length c2) ∧ V.cell? (adc.add k) = some (.int .i64 x) ∧ V.cell? ⟨bn, 2, none⟩ = some (.string a.item)) (first | exact ⟨f0, f1, qc, s2⟩ | exact ⟨K9 _ _ f0, K9 _ _ f1, K9 _ _ qc, K9 _ _ s2⟩)
                  ((go_at_call 37; refine (WR _).mono ?_; rintro e W' ⟨rfl, B'⟩; have K9 : ∀ q v, wr.cell? q = some v → W'.cell? q = some v := fun q v hv => (B'.cell (World.block_lt_of_cell? _ _ hv)).trans hv))
                have F2 := F.out W' (below_then BD BD.size B')
                have c0 := (B'.cell (World.block_lt_of_cell? _ _ f0)).trans f0
                have cc := (B'.cell (World.block_lt_of_cell? _ _ qc)).trans qc
                clear f0 f1 s0 s1 s2 s3 qc b0 b1 F
                replace F2 := Aside0.mk F2
                go_wp2
                refine ⟨F2.out, ?_⟩
                simp [intOf]
                omega
              | false =>
                rw [hw, if_neg (by decide)] at hnw
                have F : ∀ W, Below wr.heap.size wr W → SnN W2 h s a (.int .i64 (newest h k a.item)) (.int .i64 ((k : Int) + 1)) W := fun W BX => ⟨k + 1, by simp, by omega, by rw [hnw], below_then B3 B3.size BX⟩
                rw [hw] at WR
                generalize h.C[k] = x at qc WR
                generalize newest h k a.item = nw at F
                clear hnw fin hw
                replace F := Aside0.mk F
                go_wp2_with fail
                go_region_held3 (fun V => V.cell? ⟨bx, 0, none⟩ = some (.slice (some adc) h.C.length c1) ∧ V.cell? ⟨bx, 1, none⟩ = some (.slice (some ad) h.A.length c2) ∧ V.cell? (adc.add k) = some (.int .i64 x) ∧ V.cell? ⟨bn, 2, none⟩ = some (.string a.item)) (first | exact ⟨f0, f1, qc, s2⟩ | exact ⟨K9 _ _ f0, K9 _ _ f1, K9 _ _ qc, K9 _ _ s2⟩)
                  ((go_at_call 37; refine (WR _).mono ?_; rintro e W' ⟨rfl, B'⟩; have K9 : ∀ q v, wr.cell? q = some v → W'.cell? q = some v := fun q v hv => (B'.cell (World.block_lt_of_cell? _ _ hv)).trans hv))
                have F2 := F.out W' (below_then BD BD.size B')
                clear f0 f1 s0 s1 s2 s3 qc b0 b1 F
                replace F2 := Aside0.mk F2
                go_wp2
                refine ⟨F2.out, ?_⟩
                simp [intOf]
                omega
            · obtain rfl : k = s := by omega
              have F := fun hx => fin.out wr B3 (fun _ => ⟨fun h => (by rw [k1.out] at h; cases h), fun _ => hx⟩)
              have N := no.out wr B13
              clear fin no
              generalize newest h k a.item = nw at *
              by_cases m1 : a.v = t
              · have F2 := F (.inl m1)
                have em : (a.v != t) = false := by simpa using m1
                clear F
                replace F2 := Aside0.mk F2
                replace N := Aside0.mk N
                replace m1 := Aside0.mk m1
                go_wp2
                refine ⟨F2.out, ?_⟩
                simp [intOf]
                omega
              · have em : (a.v != t) = true := by simpa using m1
                by_cases m2 : a.v = nw
                · have F2 := F (.inr m2)
                  have em2 : (a.v != nw) = false := by simpa using m2
                  clear F
                  replace F2 := Aside0.mk F2
                  replace N := Aside0.mk N
                  replace m1 := Aside0.mk m1
                  replace m2 := Aside0.mk m2
                  go_wp2
                  refine ⟨F2.out, ?_⟩
                  simp [intOf]
                  omega
                · have em2 : (a.v != nw) = true := by simpa using m2
                  clear F
                  replace N := Aside0.mk N
                  replace m1 := Aside0.mk m1
                  replace m2 := Aside0.mk m2
                  go_wp2
                  go_ret
                  exact N.out
      · have et : (a.t != t) = true := by simpa using ht
        have F := fin W2 (Below.refl _ _) (fun e => absurd e ht)
        clear fin
        replace F := Aside0.mk F
        go_wp2
        refine ⟨F.out, ?_⟩
        simp [intOf]
        omega
    · have F : SpPost h t s w (.returned (.bool true)) wr := ⟨true, rfl, fun _ a ha hat => by
        obtain ⟨k, hk, rfl⟩ := List.mem_iff_getElem.1 ha
        exact hb k hk (by omega) hat, below_then B1 B1.size B⟩
      have hge : ¬ (j : Int) < (h.A.length : Int) := by omega
      clear hb
      replace F := Aside0.mk F
      go_wp2
      go_ret
      exact F.out
end Go.Proofs.Ytedcnpaomphffaa
namespace Go.Proofs.Ytedcnpaomphffaa
open Go.RowKit Go.Maps Go.Sort Go.Lib Go.Shelf Go.Proofs.YtedcnpaomphffaaW.PrintWords Go.Proofs.YtedcnpaomphffaaW.PrintLast Go.Proofs.YtedcnpaomphffaaW.PrintMore
set_option linter.unusedVariables false
set_option linter.unusedSimpArgs false
set_option linter.unusedSectionVars false
/-! ### the document's Snapshots, Two -/
def SsJ (w : World) (h : Hs) (v : Value) (wr : World) : Prop := ∃ i : Nat, v = .int .i64 (i : Int) ∧ i ≤ h.C.length ∧ (∀ k (hk : k < h.C.length), k < i → ∃ s, s ≤ k ∧ SnapAt h h.C[k] s) ∧ Below w.heap.size w wr
def SsI (w : World) (h : Hs) (t : Int) (i : Nat) (v4 v5 : Value) (wr : World) : Prop := ∃ (f : Nat) (b : Bool), v5 = .int .i64 (f : Int) ∧ v4 = .bool b ∧ f ≤ i + 1 ∧ (b = true → ∃ s, s ≤ i ∧ SnapAt h t s) ∧ Below w.heap.size w wr
def SsPost (h : Hs) (w : World) (e : Ending) (w' : World) : Prop := ∃ b, e = .returned (.bool b) ∧ (b = true → Snaps h) ∧ Below w.heap.size w w'
set_option maxHeartbeats 8000000 in
set_option maxRecDepth 100000 in
theorem Snapshots_calls (z : HV) (w : World) (hz : z.OK w) : Calls Try.prog 7 #[mkH z] w (SsPost z.h w) := by
  obtain ⟨A1, c1, A2, c2, h⟩ := z
  obtain ⟨w1, hw1, B1, hz1, b0, b1⟩ := hv_box _ w hz
  obtain ⟨bx, hbx⟩ : ∃ bx, bx = w.heap.size := ⟨_, rfl⟩
  have hlc := hz.lc
  have SN := fun W (B : Below w1.heap.size w1 W) t s hs => snapshot_calls _ t s W (hz1.below B) hs
  have zc : ∀ W, Below w1.heap.size w1 W → dI.C W A1 h.C.length h.C := fun W B => (hz1.below B).c
  dsimp only [mkH] at hw1 b0 b1 hlc SN ⊢
  clear hz hz1
  have no : ∀ W, Below w1.heap.size w1 W → SsPost h w (.returned (.bool false)) W := fun W B => ⟨false, rfl, fun h => (by cases h), below_then B1 B1.size B⟩
  have J0 : SsJ w1 h (.int .i64 0) w1 := ⟨0, rfl, Nat.zero_le _, fun _ _ h => by omega, Below.refl _ _⟩
  replace no := Aside0.mk no
  go_enter Try.func7, Try.ntmps7
  go_upto_region 1 with (fail)
  rw [← hw1, ← hbx]
  rw [← hbx] at b0 b1
  clear hw1
  replace hbx := Aside0.mk hbx
  go_wp2_with fail
  go_loopw [3] (fun v wr => SsJ w1 h v wr) (fun v _ => h.C.length - (intOf v).toNat)
  case atStart => exact J0
  case round =>
    clear J0
    obtain ⟨i, rfl, hi, hb, B⟩ := hrel
    have d0 := up_below B b0
    have d1 := up_below B b1
    by_cases hlt : i < h.C.length
    · have fin : ∀ W, Below wr.heap.size wr W → (∃ s, s ≤ i ∧ SnapAt h h.C[i] s) → SsJ w1 h (.int .i64 ((i : Int) + 1)) W := fun W BX hx => ⟨i + 1, by simp, by omega, fun k hk h1 => by
        rcases Nat.lt_or_ge k i with h2 | h2
        · exact hb k hk h2
        · obtain rfl : k = i := by omega
          exact hx, below_then B B.size BX⟩
      have hil : (i : Int) < (h.C.length : Int) := by omega
      obtain ⟨wo, rfl⟩ : ∃ wo : World, wo = wr := ⟨_, rfl⟩
      have I0 : SsI wo h h.C[i] i (.bool false) (.int .i64 0) wo := ⟨0, false, rfl, rfl, Nat.zero_le _, fun h => (by cases h), Below.refl _ _⟩
      clear hb
      replace fin := Aside0.mk fin
      go_wp2_with fail
      go_loopw [4, 5] (fun v4 v5 wr => SsI wo h h.C[i] i v4 v5 wr) (fun _ v5 _ => i + 1 - (intOf v5).toNat)
      case atStart => exact I0
      case round =>
        clear I0
        obtain ⟨f, b, rfl, rfl, hf, hb, B3⟩ := hrel
        have B13 := below_then B B.size B3
        have f0 := up_below B3 d0
        have f1 := up_below B3 d1
        by_cases hfi : f ≤ i
        · have hfi2 : (f : Int) ≤ (i : Int) := by omega
          cases b with
          | true =>
            have F : ∀ n, SsI wo h h.C[i] i (.bool true) (.int .i64 ((f : Int) + 1)) (wr.drewN n) := fun n => ⟨f + 1, true, by simp, rfl, by omega, hb, below_then B3 B3.size (drewB wr n)⟩
            clear hb fin
            replace F := Aside0.mk F
            go_wp2_with fail
            go_quiet (fail)
            go_wp2
            refine ⟨F.out _, ?_⟩
            simp [intOf]
            omega
          | false =>
            clear hb
            obtain ⟨adc, rfl, qc⟩ := CI_at (zc wr B13) i hlt
            have SN2 := fun n => SN (wr.drewN n) (below_then B13 B13.size (drewB wr n)) h.C[i] f (by omega)
            have BD := drewB wr 1
            have F : ∀ b W, Below wr.heap.size wr W → (b = true → SnapAt h h.C[i] f) → SsI wo h h.C[i] i (.bool b) (.int .i64 ((f : Int) + 1)) W := fun b W BX hx => ⟨f + 1, b, by simp, rfl, by omega, fun e => ⟨f, hfi, hx e⟩, below_then B3 B3.size BX⟩
            clear fin
            generalize h.C[i] = x at qc SN2 F ⊢
            replace F := Aside0.mk F
            go_wp2_with fail
            go_region_held3 (fun V => V.cell? ⟨bx, 0, none⟩ = some (.slice (some adc) h.C.length c1) ∧ V.cell? ⟨bx, 1, none⟩ = some (.slice A2 h.A.length c2) ∧ V.cell? (adc.add i) = some (.int .i64 x)) (first | exact ⟨f0, f1, qc⟩ | exact ⟨K9 _ _ f0, K9 _ _ f1, K9 _ _ qc⟩)
              ((go_at_call 20; refine (SN2 _).mono ?_; rintro e W' ⟨b', rfl, hb', B'⟩; have K9 : ∀ q v, wr.cell? q = some v → W'.cell? q = some v := fun q v hv => (B'.cell (World.block_lt_of_cell? _ _ hv)).trans hv))
            have F2 := F.out b' W' (below_then BD BD.size B') hb'
            clear f0 f1 qc b0 b1 F hb'
            replace F2 := Aside0.mk F2
            go_wp2
            refine ⟨F2.out, ?_⟩
            simp [intOf]
            omega
        · have hfi2 : ¬ (f : Int) ≤ (i : Int) := by omega
          cases b with
          | true =>
            have F := fin.out wr B3 (hb rfl)
            clear hb fin
            replace F := Aside0.mk F
            go_wp2
            refine ⟨F.out, ?_⟩
            simp [intOf]
            omega
          | false =>
            have F := no.out wr B13
            clear hb fin
            replace F := Aside0.mk F
            go_wp2
            go_ret
            exact F.out
    · have F : SsPost h w (.returned (.bool true)) wr := ⟨true, rfl, fun _ k hk => hb k hk (by omega), below_then B1 B1.size B⟩
      have hge : ¬ (i : Int) < (h.C.length : Int) := by omega
      clear hb
      replace F := Aside0.mk F
      go_wp2
      go_ret
      exact F.out
/-! Two -/
def rw1 (L : List Int) (i : Nat) : Dp := ⟨L.getD i 0, L.getD ((i + 1) % L.length) 0, 3⟩
def rw2 (L : List Int) (i : Nat) : Dp := ⟨L.getD ((i + 1) % L.length) 0, L.getD ((i + 2) % L.length) 0, 3⟩
def TwoAt (g : List Dp) (L : List Int) (i : Nat) : Prop := rw1 L i ∈ g ∧ rw2 L i ∈ g
def TwJ (w : World) (g : List Dp) (L : List Int) (v : Value) (wr : World) : Prop := ∃ i : Nat, v = .int .i64 (i : Int) ∧ i ≤ L.length ∧ (∀ k, k < i → ¬ TwoAt g L k) ∧ Below w.heap.size w wr
def TwK (w : World) (g : List Dp) (d1 d2 : Dp) (v11 v12 v13 : Value) (wr : World) : Prop := ∃ k : Nat, v13 = .int .i64 (k : Int) ∧ k ≤ g.length ∧ v11 = .bool (decide (d1 ∈ g.take k)) ∧ v12 = .bool (decide (d2 ∈ g.take k)) ∧ Below w.heap.size w wr
def TwPost (g : List Dp) (L : List Int) (w : World) (e : Ending) (w' : World) : Prop := ∃ b, e = .returned (.bool b) ∧ ((∃ i, i < L.length ∧ TwoAt g L i) → b = true) ∧ Below w.heap.size w w'
theorem mem_snoc_dec (xs : List Dp) (x d : Dp) : decide (d ∈ xs ++ [x]) = (decide (d ∈ xs) || decide (x = d)) := by
  by_cases h1 : d ∈ xs <;> by_cases h2 : x = d <;> simp [h1, h2, eq_comm]
set_option maxHeartbeats 8000000 in
set_option maxRecDepth 100000 in
theorem Two_calls (z : HV) (Ao : Option Addr) (co : Nat) (L : List Int) (w : World) (hz : z.OK w) (hA : z.h.A.length ≤ 4096) (ho : dI.C w Ao L.length L) (hl : L.length ≤ 65536) :
    Calls Try.prog 11 #[mkH z, .slice Ao L.length co] w (TwPost (graphP z.h) L w) := by
  have hgl := graph_len z.h
  obtain ⟨A1, c1, A2, c2, h⟩ := z
  obtain ⟨w1, hw1, B1, hz1, b0, b1⟩ := hv_box _ w hz
  obtain ⟨bx, hbx⟩ : ∃ bx, bx = w.heap.size := ⟨_, rfl⟩
  have RG := RGraph_calls _ w1 hz1 hA
  have zo : ∀ W, Below w1.heap.size w1 W → dI.C W Ao L.length L := fun W B => Kd.C_below ho (below_then B1 B1.size B)
  dsimp only [mkH] at hw1 b0 b1 RG hgl hA ⊢
  generalize graphP h = g at RG hgl ⊢
  clear hz hz1 ho
  go_enter Try.func11, Try.ntmps11
  go_upto_region 1 with (fail)
  rw [← hw1, ← hbx]
  rw [← hbx] at b0 b1
  clear hw1
  replace hbx := Aside0.mk hbx
  go_wp2_with fail
  refine RG.mono ?_
  rintro e w2 ⟨vg, rfl, Hg, Bg⟩
  have B02 := below_then B1 B1.size Bg
  obtain ⟨Ag, cg, rfl, hlg, hAg⟩ := Hg.slice
  have gC : dD.C w2 Ag g.length g := C_of_lo Hg (by omega)
  have J0 : TwJ w2 g L (.int .i64 0) w2 := ⟨0, rfl, Nat.zero_le _, fun _ h => by omega, Below.refl _ _⟩
  clear RG b0 b1 Hg hAg
  replace hbx := hbx
  go_wp2_with fail
  go_loopw [7] (fun v wr => TwJ w2 g L v wr) (fun v _ => L.length - (intOf v).toNat)
  case atStart => exact J0
  case round =>
    clear J0
    obtain ⟨i, rfl, hi, hb, B⟩ := hrel
    have BB := below_then Bg Bg.size B
    by_cases hlt : i < L.length
    · have hm1 : (i + 1) % L.length < L.length := Nat.mod_lt _ (by omega)
      have hm2 : (i + 2) % L.length < L.length := Nat.mod_lt _ (by omega)
      have e1 : rw1 L i = ⟨L[i], L[(i + 1) % L.length], 3⟩ := by unfold rw1; simp [List.getD, hlt, hm1]
      have e2 : rw2 L i = ⟨L[(i + 1) % L.length], L[(i + 2) % L.length], 3⟩ := by unfold rw2; simp [List.getD, hm1, hm2]
      have fin : ∀ W, Below wr.heap.size wr W → ¬ TwoAt g L i → TwJ w2 g L (.int .i64 ((i : Int) + 1)) W := fun W BX hx => ⟨i + 1, by simp, by omega, fun k h1 => by
        rcases Nat.lt_or_ge k i with h2 | h2
        · exact hb k h2
        · obtain rfl : k = i := by omega
          exact hx, below_then B B.size BX⟩
      have two : ∀ W, Below wr.heap.size wr W → TwPost g L w (.returned (.bool true)) W := fun W BX => ⟨true, rfl, fun _ => rfl, below_then B02 B02.size (below_then B B.size BX)⟩
      unfold TwoAt at fin
      rw [e1, e2] at fin
      have t1 : ((i : Int) + 1).tmod (L.length : Int) = (((i + 1) % L.length : Nat) : Int) := IntWalk.up_tmod (by simp) rfl
      have t2 : ((i : Int) + 2).tmod (L.length : Int) = (((i + 2) % L.length : Nat) : Int) := IntWalk.up_tmod (by simp) rfl
      obtain ⟨ad, rfl, q0⟩ := CI_at (zo wr BB) i hlt
      obtain ⟨ad', ea, q1⟩ := CI_at (zo wr BB) _ hm1
      obtain rfl : ad = ad' := by injection ea
      obtain ⟨ad', ea, q2⟩ := CI_at (zo wr BB) _ hm2
      obtain rfl : ad = ad' := by injection ea
      generalize (i + 1) % L.length = m1 at *
      generalize (i + 2) % L.length = m2 at *
      generalize L[i] = a at *
      generalize L[m1] = b at *
      generalize L[m2] = c at *
      have I0 : ∀ n, TwK wr g ⟨a, b, 3⟩ ⟨b, c, 3⟩ (.bool false) (.bool false) (.int .i64 0) (wr.drewN n) := fun n => ⟨0, rfl, Nat.zero_le _, by simp, by simp, drewB wr n⟩
      have w1' : IntKind.i64.wrap ((i : Int) + 1) = (i : Int) + 1 := IntWalk.i64_in _ (by omega)
      have w2' : IntKind.i64.wrap ((i : Int) + 2) = (i : Int) + 2 := IntWalk.i64_in _ (by omega)
      obtain ⟨wo, rfl⟩ : ∃ wo : World, wo = wr := ⟨_, rfl⟩
      have hil : (i : Int) < (L.length : Int) := by omega
      have hm1' : (m1 : Int) < (L.length : Int) := by omega
      have hm2' : (m2 : Int) < (L.length : Int) := by omega
      clear hb e1 e2 zo
      replace fin := Aside0.mk fin
      replace two := Aside0.mk two
      replace I0 := Aside0.mk I0
      go_wp2_with fail
      go_quiet (fail)
      clear q0 q1 q2
      go_wp2_with fail
      go_loopw [11, 12, 13] (fun v11 v12 v13 W => TwK wo g ⟨a, b, 3⟩ ⟨b, c, 3⟩ v11 v12 v13 W) (fun _ _ v13 _ => g.length - (intOf v13).toNat)
      case atStart => exact I0.out _
      case round =>
        clear I0 t1 t2 w1' w2'
        obtain ⟨k, rfl, hk, rfl, rfl, B3⟩ := hrel
        have B23 := below_then B B.size B3
        by_cases hkg : k < g.length
        · obtain ⟨adg, rfl, y0, y1, y2⟩ := CD_at (Kd.C_below gC B23) k hkg
          have htk : g.take (k + 1) = g.take k ++ [g[k]] := List.take_succ_eq_append_getElem hkg
          have hkl : (k : Int) < (g.length : Int) := by omega
          generalize g[k] = d at y0 y1 y2 htk
          have E1 := fun W => eqDp d ⟨a, b, 3⟩ W
          have E2 := fun W => eqDp d ⟨b, c, 3⟩ W
          have F0 : TwK wo g ⟨a, b, 3⟩ ⟨b, c, 3⟩ (.bool (decide ((⟨a, b, 3⟩ : Dp) ∈ g.take k) || decide (d = ⟨a, b, 3⟩))) (.bool (decide ((⟨b, c, 3⟩ : Dp) ∈ g.take k) || decide (d = ⟨b, c, 3⟩))) (.int .i64 ((k : Int) + 1)) wr := ⟨k + 1, by simp, by omega, by rw [htk, mem_snoc_dec], by rw [htk, mem_snoc_dec], B3⟩
          generalize decide (d = ⟨a, b, 3⟩) = x1 at E1 F0
          generalize decide (d = ⟨b, c, 3⟩) = x2 at E2 F0
          generalize decide ((⟨a, b, 3⟩ : Dp) ∈ g.take k) = u1 at F0 ⊢
          generalize decide ((⟨b, c, 3⟩ : Dp) ∈ g.take k) = u2 at F0 ⊢
          dsimp only [mkD] at E1 E2
          clear fin two htk
          cases u1 <;> cases u2 <;> cases x1 <;> cases x2
          all_goals
            simp only [Bool.true_or, Bool.false_or, Bool.or_self] at F0
            replace F0 := Aside0.mk F0
            go_wp2
            refine ⟨F0.out, ?_⟩
            simp [intOf]
            omega
        · have hke : k = g.length := by omega
          have hge : ¬ (k : Int) < (g.length : Int) := by omega
          rw [hke, List.take_length]
          have F1 := fin.out wr B3
          have F2 := two.out wr B3
          clear fin two
          replace hke := Aside0.mk hke
          by_cases h1 : (⟨a, b, 3⟩ : Dp) ∈ g
          · rw [decide_eq_true h1]
            by_cases h2 : (⟨b, c, 3⟩ : Dp) ∈ g
            · rw [decide_eq_true h2]
              replace F2 := Aside0.mk F2
              clear F1
              replace h1 := Aside0.mk h1
              replace h2 := Aside0.mk h2
              go_wp2
              go_ret
              exact F2.out
            · rw [decide_eq_false h2]
              have F := F1 (fun h => h2 h.2)
              clear F1 F2
              replace h1 := Aside0.mk h1
              replace h2 := Aside0.mk h2
              replace F := Aside0.mk F
              go_wp2
              refine ⟨F.out, ?_⟩
              simp [intOf]
              omega
          · rw [decide_eq_false h1]
            have F := F1 (fun h => h1 h.1)
            clear F1 F2
            generalize decide ((⟨b, c, 3⟩ : Dp) ∈ g) = u
            replace h1 := Aside0.mk h1
            replace F := Aside0.mk F
            go_wp2
            refine ⟨F.out, ?_⟩
            simp [intOf]
            omega
    · have F : TwPost g L w (.returned (.bool false)) wr := ⟨false, rfl, fun ⟨k, h1, h2⟩ => absurd h2 (hb k (by omega)), below_then B02 B02.size B⟩
      have hge : ¬ (i : Int) < (L.length : Int) := by omega
      clear hb
      replace F := Aside0.mk F
      go_wp2
      go_ret
      exact F.out
end Go.Proofs.Ytedcnpaomphffaa
namespace Go.Proofs.Ytedcnpaomphffaa
open Go.RowKit Go.Maps Go.Sort Go.Lib Go.Shelf Go.Proofs.YtedcnpaomphffaaW.PrintWords Go.Proofs.YtedcnpaomphffaaW.PrintLast Go.Proofs.YtedcnpaomphffaaW.PrintMore
set_option linter.unusedVariables false
set_option linter.unusedSimpArgs false
set_option linter.unusedSectionVars false
/-! ### the law's leads and last -/
def LdJ (w : World) (g : List Dp) (a b : Int) (v : Value) (wr : World) : Prop := ∃ j : Nat, v = .int .i64 (j : Int) ∧ j ≤ g.length ∧ leadsB (g.take j) a b = false ∧ Below w.heap.size w wr
set_option maxHeartbeats 4000000 in
set_option maxRecDepth 100000 in
theorem leads_calls (A : Option Addr) (c : Nat) (g : List Dp) (a b : Int) (w : World) (h : dD.C w A g.length g) (hl : g.length ≤ 9223372036854775806) :
    Calls Try.prog 13 #[.slice A g.length c, .int .i64 a, .int .i64 b] w fun e w' => e = .returned (.bool (leadsB g a b)) ∧ Below w.heap.size w w' := by
  have J0 : LdJ w g a b (.int .i64 0) w := ⟨0, rfl, Nat.zero_le _, rfl, Below.refl _ _⟩
  go_enter Try.func13, Try.ntmps13
  go_wp2_with fail
  go_loopw [11] (fun v wr => LdJ w g a b v wr) (fun v _ => g.length - (intOf v).toNat)
  case atStart => exact J0
  case round =>
    clear J0
    obtain ⟨j, rfl, hj, hb, B⟩ := hrel
    by_cases hlt : j < g.length
    · obtain ⟨ad, rfl, q0, q1, q2⟩ := CD_at (Kd.C_below h B) j hlt
      have htk : g.take (j + 1) = g.take j ++ [g[j]] := List.take_succ_eq_append_getElem hlt
      have hhit := leadsB_hit (a := a) (b := b) hlt
      generalize g[j] = d at q0 q1 q2 htk hhit
      obtain ⟨W2, hW2⟩ : ∃ W2, W2 = wr.alloc (.cells #[.int .i64 d.f, .int .i64 d.t, .int .i64 d.k] 64) := ⟨_, rfl⟩
      have B2 : Below wr.heap.size wr W2 := by rw [hW2]; exact (Below.refl _ wr).alloc (Nat.le_refl _) _
      have ob : W2.heap[wr.heap.size]? = some (boxD d) := by rw [hW2]; exact heap_alloc_new wr _
      obtain ⟨bn, hbn⟩ : ∃ b, b = wr.heap.size := ⟨_, rfl⟩
      have BW := below_then B B.size B2
      have fin : (d.f == a && d.t == b) = false → LdJ w g a b (.int .i64 ((j : Int) + 1)) W2 := fun hx => ⟨j + 1, by simp, by omega, by rw [htk, leadsB_snoc, hb, hx]; rfl, BW⟩
      have hjl : (j : Int) < (g.length : Int) := by omega
      clear hb htk
      go_upto_region 4 with (fail)
      rw [← hW2, ← hbn]
      rw [← hbn] at ob
      clear hW2 q0 q1 q2
      replace hbn := Aside0.mk hbn
      obtain ⟨r0, r1, r2⟩ := dp_cells ob
      clear ob
      cases k1 : d.f == a with
      | false =>
        have F := fin (by rw [k1]; rfl)
        clear fin hhit
        replace F := Aside0.mk F
        go_wp2
        refine ⟨F.out, ?_⟩
        simp [intOf]
        omega
      | true =>
        cases k2 : d.t == b with
        | false =>
          have F := fin (by rw [k1, k2]; rfl)
          clear fin hhit
          replace F := Aside0.mk F
          go_wp2
          refine ⟨F.out, ?_⟩
          simp [intOf]
          omega
        | true =>
          have F := hhit (by rw [k1, k2]; rfl)
          clear fin hhit
          replace F := Aside0.mk F
          replace BW := Aside0.mk BW
          go_wp2
          go_ret
          exact ⟨by rw [F.out]; rfl, BW.out⟩
    · have hje : j = g.length := by omega
      have hge : ¬ (j : Int) < (g.length : Int) := by omega
      rw [hje, List.take_length] at hb
      replace hb := Aside0.mk hb
      replace hje := Aside0.mk hje
      go_wp2
      go_ret
      exact ⟨by rw [hb.out]; rfl, B⟩
/-! last -/
def LaJ (w : World) (h : Hs) (order : List Int) (t : Int) (item : ByteArray) (v9 v16 : Value) (wr : World) : Prop := ∃ k : Nat, v16 = .int .i64 (k : Int) ∧ k ≤ order.length ∧ (∀ i (hi : i < order.length), i < k → order[i] ≠ t) ∧ v9 = .int .i64 (newest ⟨order, h.A⟩ k item) ∧ Below w.heap.size w wr
def LaK (w : World) (A : List Ac) (n nw : Int) (item : ByteArray) (v9 v27 : Value) (wr : World) : Prop := ∃ j : Nat, v27 = .int .i64 (j : Int) ∧ j ≤ A.length ∧ v9 = .int .i64 (if wrs (A.take j) n item = true then n else nw) ∧ Below w.heap.size w wr
set_option maxHeartbeats 8000000 in
set_option maxRecDepth 100000 in
theorem last_calls (z : HV) (Ao : Option Addr) (co : Nat) (order : List Int) (t : Int) (item : ByteArray) (w : World) (hz : z.OK w) (ho : dI.C w Ao order.length order) (hl : order.length ≤ 65536) (ht : t ∈ order) :
    Calls Try.prog 15 #[mkH z, .slice Ao order.length co, .int .i64 t, .string item] w fun e w' => e = .returned (.int .i64 (newest ⟨order, z.h.A⟩ (plc order t).toNat item)) ∧ Below w.heap.size w w' := by
  obtain ⟨A1, c1, A2, c2, h⟩ := z
  obtain ⟨w1, hw1, B1, hz1, b0, b1⟩ := hv_box _ w hz
  obtain ⟨bx, hbx⟩ : ∃ bx, bx = w.heap.size := ⟨_, rfl⟩
  have hla := hz.la
  have zo : ∀ W, Below w1.heap.size w1 W → dI.C W Ao order.length order := fun W B => Kd.C_below ho (below_then B1 B1.size B)
  have za : ∀ W, Below w1.heap.size w1 W → dA.C W A2 h.A.length h.A := fun W B => (hz1.below B).a
  dsimp only [mkH] at hw1 b0 b1 hla ⊢
  clear hz hz1 ho
  have J0 : LaJ w1 h order t item (.int .i64 0) (.int .i64 0) w1 := ⟨0, rfl, Nat.zero_le _, fun _ _ h => by omega, by simp [newest], Below.refl _ _⟩
  replace ht := Aside0.mk ht
  go_enter Try.func15, Try.ntmps15
  go_upto_region 1 with (fail)
  rw [← hw1, ← hbx]
  rw [← hbx] at b0 b1
  clear hw1
  replace hbx := Aside0.mk hbx
  go_wp2_with fail
  go_loopw [9, 16] (fun v9 v16 wr => LaJ w1 h order t item v9 v16 wr) (fun _ v16 _ => order.length - (intOf v16).toNat)
  case atStart => exact J0
  case round =>
    clear J0
    obtain ⟨k, rfl, hk, hb, rfl, B⟩ := hrel
    have d0 := up_below B b0
    have d1 := up_below B b1
    by_cases hlt : k < order.length
    · obtain ⟨ad, rfl, q0⟩ := CI_at (zo wr B) k hlt
      have hkl : (k : Int) < (order.length : Int) := by omega
      by_cases he : order[k] = t
      · have hp := plc_first hlt he (fun i hi hik => hb i hi hik)
        have F : Ending.returned (.int .i64 (newest ⟨order, h.A⟩ k item)) = .returned (.int .i64 (newest ⟨order, h.A⟩ (plc order t).toNat item)) ∧ Below w.heap.size w wr := by
          rw [hp]
          exact ⟨rfl, below_then B1 B1.size B⟩
        have he' : (order[k] == t) = true := by simpa using he
        clear hb hp zo
        generalize order[k] = n at q0 he he'
        generalize newest ⟨order, h.A⟩ k item = nw at F ⊢
        replace F := Aside0.mk F
        replace he := Aside0.mk he
        go_wp2
        go_ret
        exact F.out
      · have he' : (order[k] == t) = false := by simpa using he
        have hnw := newest_succ (h := ⟨order, h.A⟩) (s := k) (item := item) hlt
        have fin : ∀ W nw', Below wr.heap.size wr W → nw' = newest ⟨order, h.A⟩ (k + 1) item → LaJ w1 h order t item (.int .i64 nw') (.int .i64 ((k : Int) + 1)) W := fun W nw' BX hx => ⟨k + 1, by simp, by omega, fun i hi h1 => by
          rcases Nat.lt_or_ge i k with h2 | h2
          · exact hb i hi h2
          · obtain rfl : i = k := by omega
            exact he, by rw [hx], below_then B B.size BX⟩
        simp only at hnw
        rw [hnw] at fin
        clear hb hnw
        generalize order[k] = n at q0 he he' fin
        generalize newest ⟨order, h.A⟩ k item = nw at fin ⊢
        obtain ⟨wo, rfl⟩ : ∃ wo : World, wo = wr := ⟨_, rfl⟩
        have K0 : LaK wo h.A n nw item (.int .i64 nw) (.int .i64 0) wo := ⟨0, rfl, Nat.zero_le _, by simp [wrs], Below.refl _ _⟩
        replace fin := Aside0.mk fin
        replace he := Aside0.mk he
        go_wp2_with fail
        go_loopw [9, 27] (fun v9 v27 wr => LaK wo h.A n nw item v9 v27 wr) (fun _ v27 _ => h.A.length - (intOf v27).toNat)
        case atStart => exact K0
        case round =>
          clear K0
          obtain ⟨j, rfl, hj, rfl, B3⟩ := hrel
          have B13 := below_then B B.size B3
          by_cases hja : j < h.A.length
          · obtain ⟨ada, rfl, y0, y1, y2, y3⟩ := CA_at (za wr B13) j hja
            have htk : h.A.take (j + 1) = h.A.take j ++ [h.A[j]] := List.take_succ_eq_append_getElem hja
            have hjl : (j : Int) < (h.A.length : Int) := by omega
            generalize h.A[j] = a at y0 y1 y2 y3 htk
            obtain ⟨W2, hW2⟩ : ∃ W2, W2 = wr.alloc (.cells #[.int .i64 a.t, .bool a.wr, .string a.item, .int .i64 a.v] 40) := ⟨_, rfl⟩
            have B2 : Below wr.heap.size wr W2 := by rw [hW2]; exact (Below.refl _ wr).alloc (Nat.le_refl _) _
            have ob : W2.heap[wr.heap.size]? = some (boxA a) := by rw [hW2]; exact heap_alloc_new wr _
            obtain ⟨bn, hbn⟩ : ∃ b, b = wr.heap.size := ⟨_, rfl⟩
            have F0 : ∀ x, x = (if wrs (h.A.take j ++ [a]) n item = true then n else nw) → LaK wo h.A n nw item (.int .i64 x) (.int .i64 ((j : Int) + 1)) W2 := fun x hx => ⟨j + 1, by simp, by omega, by rw [hx, htk], below_then B3 B3.size B2⟩
            rw [wrs_snoc] at F0
            generalize wrs (h.A.take j) n item = u at F0 ⊢
            clear fin htk
            go_upto_region 10 with (fail)
            rw [← hW2, ← hbn]
            rw [← hbn] at ob
            clear hW2 y0 y1 y2 y3
            replace hbn := Aside0.mk hbn
            obtain ⟨r0, r1, r2, r3⟩ := ac_cells ob
            clear ob
            cases k1 : a.wr with
            | false =>
              have F := F0 (if u = true then n else nw) (by unfold isW; rw [k1]; simp)
              rw [k1] at r1
              clear F0
              replace F := Aside0.mk F
              replace k1 := Aside0.mk k1
              go_wp2
              refine ⟨F.out, ?_⟩
              simp [intOf]
              omega
            | true =>
              rw [k1] at r1
              cases k2 : a.t == n with
              | false =>
                have F := F0 (if u = true then n else nw) (by unfold isW; rw [k2]; simp)
                clear F0
                replace F := Aside0.mk F
                replace k1 := Aside0.mk k1
                go_wp2
                refine ⟨F.out, ?_⟩
                simp [intOf]
                omega
              | true =>
                cases k3 : a.item.toList == item.toList with
                | false =>
                  have F := F0 (if u = true then n else nw) (by unfold isW; rw [k3]; simp)
                  have k3' : ¬ a.item.toList = item.toList := by simpa using k3
                  clear F0
                  replace F := Aside0.mk F
                  replace k1 := Aside0.mk k1
                  go_wp2
                  refine ⟨F.out, ?_⟩
                  simp [intOf]
                  omega
                | true =>
                  have F := F0 n (by unfold isW; rw [k1, k2, k3]; simp)
                  have k3' : a.item.toList = item.toList := by simpa using k3
                  clear F0
                  replace F := Aside0.mk F
                  replace k1 := Aside0.mk k1
                  go_wp2
                  refine ⟨F.out, ?_⟩
                  simp [intOf]
                  omega
          · have hje : j = h.A.length := by omega
            have F := fin.out wr (if wrs (h.A.take j) n item = true then n else nw) B3 (by rw [hje, List.take_length])
            have hge : ¬ (j : Int) < (h.A.length : Int) := by omega
            generalize (if wrs (h.A.take j) n item = true then n else nw) = x at F ⊢
            clear fin
            replace F := Aside0.mk F
            replace hje := Aside0.mk hje
            go_wp2
            refine ⟨F.out, ?_⟩
            simp [intOf]
            omega
    · exfalso
      have hm := ht.out
      obtain ⟨i, hi, e⟩ := List.mem_iff_getElem.1 hm
      exact hb i hi (by omega) e
end Go.Proofs.Ytedcnpaomphffaa
namespace Go.Proofs.Ytedcnpaomphffaa
open Go.RowKit Go.Maps Go.Sort Go.Lib Go.Shelf Go.Proofs.YtedcnpaomphffaaW.PrintWords Go.Proofs.YtedcnpaomphffaaW.PrintLast Go.Proofs.YtedcnpaomphffaaW.PrintMore
set_option linter.unusedVariables false
set_option linter.unusedSimpArgs false
set_option linter.unusedSectionVars false
/-! ### plain laws of SerialReplays and SerialDangers -/
theorem round_nil {g : List Dp} {names L R : List Int} (hT : Topo g names L) (hg : ∀ d ∈ g, d.f ∈ names ∧ d.t ∈ names) (hR : RoundOf g names R) : R = [] := by
  obtain ⟨b, f, hb, ⟨_, rfl⟩ | ⟨hb0, hl, hp⟩⟩ := hR
  · rfl
  · exfalso
    rcases hb with ⟨h0, _⟩ | ⟨k, hk, _, rfl, hpos, hthr, _⟩
    · omega
    · rcases hthr with ⟨e, _⟩ | ⟨q, e, hq, _⟩
      · omega
      · have := topo_walk hT hg (List.getElem_mem hk) hq
        omega
structure OrdFacts (h : Hs) (L : List Int) : Prop where
  topo : Topo (graphP h) (rise h.C) L
  len : L.length = h.C.length
  mem : ∀ x, x ∈ L ↔ x ∈ h.C
  ordd : Ordd h.C L
theorem ord_facts {h : Hs} (k : OkH h) {L : List Int} (hL : greedy (graphP h) (rise h.C) (rise h.C).length [] = some L) : OrdFacts h L := by
  have hn := rise_nodup h.C
  have hT := greedy_topo hn _ [] L (Pre.nil _ _) (by simp) hL
  have hm : ∀ x, x ∈ L ↔ x ∈ h.C := fun x => ⟨fun hx => ((rise_spec h.C).2 _).1 (hT.1.2.1 x hx), fun hx => hT.2 x (((rise_spec h.C).2 _).2 hx)⟩
  have h1 := sub_le hT.1.1 (names := h.C) (fun n hn => (hm n).1 hn)
  have h2 := sub_le k.nd (names := L) (fun n hn => (hm n).2 hn)
  exact ⟨hT, by omega, hm, by omega, fun i hi => ⟨(hm _).1 (List.getElem_mem hi), plc_idx hT.1.1 hi⟩⟩
theorem round_two {h : Hs} (k : OkH h) (hs : Snaps h) {R : List Int} (hR : RoundOf (graphP h) (rise h.C) R) (hl : 2 ≤ R.length) : ∃ i, i < R.length ∧ TwoAt (graphP h) R i := by
  obtain ⟨n, hn⟩ : ∃ n, n = R.length := ⟨_, rfl⟩
  have T := two_rw k hs (n := n) (fun i => R.getD (i % n) 0) (by omega) (fun i => by
    have h1 : i % n < R.length := by rw [hn]; exact Nat.mod_lt _ (by omega)
    have h2 : (i % n + 1) % R.length < R.length := Nat.mod_lt _ (by omega)
    have e : (i + 1) % n = (i % n + 1) % R.length := by rw [← hn]; simp
    have := round_leads hR hl h1 h2
    show leadsB (graphP h) (R.getD (i % n) 0) (R.getD ((i + 1) % n) 0) = true
    rw [e]
    simp only [List.getD, List.getElem?_eq_getElem h1, List.getElem?_eq_getElem h2, Option.getD_some]
    exact this) (fun i => by show R.getD ((i + n) % n) 0 = _; rw [Nat.add_mod_right])
  obtain ⟨i, hi, t1, t2⟩ := T
  refine ⟨i, by omega, ?_, ?_⟩
  · unfold rw1
    rw [Nat.mod_eq_of_lt hi, hn] at t1
    exact t1
  · unfold rw2
    rw [hn] at t2
    exact t2
theorem two_pivot {h : Hs} (k : OkH h) {R : List Int} {i : Nat} (h2 : TwoAt (graphP h) R i) : pivP (graphP h) (rise h.C) ≠ [] := by
  intro e
  have hm : R.getD ((i + 1) % R.length) 0 ∈ pivP (graphP h) (rise h.C) := by
    unfold pivP
    rw [List.mem_filter]
    refine ⟨(graph_ends k _ h2.1).2, ?_⟩
    rw [Bool.and_eq_true]
    unfold inB outB
    rw [List.any_eq_true, List.any_eq_true]
    exact ⟨⟨_, h2.1, by simp [rw1]⟩, ⟨_, h2.2, by simp [rw2]⟩⟩
  rw [e] at hm
  cases hm
theorem round_short {g : List Dp} {names L : List Int} (h : RoundOf g names L) : L.length ≤ names.length := by
  obtain ⟨b, f, hb, ⟨rfl, rfl⟩ | ⟨hb0, hl, p1, p2, p3, p4⟩⟩ := h
  · simp
  have hf : f ∈ names := by
    rcases hb with ⟨h0, _⟩ | ⟨k, hk, _, rfl, _⟩
    · omega
    · exact List.getElem_mem hk
  have hm : ∀ j x, L[j]? = some x → x ∈ names ∧ (0 < j → IsMin g f (b.toNat - j) x) := by
    intro j x hx
    match j with
    | 0 =>
      rw [p3] at hx
      injection hx with hx
      subst hx
      exact ⟨hf, fun h => absurd h (by omega)⟩
    | j + 1 =>
      have hlt := (List.getElem?_eq_some_iff.1 hx).1
      obtain ⟨p, hp, rfl, _, hmin, _⟩ := p4 j L[j] x (List.getElem?_eq_getElem (by omega)) hx
      exact ⟨List.getElem_mem hp, fun _ => hmin⟩
  refine sub_le ?_ fun n hn => ?_
  · rw [List.nodup_iff_pairwise_ne, List.pairwise_iff_getElem]
    intro i j hi hj hij e
    have h2 := (hm j L[j] (List.getElem?_eq_getElem hj)).2 (by omega)
    rcases Nat.eq_zero_or_pos i with rfl | hi0
    · have h0 : L[0] = f := by
        rw [List.getElem?_eq_getElem hi] at p3
        injection p3
      rw [← e, h0] at h2
      exact h2.2 0 (by omega) rfl
    · have h1 := (hm i L[i] (List.getElem?_eq_getElem hi)).2 hi0
      rw [e] at h1
      have := h1.unique h2
      omega
  · obtain ⟨j, hj, rfl⟩ := List.mem_iff_getElem.1 hn
    exact (hm j _ (List.getElem?_eq_getElem hj)).1
end Go.Proofs.Ytedcnpaomphffaa
