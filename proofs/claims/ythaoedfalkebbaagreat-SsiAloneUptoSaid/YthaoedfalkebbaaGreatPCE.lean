/- Cut by a program out of the seat's texts (UA UC UD UE XA XB XC XD): what the theorem needs, one behind the other. -/
import Derived.Test.YthaoedfalkebbaaGreatPCD
import Derived.Test.YthaoedfalkebbaaGreatPCC
namespace Go.Proofs.YthaoedfalkebbaaGreat
open Go.RowKit Go.Maps Go.Sort Go.Lib Go.Proofs.YthaoedfalkebbaaGreatW.PrintWords Go.Proofs.YthaoedfalkebbaaGreatW.PrintLast Go.Proofs.YthaoedfalkebbaaGreatW.PrintMore
set_option linter.unusedVariables false
set_option linter.unusedSimpArgs false
set_option linter.unusedSectionVars false
/-- a row of whole numbers -/
abbrev RowI (w : World) (base : Nat) (v : Value) (xs : List Int) : Prop := Lo encI 1 2 w base v xs
theorem RowI.at {w : World} {base g n c : Nat} {xs : List Int} (h : RowI w base (.slice (some ⟨g, 0, none⟩) n c) xs) (j : Nat) (x : Int) (hj : xs[j]? = some x) : w.cell? ⟨g, j, none⟩ = some (.int .i64 x) := by
  have H := h.cell (fun _ => rfl) rfl j x hj 0 _ rfl
  simpa using H
def idxI (t : Int) (xs : List Int) : Int := if xs.findIdx (· == t) < xs.length then (xs.findIdx (· == t) : Int) else -1
theorem idxI_any (t : Int) (xs : List Int) : decide (0 ≤ idxI t xs) = xs.any (· == t) := by
  unfold idxI
  cases h : xs.any (· == t) with
  | true =>
    rw [if_pos (List.findIdx_lt_length.2 (by simpa using h))]
    simp
  | false =>
    rw [if_neg (by
      rw [List.findIdx_lt_length]
      rintro ⟨x, hx, h2⟩
      have : xs.any (· == t) = true := List.any_eq_true.2 ⟨x, hx, h2⟩
      rw [h] at this; cases this)]
    simp
def IJ (w : World) (t : Int) (xs : List Int) (v : Value) (wr : World) : Prop := ∃ j : Nat, j ≤ xs.length ∧ v = .int .i64 (j : Int) ∧ wr = w ∧ (∀ i (hi : i < xs.length), i < j → (xs[i] == t) = false)
set_option maxHeartbeats 4000000 in
set_option maxRecDepth 100000 in
theorem Index_calls (base : Nat) (v : Value) (xs : List Int) (t : Int) (w : World) (h : RowI w base v xs) (hl : xs.length ≤ 65536) :
    Calls Tryz.prog 94 #[v, .int .i64 t] w fun e w' => e = .returned (.int .i64 (idxI t xs)) ∧ w = w' := by
  obtain ⟨A, c, rfl, hlc, hA⟩ := h.slice
  go_enter Tryz.func94, Tryz.ntmps94
  go_wp2_with fail
  go_loopw [8] (fun iv wr => IJ w t xs iv wr) (fun iv _ => xs.length - (intOf iv).toNat)
  case atStart => exact ⟨0, Nat.zero_le _, rfl, rfl, fun i _ hi => by omega⟩
  case round =>
    obtain ⟨j, hj, rfl, rfl, hn⟩ := hrel
    by_cases hjl : j < xs.length
    · obtain ⟨g, rfl, _⟩ := hA (by omega)
      have y0 := RowI.at h j xs[j] (List.getElem?_eq_getElem hjl)
      cases hq : xs[j] == t with
      | true =>
        have hfin : idxI t xs = (j : Int) := by
          have e : xs.findIdx (· == t) = j := (List.findIdx_eq hjl).2 ⟨hq, fun k hk => by have := hn k (by omega) hk; simpa using this⟩
          unfold idxI
          rw [e, if_pos hjl]
        have hq' : (t == xs[j]) = true := by rw [beq_iff_eq] at hq ⊢; exact hq.symm
        generalize xs[j] = x at y0 hq'
        clear h hn hq
        go_wp2
        go_ret
        exact ⟨by rw [hfin]; rfl, rfl⟩
      | false =>
        have hq' : (t == xs[j]) = false := by rw [beq_eq_false_iff_ne] at hq ⊢; exact fun e => hq e.symm
        have fin : IJ wr t xs (.int .i64 ((j : Int) + 1)) wr := by
          refine ⟨j + 1, by omega, by simp, rfl, fun i hi hij => ?_⟩
          rcases Nat.lt_or_ge i j with h1 | h1
          · exact hn i hi h1
          · obtain rfl : i = j := by omega
            exact hq
        generalize xs[j] = x at y0 hq'
        clear h hn hq
        go_wp2
        refine ⟨fin, ?_⟩
        simp [intOf]
        omega
    · obtain rfl : j = xs.length := by omega
      have hfin : idxI t xs = -1 := by
        unfold idxI
        rw [if_neg]
        rw [List.findIdx_lt_length]
        rintro ⟨x, hx, h2⟩
        obtain ⟨i, hi, rfl⟩ := List.getElem_of_mem hx
        have := hn i hi hi
        rw [h2] at this; cases this
      clear h hn
      go_wp2
      go_ret
      exact ⟨by rw [hfin]; rfl, rfl⟩
set_option maxRecDepth 100000 in
theorem Contains_calls (base : Nat) (v : Value) (xs : List Int) (t : Int) (w : World) (h : RowI w base v xs) (hl : xs.length ≤ 65536) :
    Calls Tryz.prog 50 #[v, .int .i64 t] w fun e w' => e = .returned (.bool (xs.any (· == t))) ∧ w = w' := by
  have I := Index_calls base v xs t w h hl
  have hd := idxI_any t xs
  generalize idxI t xs = d at I hd
  clear h
  go_enter Tryz.func50, Tryz.ntmps50
  go_wp2_with fail
  refine I.mono ?_
  rintro e w' ⟨rfl, rfl⟩
  go_wp2
  go_ret
  exact ⟨by rw [← hd]; first | rfl | (congr 2; exact decide_eq_decide.2 (by omega)), rfl⟩
end Go.Proofs.YthaoedfalkebbaaGreat
namespace Go.Proofs.YthaoedfalkebbaaGreat
open Go.RowKit Go.Maps Go.Sort Go.Lib Go.Proofs.YthaoedfalkebbaaGreatW.PrintWords Go.Proofs.YthaoedfalkebbaaGreatW.PrintLast Go.Proofs.YthaoedfalkebbaaGreatW.PrintMore
set_option linter.unusedVariables false
set_option linter.unusedSimpArgs false
set_option linter.unusedSectionVars false
section
variable {P : Program} {α β : Type} [DecidableEq α] {k : TypeId} {mk : α → Value} {ok : α → Prop} {R : Value → Option (DataW Unit × List MemPlace)} {cd : β → DataW Unit}
theorem Rng.drop {t e : TypeId} (K : KeyAs P k mk ok) (ht : P.underlying t = some (.map k e)) {w : World} {b r n : Nat} {L rem : List (α × β)} (h : Rng P k mk ok R cd w b r n L rem) {a : α} (ha : ok a) (ty : TypeId) :
    ∃ w', (Builtin.delete_ #[t, k] ty #[.map (some b), mk a]).run P w = .ok (.tuple #[]) w' ∧ Rng P k mk ok R cd w' b r n (L.filter (fun p => p.1 ≠ a)) (rem.filter (fun p => p.1 ≠ a)) ∧ w'.rangeLeft b r ≤ w.rangeLeft b r ∧ w.mapTurned w' b := by
  obtain ⟨D, left, h1, h2, h3, h4, h5⟩ := h
  obtain ⟨kl, hk⟩ := K.lit a ha
  obtain ⟨w', cnt', hrun, h6, hle, hturn⟩ := h1.drop K.keyed ht hk ty
  have e2 := h6.left_eq
  refine ⟨w', hrun, ⟨D.del kl, _, by rw [e2]; exact h6, h2.del K (h1.owns.tidy K.keyed) hk, h3.filter _, fun p hp => ?_, fun a' kl' hk' => ?_⟩, by rw [e2]; exact hle, hturn⟩
  · obtain ⟨hp1, hp2⟩ := List.mem_filter.1 hp
    exact List.mem_filter.2 ⟨h4 p hp1, hp2⟩
  · by_cases e3 : a' = a
    · subst e3
      have : kl' = kl := (same_key K hk' hk).2 rfl
      subst this
      rw [WideAt.sameKey_self (K.keyed.key hk)]
      simp
    · have hne : kl' ≠ kl := fun e' => e3 ((same_key K hk' hk).1 e')
      rw [sameKey_ne hne]
      simp only [Bool.not_false, Bool.and_true]
      rw [h5 a' kl' hk']
      simp [e3]
end
set_option maxHeartbeats 1000000 in
set_option maxRecDepth 100000 in
theorem closure45_no (q : Pl) (u : Value) (bt bp : Nat) (t : Int) (w : World) (h1 : w.heap[bt]? = some (.cells #[.int .i64 t] 2 (0, 0))) (hne : q.1 ≠ t) :
    Calls Tryz.prog 103 #[.agg #[.int .i64 q.1, .string q.2], u, .pointer (some ⟨bt, 0, none⟩), .pointer (some ⟨bp, 0, none⟩)] w fun e w' => e = .returned (.bool false) ∧ Below w.heap.size w w' := by
  obtain ⟨w1, hw1⟩ : ∃ w1, w1 = w.alloc (.cells #[.int .i64 q.1, .string q.2] 156) := ⟨_, rfl⟩
  have B1 : Below w.heap.size w w1 := by rw [hw1]; exact (Below.refl _ w).alloc (Nat.le_refl _) _
  have o1 : w1.heap[w.heap.size]? = some (boxP q) := by rw [hw1]; exact heap_alloc_new w _
  have c0 := cell_of_row w1 _ 0 _ 156 (0, 0) o1
  have d0 := cell_of_row w1 bt 0 _ 2 (0, 0) (blk_below h1 B1)
  have hne' : (q.1 != t) = true := by simpa using hne
  clear o1 hne
  go_enter Tryz.func103, Tryz.ntmps103
  go_upto_region 1 with (fail)
  rw [← hw1]
  clear hw1
  go_wp2
  go_ret
  exact ⟨rfl, B1⟩
set_option maxHeartbeats 1000000 in
set_option maxRecDepth 100000 in
theorem closure45_yes (q : Pl) (A : Option Addr) (n c : Nat) (bt bp p b : Nat) (t most many : Int) (w : World) (h1 : w.heap[bt]? = some (.cells #[.int .i64 t] 2 (0, 0))) (h2 : w.heap[bp]? = some (.cells #[.pointer (some ⟨p, 0, none⟩)] 88 (0, 0)))
    (h3 : w.heap[p]? = some (.cells #[.int .i64 most, .map (some b), .int .i64 many] 150 (0, 0))) (he : q.1 = t) (hn : n ≤ 65536) (hm : 0 ≤ many) (hm2 : many ≤ 65536) :
    Calls Tryz.prog 103 #[.agg #[.int .i64 q.1, .string q.2], .slice A n c, .pointer (some ⟨bt, 0, none⟩), .pointer (some ⟨bp, 0, none⟩)] w fun e w' => e = .returned (.bool true) ∧ w.grownBy w' (some p) ∧ w'.heap[p]? = some (.cells #[.int .i64 most, .map (some b), .int .i64 (many - n)] 150 (0, 0)) := by
  obtain ⟨w1, hw1⟩ : ∃ w1, w1 = w.alloc (.cells #[.int .i64 q.1, .string q.2] 156) := ⟨_, rfl⟩
  have B1 : Below w.heap.size w w1 := by rw [hw1]; exact (Below.refl _ w).alloc (Nat.le_refl _) _
  have o1 : w1.heap[w.heap.size]? = some (boxP q) := by rw [hw1]; exact heap_alloc_new w _
  have c0 := cell_of_row w1 _ 0 _ 156 (0, 0) o1
  have d0 := cell_of_row w1 bt 0 _ 2 (0, 0) (blk_below h1 B1)
  have f0 := cell_of_row w1 bp 0 _ 88 (0, 0) (blk_below h2 B1)
  have op := blk_below h3 B1
  have m2 := cell_of_row w1 p 2 _ 150 (0, 0) op
  have fz := blk_fz op 2
  have hne' : (q.1 != t) = false := by simpa using he
  have fin := blk_set op 2 (.int .i64 (many - n))
  have G := grown_set w1 p 2 (.int .i64 (many - n))
  clear o1 he op
  replace fin := Aside0.mk fin
  replace G := Aside0.mk G
  go_enter Tryz.func103, Tryz.ntmps103
  go_upto_region 1 with (fail)
  rw [← hw1]
  clear hw1
  go_wp2
  go_ret
  exact ⟨rfl, trans_grown (grown_of_below B1 _) G.out, fin.out⟩
theorem sumR_del (R : Pl → List Rd) (a : Pl) (sv : Sv) : ∀ L : List (Pl × Sv), L.Pairwise (fun p p' => p.1 ≠ p'.1) → (a, sv) ∈ L → sumR (L.filter (fun p => p.1 ≠ a)) R + (R a).length = sumR L R
  | [], _, h => by cases h
  | e :: L, hp, h => by
    rw [List.pairwise_cons] at hp
    by_cases he : e.1 = a
    · have hf : L.filter (fun p => p.1 ≠ a) = L := List.filter_eq_self.2 (fun p hp' => by simpa using fun e2 => hp.1 p hp' (he.trans e2.symm))
      rw [List.filter_cons, if_neg (by simp [he]), hf]
      simp [sumR, he]
      omega
    · have hm : (a, sv) ∈ L := by
        rcases List.mem_cons.1 h with h | h
        · exact absurd (by rw [← h]) he
        · exact h
      have ih := sumR_del R a sv L hp.2 hm
      rw [List.filter_cons, if_pos (by simp [he])]
      simp only [sumR, List.map_cons, List.sum_cons] at ih ⊢
      omega
/-- what a step leaves that changes block p and whatever is no cells -/
structure But (base p b : Nat) (w w' : World) : Prop where
  below : Below base w w'
  size : w.heap.size ≤ w'.heap.size
  cells : ∀ k o, k ≠ p → k ≠ b → w.heap[k]? = some o → w'.heap[k]? = some o
theorem But.refl (base p b : Nat) (w : World) : But base p b w w := ⟨Below.refl _ _, Nat.le_refl _, fun _ _ _ _ h => h⟩
theorem But.grown {base p b : Nat} {w w1 w2 : World} (h : But base p b w w1) (hb : base ≤ w1.heap.size) (g : w1.grownBy w2 none) : But base p b w w2 := ⟨h.below.grown g hb (by simp), Nat.le_trans h.size g.size, fun k o hk hb2 hw => (g.block k (Array.getElem?_eq_some_iff.1 (h.cells k o hk hb2 hw)).1 (by simp)).trans (h.cells k o hk hb2 hw)⟩
theorem But.atP {base p b : Nat} {w w1 w2 : World} (h : But base p b w w1) (hb : base ≤ w1.heap.size) (hp : base ≤ p) (g : w1.grownBy w2 (some p)) : But base p b w w2 := ⟨h.below.grown g hb (fun k e => by injection e with e; omega), Nat.le_trans h.size g.size, fun k o hk hb2 hw => (g.block k (Array.getElem?_eq_some_iff.1 (h.cells k o hk hb2 hw)).1 (by simpa using hk)).trans (h.cells k o hk hb2 hw)⟩
theorem But.atMap {base p b : Nat} {w w1 w2 : World} (h : But base p b w w1) (hb : base ≤ w1.heap.size) (hp : base ≤ b) (g : w1.mapTurned w2 b) : But base p b w w2 := by
  have g' := turned_grown g
  obtain ⟨es, clock, _, _, hm, _⟩ := g
  exact ⟨h.below.grown g' hb (fun k e => by injection e with e; omega), Nat.le_trans h.size g'.size, fun k o hk hb2 hw => by
    have h1 := h.cells k o hk hb2 hw
    exact (g'.block k (Array.getElem?_eq_some_iff.1 h1).1 (by simpa using hb2)).trans h1⟩
end Go.Proofs.YthaoedfalkebbaaGreat
namespace Go.Proofs.YthaoedfalkebbaaGreat
open Go.RowKit Go.Maps Go.Sort Go.Lib Go.Proofs.YthaoedfalkebbaaGreatW.PrintWords Go.Proofs.YthaoedfalkebbaaGreatW.PrintLast Go.Proofs.YthaoedfalkebbaaGreatW.PrintMore
set_option linter.unusedVariables false
set_option linter.unusedSimpArgs false
set_option linter.unusedSectionVars false
def DJ (base p b r : Nat) (most t : Int) (L : List (Pl × Sv)) (R : Pl → List Rd) (w wr : World) : Prop :=
  ∃ (vis rem : List (Pl × Sv)) (D : List Pl), (vis ++ rem).Perm L ∧ RngN wr b r L.length (L.filter (fun e => !inK D e.1)) rem ∧ (∀ a ∈ D, a.1 = t) ∧ (∀ e ∈ vis, e.1.1 = t → e.1 ∈ D) ∧ (∀ a ∈ D, a ∈ vis.map (·.1)) ∧ But base p b w wr ∧
    wr.heap[p]? = some (.cells #[.int .i64 most, .map (some b), .int .i64 (sumR (L.filter (fun e => !inK D e.1)) R : Nat)] 150 (0, 0))
theorem sumR_filter (R : Pl → List Rd) (c : Pl × Sv → Bool) : ∀ L : List (Pl × Sv), sumR (L.filter c) R ≤ sumR L R
  | [] => Nat.le_refl _
  | e :: L => by
    have ih := sumR_filter R c L
    rw [List.filter_cons]
    split
    · simp only [sumR, List.map_cons, List.sum_cons] at ih ⊢; omega
    · simp only [sumR, List.map_cons, List.sum_cons] at ih ⊢; omega
set_option maxHeartbeats 8000000 in
set_option maxRecDepth 100000 in
theorem DeleteFunc44 (base p b bt bp : Nat) (most t : Int) (L : List (Pl × Sv)) (R : Pl → List Rd) (w : World) (h1 : w.heap[bt]? = some (.cells #[.int .i64 t] 2 (0, 0))) (h2 : w.heap[bp]? = some (.cells #[.pointer (some ⟨p, 0, none⟩)] 88 (0, 0)))
    (h3 : w.heap[p]? = some (.cells #[.int .i64 most, .map (some b), .int .i64 (sumR L R : Nat)] 150 (0, 0))) (T : TabN w b L.length L) (hrows : ∀ e ∈ L, RowR w base (mvS e.2) (R e.1)) (hsum : sumR L R ≤ 65536) (hp : base ≤ p) (hb : base ≤ b) :
    Calls Tryz.prog 102 #[.map (some b), .func (.func 103) #[] #[.pointer (some ⟨bt, 0, none⟩), .pointer (some ⟨bp, 0, none⟩)]] w fun e w' => e = .returned (.tuple #[]) ∧ But base p b w w' ∧ TabN w' b (L.filter (fun e => e.1.1 != t)).length (L.filter (fun e => e.1.1 != t)) ∧
      w'.heap[p]? = some (.cells #[.int .i64 most, .map (some b), .int .i64 (sumR (L.filter (fun e => e.1.1 != t)) R : Nat)] 150 (0, 0)) := by
  have tidy := T.tidy
  have hpw : p < w.heap.size := (Array.getElem?_eq_some_iff.1 h3).1
  have hbw : base ≤ w.heap.size := by omega
  have hbp : b ≠ p := by
    rintro rfl
    obtain ⟨es, clock, hm⟩ := T.isMap
    rw [hm] at h3
    cases h3
  have hbtb : bt ≠ b := by
    rintro rfl
    obtain ⟨es, clock, hm⟩ := T.isMap
    rw [hm] at h1
    cases h1
  have hbpb : bp ≠ b := by
    rintro rfl
    obtain ⟨es, clock, hm⟩ := T.isMap
    rw [hm] at h2
    cases h2
  have hbtp : bt ≠ p := by rintro rfl; rw [h1] at h3; injection h3 with h3; injection h3 with _ h3; cases h3
  have hbpp : bp ≠ p := by rintro rfl; rw [h2] at h3; injection h3 with h3; injection h3 with _ h3; cases h3
  obtain ⟨w2, hrun, hRg, hg2, hs2⟩ := Tab.range (t := 148) keyP Tryz.underlying148 T
  have J0 : DJ base p b w.heap.size most t L R w w2 := by
    have e0 : L.filter (fun e => !inK [] e.1) = L := List.filter_eq_self.2 (fun e _ => by simp [inK])
    refine ⟨[], L, [], List.Perm.refl _, by rw [e0]; exact hRg, by simp, by simp, by simp, (But.refl _ _ _ _).grown hbw hg2, ?_⟩
    rw [e0]
    exact (hg2.block p hpw (by simp)).trans h3
  clear hRg T
  go_enter Tryz.func102, Tryz.ntmps102
  go_wp2_with fail
  go_loopw [4] (fun _ wr => DJ base p b w.heap.size most t L R w wr) (fun _ wr => wr.rangeLeft b w.heap.size)
  case atStart => exact J0
  case round =>
    clear J0 hs2 hg2 hrun
    obtain ⟨vis, rem, D, hpm, hr, hD1, hD2, hD3, hbut, hcp⟩ := hrel
    rcases hr.next keyP valS 0 with ⟨hnil, hrun1⟩ | ⟨a, sv, w3, hmem, hok, hrun1, hr3, hlt, hg3, hs3, hent⟩
    · subst hnil
      rw [List.append_nil] at hpm
      have ef : L.filter (fun e => !inK D e.1) = L.filter (fun e => e.1.1 != t) := by
        refine List.filter_congr fun e he => ?_
        have hv : e ∈ vis := hpm.mem_iff.2 he
        by_cases ht : e.1.1 = t
        · have h4 := inK_iff.2 (hD2 e hv ht)
          simp [ht, h4]
        · have h4 : inK D e.1 = false := by
            cases h5 : inK D e.1 with
            | false => rfl
            | true => exact absurd (hD1 _ (inK_iff.1 h5)) ht
          simp [ht, h4]
      rw [ef] at hr hcp
      have hT := hr.tab.exact
      clear hr
      go_wp2
      go_end0
      exact ⟨rfl, hbut, hT, hcp⟩
    · unfold mkP at hrun1 hent
      have hwr := hr.lt
      obtain ⟨W, hW⟩ : ∃ W, W = w3.alloc (.cells #[.int .i64 a.1, .string a.2] 156) := ⟨_, rfl⟩
      have GA : w3.grownBy W none := by rw [hW]; exact World.grownBy_alloc _ _ _
      have hop : W.heap[wr.heap.size]? = some (.cells #[.int .i64 a.1, .string a.2] 156 (0, 0)) := by rw [hW, ← hs3]; exact heap_alloc_new w3 _
      have p0 := cell_of_row W _ 0 _ 156 (0, 0) hop
      have p1 := cell_of_row W _ 1 _ 156 (0, 0) hop
      have hmL : (a, sv) ∈ L := hpm.mem_iff.1 (List.mem_append_right _ hmem)
      obtain ⟨A, c, hmv, hlc, _⟩ := (hrows _ hmL).slice
      rw [hmv] at hrun1 hent
      have hRa : (R a).length ≤ sumR L R := by
        obtain ⟨l1, l2, e⟩ := List.append_of_mem hmL
        rw [e, sumR_append]
        simp [sumR]
        omega
      have hsD := sumR_filter R (fun e => !inK D e.1) L
      have hrb : w.heap.size ≠ p := by omega
      have but3 : But base p b w w3 := ⟨hbut.below.grown hg3 (Nat.le_trans hbw hbut.size) (fun k e => by injection e with e; omega), Nat.le_trans hbut.size hg3.size, fun k o hk hb2 hw => by
        have h4 := hbut.cells k o hk hb2 hw
        refine (hg3.block k (Array.getElem?_eq_some_iff.1 h4).1 (fun e2 => ?_)).trans h4
        injection e2 with e2
        have := (Array.getElem?_eq_some_iff.1 hw).1
        omega⟩
      have butW := but3.grown (Nat.le_trans hbw but3.size) GA
      have hc3 : w3.heap[p]? = _ := (hg3.block p (Array.getElem?_eq_some_iff.1 hcp).1 (by simp; omega)).trans hcp
      have hcW : W.heap[p]? = _ := (GA.block p (Array.getElem?_eq_some_iff.1 hc3).1 (by simp)).trans hc3
      obtain ⟨hrW, elW⟩ := hr3.kept GA (by simp) (by simp)
      have t1 := butW.cells bt _ hbtp hbtb h1
      have t2 := butW.cells bp _ hbpp hbpb h2
      have hnd : ∀ e ∈ vis, e.1 ≠ a := by
        intro e he e2
        have hpw := hpm.symm.pairwise_iff (R := fun x y : Pl × Sv => x.1 ≠ y.1) (fun {x y} h => fun e3 => h e3.symm) |>.1 tidy
        exact (List.pairwise_append.1 hpw).2.2 e he (a, sv) hmem e2
      have haD : a ∉ D := fun h => by
        obtain ⟨e, he, e2⟩ := List.mem_map.1 (hD3 a h)
        exact hnd e he e2
      by_cases hyes : a.1 = t
      · have C := closure45_yes a A (R a).length c bt bp p b t most (sumR (L.filter (fun e => !inK D e.1)) R : Nat) W t1 t2 hcW hyes (by omega) (by omega) (by omega)
        have hLc : (a, sv) ∈ L.filter (fun e => !inK D e.1) := by
          refine List.mem_filter.2 ⟨hmL, ?_⟩
          cases h5 : inK D a with
          | false => rfl
          | true => exact absurd (inK_iff.1 h5) haD
        have hdel := sumR_del R a sv _ (tidy.filter (fun e => !inK D e.1)) hLc
        have eD : (L.filter (fun e => !inK D e.1)).filter (fun e => e.1 ≠ a) = L.filter (fun e => !inK (a :: D) e.1) := by
          rw [List.filter_filter]
          refine List.filter_congr fun e _ => ?_
          simp only [inK, List.any_cons, Bool.not_or]
          by_cases h6 : e.1 = a
          · simp [h6]
          · have h7 : ¬ a = e.1 := fun h => h6 h.symm
            simp [h6, h7]
        have eR : (rem.filter (fun e => e.1 ≠ a)).filter (fun e => e.1 ≠ a) = rem.filter (fun e => e.1 ≠ a) := by
          rw [List.filter_filter]; refine List.filter_congr fun e _ => ?_; simp
        have step : ∀ W5, W.grownBy W5 (some p) → W5.heap[p]? = some (.cells #[.int .i64 most, .map (some b), .int .i64 ((sumR (L.filter (fun e => !inK D e.1)) R : Nat) - ((R a).length : Nat))] 150 (0, 0)) → ∃ W6, (Builtin.delete_ #[148, 156] 0 #[.map (some b), .agg #[.int .i64 a.1, .string a.2]]).run Tryz.prog W5 = .ok (.tuple #[]) W6 ∧ DJ base p b w.heap.size most t L R w W6 ∧ W6.rangeLeft b w.heap.size < wr.rangeLeft b w.heap.size := by
          intro W5 G5 hc5
          obtain ⟨hr5, el5⟩ := hrW.kept G5 (fun e => by injection e with e; exact hbp e) (fun e => by injection e with e; exact hrb e)
          obtain ⟨W6, hrun6, hr6, hle6, hturn6⟩ := hr5.drop (t := 148) keyP Tryz.underlying148 hok 0
          rw [eD, eR] at hr6
          have but5 := butW.atP (Nat.le_trans hbw butW.size) hp G5
          have but6 := but5.atMap (Nat.le_trans hbw but5.size) hb hturn6
          refine ⟨W6, hrun6, ⟨vis ++ [(a, sv)], _, a :: D, perm_next hr.apart hpm hmem, hr6, ?_, ?_, ?_, but6, ?_⟩, by omega⟩
          · intro q hq
            rcases List.mem_cons.1 hq with rfl | hq
            · exact hyes
            · exact hD1 q hq
          · intro e he ht
            rcases List.mem_append.1 he with he | he
            · exact List.mem_cons_of_mem _ (hD2 e he ht)
            · rw [List.mem_singleton.1 he]; exact List.mem_cons_self
          · intro q hq
            rw [List.map_append]
            rcases List.mem_cons.1 hq with rfl | hq
            · exact List.mem_append_right _ (by simp)
            · exact List.mem_append_left _ (hD3 q hq)
          · have hs : ((sumR (L.filter (fun e => !inK D e.1)) R : Nat) : Int) - ((R a).length : Nat) = ((sumR ((L.filter (fun e => !inK D e.1)).filter (fun p => p.1 ≠ a)) R : Nat) : Int) := by omega
            rw [((turned_grown hturn6).block p (Array.getElem?_eq_some_iff.1 hc5).1 (fun e => by injection e with e; exact hbp e.symm)), hc5, ← eD, hs]
        replace step := Aside0.mk step
        replace hrows := Aside0.mk hrows
        replace hyes := Aside0.mk hyes
        go_upto_region 3 with (fail)
        rw [← hW]
        clear hW
        go_wp2_with fail
        refine C.mono ?_
        rintro e W5 ⟨rfl, G5, hc5⟩
        obtain ⟨W6, hrun6, hJ6, hl6⟩ := step.out W5 G5 hc5
        have s0 := (G5.block _ (Array.getElem?_eq_some_iff.1 hop).1 (by simp; omega)).trans hop
        have s1 := cell_of_row W5 _ 0 _ 156 (0, 0) s0
        have s2 := cell_of_row W5 _ 1 _ 156 (0, 0) s0
        clear s0 hop p0 p1
        replace hJ6 := Aside0.mk hJ6
        go_wp2
        exact ⟨hJ6.out, hl6⟩
      · have C := closure45_no a (.slice A (R a).length c) bt bp t W t1 hyes
        have fin : ∀ W5, Below W.heap.size W W5 → DJ base p b w.heap.size most t L R w W5 ∧ W5.rangeLeft b w.heap.size < wr.rangeLeft b w.heap.size := by
          intro W5 B5
          obtain ⟨hr5, el5⟩ := hrW.kept (grown_of_below B5 none) (by simp) (by simp)
          refine ⟨⟨vis ++ [(a, sv)], _, D, perm_next hr.apart hpm hmem, hr5, hD1, ?_, ?_, butW.grown (Nat.le_trans hbw butW.size) (grown_of_below B5 none), blk_below hcW B5⟩, by omega⟩
          · intro e he ht
            rcases List.mem_append.1 he with he | he
            · exact hD2 e he ht
            · rw [List.mem_singleton.1 he] at ht; exact absurd ht hyes
          · intro q hq
            rw [List.map_append]
            exact List.mem_append_left _ (hD3 q hq)
        replace fin := Aside0.mk fin
        replace hrows := Aside0.mk hrows
        go_upto_region 3 with (fail)
        rw [← hW]
        clear hW
        go_wp2_with fail
        refine C.mono ?_
        rintro e W5 ⟨rfl, B5⟩
        go_wp2
        exact fin.out _ B5
end Go.Proofs.YthaoedfalkebbaaGreat
namespace Go.Proofs.YthaoedfalkebbaaGreat
open Go.RowKit Go.Maps Go.Sort Go.Lib Go.Proofs.YthaoedfalkebbaaGreatW.PrintWords Go.Proofs.YthaoedfalkebbaaGreatW.PrintLast Go.Proofs.YthaoedfalkebbaaGreatW.PrintMore
set_option linter.unusedVariables false
set_option linter.unusedSimpArgs false
set_option linter.unusedSectionVars false
def dropR (R : Pl → List Rd) (t : Int) : Pl → List Rd := fun q => if q.1 = t then [] else R q
def dropS (S : St) (t : Int) : St := ⟨S.K.filter (fun q => q.1 != t), dropR S.R t, (((S.K.filter (fun q => q.1 != t)).map fun q => (dropR S.R t q).length).sum : Nat)⟩
def dropP (S : St) (t : Int) : Int × St := if t < 1 then (1, S) else (0, dropS S t)
theorem dropR_other (R : Pl → List Rd) {t : Int} {q : Pl} (h : q.1 ≠ t) : dropR R t q = R q := by unfold dropR; rw [if_neg h]
theorem dropR_same (R : Pl → List Rd) {t : Int} {q : Pl} (h : q.1 = t) : dropR R t q = [] := by unfold dropR; rw [if_pos h]
theorem dropS_inv {S : St} (h : InvK S) (t : Int) : InvK (dropS S t) where
  nodup := h.nodup.filter _
  off q hq := by
    show dropR S.R t q = []
    by_cases ht : q.1 = t
    · exact dropR_same _ ht
    · rw [dropR_other _ ht]
      refine h.off q fun hK => hq (List.mem_filter.2 ⟨hK, by simpa using ht⟩)
  pos q hq := by
    obtain ⟨h1, h2⟩ := List.mem_filter.1 hq
    show dropR S.R t q ≠ []
    rw [dropR_other _ (by simpa using h2)]
    exact h.pos q h1
  sum := rfl
  tab q y hy := by
    replace hy : y ∈ dropR S.R t q := hy
    unfold dropR at hy
    split at hy
    · cases hy
    · exact h.tab q y hy
  lean q := by
    show (dropR S.R t q).Pairwise LeanR
    unfold dropR
    split
    · exact List.Pairwise.nil
    · exact h.lean q
  size q hq := h.size q (List.mem_filter.1 hq).1
  one q hq := h.one q (List.mem_filter.1 hq).1
theorem sum_filter_le (f : Pl → Nat) (c : Pl → Bool) : ∀ K : List Pl, ((K.filter c).map f).sum ≤ (K.map f).sum
  | [] => Nat.le_refl _
  | q :: K => by
    have ih := sum_filter_le f c K
    rw [List.filter_cons]
    split
    · simp only [List.map_cons, List.sum_cons]; omega
    · simp only [List.map_cons, List.sum_cons]; omega
theorem drop_sum (R : Pl → List Rd) (t : Int) (K : List Pl) : ((K.filter (fun q => q.1 != t)).map fun q => (dropR R t q).length) = ((K.filter (fun q => q.1 != t)).map fun q => (R q).length) := by
  refine List.map_congr_left fun q hq => ?_
  rw [dropR_other _ (by simpa using (List.mem_filter.1 hq).2)]
theorem dropS_le {S : St} (h : InvK S) (t : Int) : (dropS S t).n ≤ S.n := by
  rw [h.sum]
  show ((((S.K.filter (fun q => q.1 != t)).map fun q => (dropR S.R t q).length).sum : Nat) : Int) ≤ _
  rw [drop_sum]
  have := sum_filter_le (fun q => (S.R q).length) (fun q => q.1 != t) S.K
  omega
theorem got_filter (t : Int) (q : Pl) (hq : q.1 ≠ t) : ∀ L : List (Pl × Sv), got (L.filter (fun e => e.1.1 != t)) q = got L q
  | [] => rfl
  | e :: L => by
    have ih := got_filter t q hq L
    rw [List.filter_cons]
    by_cases he : (e.1.1 != t) = true
    · rw [if_pos he]
      unfold got at ih ⊢
      rw [List.find?_cons, List.find?_cons]
      split
      · rfl
      · exact ih
    · rw [if_neg he, ih]
      unfold got
      rw [List.find?_cons]
      have hne : ¬ e.1 = q := fun e2 => he (by rw [e2]; simpa using hq)
      simp [hne]
set_option maxHeartbeats 4000000 in
set_option maxRecDepth 100000 in
theorem Drop_S (base p b : Nat) (most : Int) (S : St) (t : Int) (w : World) (h : MrS w base p b most S) :
    Calls Tryz.prog 54 #[.pointer (some ⟨p, 0, none⟩), .int .i64 t] w fun e w' => e = .returned (.int .i64 (dropP S t).1) ∧ MrS w' base p b most (dropP S t).2 ∧ But base p b w w' := by
  obtain ⟨⟨L, M, hk, hbb⟩, hI, hn, h3, h4⟩ := h
  have hpw : p < w.heap.size := (Array.getElem?_eq_some_iff.1 M.cells).1
  have hlow := M.low
  obtain ⟨w1, hw1⟩ : ∃ w1, w1 = (w.alloc (.cells #[.pointer (some ⟨p, 0, none⟩)] 88)).alloc (.cells #[.int .i64 t] 2) := ⟨_, rfl⟩
  have B1 : Below w.heap.size w w1 := by rw [hw1]; exact below_alloc ((Below.refl _ w).alloc (Nat.le_refl _) _) _
  have o0 : w1.heap[w.heap.size]? = some (.cells #[.pointer (some ⟨p, 0, none⟩)] 88 (0, 0)) := by rw [hw1]; exact (Below.heap_alloc _ _ _ (by simp)).trans (heap_alloc_new w _)
  have o1 : w1.heap[w.heap.size + 1]? = some (.cells #[.int .i64 t] 2 (0, 0)) := by
    rw [hw1]
    have := heap_alloc_new (w.alloc (.cells #[.pointer (some ⟨p, 0, none⟩)] 88)) (.cells #[.int .i64 t] 2)
    simpa using this
  have c0 := cell_of_row w1 _ 0 _ 88 (0, 0) o0
  have c1 := cell_of_row w1 _ 0 _ 2 (0, 0) o1
  have M1 := M.kept (grown_of_below B1 none)
  have N := none_calls p b w1 M1.cell.2.1
  have hsum : S.n = ((sumR L S.R : Nat) : Int) := by
    rw [hI.sum]
    unfold sumR
    rw [← hk, List.map_map]
    rfl
  have but1 := (But.refl base p b w).grown (by omega) (grown_of_below B1 none)
  by_cases ht : t < 1
  · have e : dropP S t = (1, S) := by unfold dropP; rw [if_pos ht]
    rw [e]
    have ht' : t < 1 := ht
    go_enter Tryz.func54, Tryz.ntmps54
    go_upto_region 1 with (fail)
    rw [← hw1]
    clear hw1
    go_wp2_with fail
    refine N.mono ?_
    rintro e w' ⟨rfl, rfl⟩
    go_wp2
    go_ret
    exact ⟨rfl, ⟨⟨L, M1, hk, hbb⟩, hI, hn, h3, h4⟩, but1⟩
  · have e : dropP S t = (0, dropS S t) := by unfold dropP; rw [if_neg ht]
    rw [e]
    have hcell := M1.cells
    rw [hsum] at hcell
    have D := DeleteFunc44 base p b (w.heap.size + 1) w.heap.size most t L S.R w1 o1 o0 hcell M1.tab M1.rows (by omega) hlow hbb
    obtain ⟨m0, m1, m2⟩ := M1.cell
    go_enter Tryz.func54, Tryz.ntmps54
    go_upto_region 1 with (fail)
    rw [← hw1]
    clear hw1
    go_wp2_with fail
    refine N.mono ?_
    rintro e w' ⟨rfl, rfl⟩
    go_wp2_with fail
    refine D.mono ?_
    rintro e w2 ⟨rfl, but2, T2, cells2⟩
    go_wp2
    go_ret
    have hdl := dropS_le hI t
    have but12 : But base p b w w2 := ⟨⟨but2.below.os.trans but1.below.os, but2.below.tape.trans but1.below.tape, but2.below.output.trans but1.below.output, Nat.le_trans but1.below.size but2.below.size, fun k hk => (but2.below.block k hk).trans (but1.below.block k hk)⟩, Nat.le_trans but1.size but2.size, fun k o hk hb2 hw => but2.cells k o hk hb2 (but1.cells k o hk hb2 hw)⟩
    refine ⟨rfl, ⟨⟨L.filter (fun e => e.1.1 != t), ⟨?_, T2, hlow, ?_, ?_, ?_⟩, ?_, hbb⟩, dropS_inv hI t, by show (dropS S t).n ≤ most; omega, h3, h4⟩, but12⟩
    · rw [cells2]
      have : (dropS S t).n = ((sumR (L.filter (fun e => e.1.1 != t)) S.R : Nat) : Int) := by
        show ((((S.K.filter (fun q => q.1 != t)).map fun q => (dropR S.R t q).length).sum : Nat) : Int) = _
        rw [drop_sum, ← hk, List.filter_map, List.map_map]
        rfl
      rw [← this]
    · intro e he
      obtain ⟨h5, h6⟩ := List.mem_filter.1 he
      show RowR w2 base (mvS e.2) (dropR S.R t e.1)
      rw [dropR_other _ (by simpa using h6)]
      refine (M1.rows e h5).move fun g hg => ?_
      obtain ⟨_, _, cells, hc⟩ := (M1.rows e h5).typed g hg
      refine (but2.cells g _ (fun e2 => ?_) (fun e2 => by
        obtain ⟨es, clock, hm⟩ := M1.tab.isMap
        rw [← e2, hc] at hm
        cases hm) hc).trans hc.symm
      subst e2
      rw [hcell] at hc
      injection hc with hc
      injection hc with _ hc
      cases hc
    · intro q hq
      show dropR S.R t q = []
      by_cases h6 : q.1 = t
      · exact dropR_same _ h6
      · rw [dropR_other _ h6]
        rw [got_filter t q h6] at hq
        exact M1.off q hq
    · intro e he y hy
      replace hy : y ∈ dropR S.R t e.1 := hy
      obtain ⟨h5, h6⟩ := List.mem_filter.1 he
      rw [dropR_other _ (by simpa using h6)] at hy
      exact M1.good e h5 y hy
    · show (L.filter (fun e => e.1.1 != t)).map (·.1) = S.K.filter (fun q => q.1 != t)
      rw [← hk, List.filter_map]
      rfl
end Go.Proofs.YthaoedfalkebbaaGreat
namespace Go.Proofs.YthaoedfalkebbaaGreat
set_option linter.unusedVariables false
theorem app0 (b : ByteArray) : (b ++ ⟨#[0]⟩ : ByteArray).toList = b.toList ++ [0] := by rw [Lib.toList_data, Lib.toList_data, ByteArray.toList_data_append]
abbrev Lk := ByteArray × ByteArray
instance memLk (a : Lk) (l : List Lk) : Decidable (a ∈ l) := decidable_of_iff (l.any (fun b => decide (b = a)) = true) (by
  rw [List.any_eq_true]
  constructor
  · rintro ⟨b, hb, e⟩
    rw [← of_decide_eq_true e]
    exact hb
  · intro h
    exact ⟨a, h, by simp⟩)
/-- what the notes of reads are, and what can be done to them -/
structure RdI (ρ : Type) where
  note : ρ → Int → Rd → Int × ρ
  drop : ρ → Int → ρ
  rdrs : ρ → ByteArray → ByteArray → List Int
  has : ρ → Int → Bool
  len : ρ → Int
/-- what is known of them -/
structure RdL {ρ : Type} (I : RdI ρ) (ok : ρ → Prop) (most : Int) : Prop where
  note_ok : ∀ r t x, ok r → ok (I.note r t x).2
  note_bad : ∀ r t x, ok r → (I.note r t x).1 ≠ 0 → (I.note r t x).2 = r
  note_err : ∀ r t x, ok r → 1 ≤ t → mayB x = true → (I.note r t x).1 = 0 ∨ (I.note r t x).1 = 4
  note_keep : ∀ r t x tb key n, ok r → n ∈ I.rdrs r tb key → n ∈ I.rdrs (I.note r t x).2 tb key
  note_new : ∀ r t x key, ok r → (I.note r t x).1 = 0 → holdB x key = true → t ∈ I.rdrs (I.note r t x).2 x.t key
  note_has : ∀ r t x n, ok r → I.has (I.note r t x).2 n = true → I.has r n = true ∨ n = t
  drop_ok : ∀ r t, ok r → ok (I.drop r t)
  drop_rdrs : ∀ r t tb key n, ok r → 1 ≤ t → n ≠ t → n ∈ I.rdrs r tb key → n ∈ I.rdrs (I.drop r t) tb key
  drop_has : ∀ r t n, ok r → 1 ≤ t → I.has (I.drop r t) n = true → I.has r n = true ∧ n ≠ t
  rdrs_has : ∀ r tb key n, ok r → n ∈ I.rdrs r tb key → I.has r n = true
  len_le : ∀ r, ok r → I.len r ≤ most
  len_none : ∀ r, ok r → (∀ n, I.has r n = false) → I.len r = 0
structure Tx where
  num : Int
  snap : Int
  act : Bool
  begun : Int
  ended : Int
  fin : Bool
  fout : Bool
  wrote : List Lk
structure Cp where
  active : Int
  kept : Int
  reads : Int
  locks : Int
structure Sm (ρ : Type) where
  caps : Cp
  now : Int
  last : Int
  clock : Int
  txs : List Tx
  locks : List (Lk × Int)
  reads : ρ
def eqS (a b : ByteArray) : Bool := a.toList == b.toList
def inR (key f u : ByteArray) : Bool := !Op.bytesLess key.toList f.toList && (u.toList == [] || Op.bytesLess key.toList u.toList)
section
variable {ρ : Type} (I : RdI ρ)
def concB (t o : Tx) : Bool := o.num != t.num && (o.act || decide (t.begun < o.ended))
def keepB (txs : List Tx) (t : Tx) : Bool := t.act || txs.any (fun a => a.act && decide (a.begun < t.ended))
def heldOf (L : List (Lk × Int)) (n : Int) : List Lk := (L.filter (fun p => p.2 == n)).map (·.1)
def holder (L : List (Lk × Int)) (a : Lk) : Option Int := (L.find? (fun p => p.1 = a)).map (·.2)
def Sm.actv (S : Sm ρ) (n : Int) : Option Tx := S.txs.find? (fun t => t.num == n && t.act)
def Sm.acts (S : Sm ρ) : Nat := (S.txs.filter (·.act)).length
/-- all committed ones go that are concurrent with none under way -/
def Sm.forget (S : Sm ρ) : Sm ρ := { S with txs := S.txs.filter (keepB S.txs), reads := (S.txs.filter (fun t => !keepB S.txs t)).foldl (fun r t => I.drop r t.num) S.reads }
def Sm.gone (S : Sm ρ) (n : Int) : Sm ρ := Sm.forget I { S with locks := S.locks.filter (fun p => p.2 != n), reads := I.drop S.reads n, txs := S.txs.filter (fun t => t.num != n) }
def bothB (a b i o : Bool) : Bool := (a || i) && (b || o)
def setF (o : Tx) (i : Bool) : Tx := { o with fin := o.fin || i, fout := o.fout || !i }
def Sm.put (S : Sm ρ) (t : Tx) (so : Tx → Bool) (out : Bool) : Int × Sm ρ :=
  if bothB t.fin t.fout (!out && S.txs.any (fun o => concB t o && so o)) (out && S.txs.any (fun o => concB t o && so o)) || S.txs.any (fun o => (concB t o && so o) && (!o.act && bothB o.fin o.fout out (!out))) then (100, S.gone I t.num)
  else (0, { S with txs := S.txs.map (fun o => if o.num == t.num then (if S.txs.any (fun o => concB t o && so o) then setF o (!out) else o) else if concB t o && so o then setF o out else o) })
def wroteB (L : List (Lk × Int)) (o : Tx) (tb f u : ByteArray) : Bool := (if o.act then heldOf L o.num else o.wrote).any (fun l => eqS l.1 tb && inR l.2 f u)
def Sm.noteS (S : Sm ρ) (t : Tx) (x : Rd) (f u : ByteArray) : Int × Sm ρ :=
  if (I.note S.reads t.num x).1 ≠ 0 then ((I.note S.reads t.num x).1, Sm.gone I { S with reads := (I.note S.reads t.num x).2 } t.num)
  else Sm.put I { S with reads := (I.note S.reads t.num x).2 } t (fun o => wroteB S.locks o x.t f u) true
def Sm.read (S : Sm ρ) (tx : Int) (a : Lk) : Int × Sm ρ :=
  match S.actv tx with
  | none => (101, S)
  | some t => if holder S.locks a = some tx then (0, S) else S.noteS I t ⟨a.1, 1, a.2, ⟨#[]⟩⟩ a.2 (a.2 ++ ⟨#[0]⟩)
def Sm.scan (S : Sm ρ) (tx : Int) (tb f u : ByteArray) : Int × Sm ρ :=
  match S.actv tx with
  | none => (101, S)
  | some t => if u.toList ≠ [] ∧ Op.bytesLess f.toList u.toList = false then (0, S) else S.noteS I t ⟨tb, 2, f, u⟩ f u
/-- what Take leaves, and answers -/
def tk (most : Int) (L : List (Lk × Int)) (tx snap last : Int) (a : Lk) : Int × List (Lk × Int) :=
  match holder L a with
  | some h => if h = tx then (0, L) else (80, L)
  | none => if snap < last then (81, L) else if most ≤ L.length then (4, L) else (0, L ++ [(a, tx)])
def Sm.write (S : Sm ρ) (tx : Int) (a : Lk) (last : Int) : Int × Sm ρ :=
  match S.actv tx with
  | none => (101, S)
  | some t => if last < 0 then (1, S) else if holder S.locks a = some tx then (0, S)
    else if (tk S.caps.locks S.locks tx t.snap last a).1 ≠ 0 then ((tk S.caps.locks S.locks tx t.snap last a).1, S.gone I tx)
    else if S.txs.any (fun o => concB t o && (!o.act && decide (a ∈ o.wrote))) then (81, Sm.gone I { S with locks := (tk S.caps.locks S.locks tx t.snap last a).2 } tx)
    else Sm.put I { S with locks := (tk S.caps.locks S.locks tx t.snap last a).2 } t (fun o => decide (o.num ∈ I.rdrs S.reads a.1 a.2)) false
def Sm.begin (S : Sm ρ) : (Int × Int × Int) × Sm ρ :=
  if S.caps.active ≤ S.acts then ((0, 0, 4), S)
  else ((S.last + 1, S.now, 0), { S with last := S.last + 1, clock := S.clock + 1, txs := S.txs ++ [⟨S.last + 1, S.now, true, S.clock + 1, 0, false, false, []⟩] })
/-- one commits: its traces -/
def Sm.ends (S : Sm ρ) (tx : Int) : Sm ρ :=
  { S with now := if heldOf S.locks tx = [] then S.now else S.now + 1, clock := S.clock + 1, locks := S.locks.filter (fun p => p.2 != tx), txs := S.txs.map (fun o => if o.num == tx then { o with act := false, ended := S.clock + 1, wrote := heldOf S.locks tx } else o) }
def Sm.commit (S : Sm ρ) (tx : Int) : (Int × Int) × Sm ρ :=
  match S.actv tx with
  | none => ((0, 101), S)
  | some t => if t.fin && t.fout then ((0, 100), S.gone I tx)
    else if 1 < S.acts ∧ (heldOf S.locks tx ≠ [] ∨ I.has S.reads tx = true) ∧ S.caps.kept ≤ (S.txs.length : Int) - S.acts then ((0, 4), S.gone I tx)
    else (((S.ends tx).now, 0), Sm.forget I (if S.acts = 1 ∨ ¬ (heldOf S.locks tx ≠ [] ∨ I.has S.reads tx = true) then { S.ends tx with reads := I.drop S.reads tx, txs := (S.ends tx).txs.filter (fun o => o.num != tx) } else S.ends tx))
def Sm.abort (S : Sm ρ) (tx : Int) : Int × Sm ρ :=
  match S.actv tx with
  | none => (101, S)
  | some t => (0, S.gone I tx)
end
structure Ver where
  at_ : Lk
  num : Int
  by_ : Nat
  next : Int
structure Sw where
  at_ : Lk
  saw : Int
structure Run where
  tx : Int
  snap : Int
  begun : Int
  ended : Int
  committed : Bool
  over : Bool
  reads : List Sw
  writes : List Lk
structure Wld (ρ : Type) where
  m : Sm ρ
  rows : List Lk
  vers : List Ver
  list : List Run
  bad : Bool
structure Opn where
  kind : Int
  tx : Int
  at_ : Lk
  to_ : ByteArray
  last : Int
def hitV (a : Lk) (upto : Int) (v : Ver) : Bool := decide (v.at_ = a) && decide (v.num ≤ upto)
def newestN (vs : List Ver) (a : Lk) (upto : Int) : Nat → Int
  | 0 => -1
  | k + 1 => match vs[k]? with
    | some v => if hitV a upto v then (k : Int) else newestN vs a upto k
    | none => newestN vs a upto k
def newest (vs : List Ver) (a : Lk) (upto : Int) : Int := newestN vs a upto vs.length
def firstV (vs : List Ver) (a : Lk) : Int := if vs.findIdx (fun v => decide (v.at_ = a)) < vs.length then (vs.findIdx (fun v => decide (v.at_ = a)) : Int) else -1
/-- the place of one that is under way; -1: none -/
def ofR (l : List Run) (tx : Int) : Int := if l.findIdx (fun x => x.tx == tx && !x.over) < l.length then (l.findIdx (fun x => x.tx == tx && !x.over) : Int) else -1
def sees (vs : List Ver) (x : Run) (a : Lk) : Run := if a ∈ x.writes then x else { x with reads := x.reads ++ [⟨a, newest vs a x.snap⟩] }
def lay (vs : List Ver) (num : Int) (i : Nat) (a : Lk) : List Ver :=
  (if 0 ≤ newest vs a num then vs.modify (newest vs a num).toNat (fun v => { v with next := (vs.length : Int) }) else vs) ++ [⟨a, num, i, -1⟩]
def commitV (vs : List Ver) (ws : List Lk) (num : Int) (i : Nat) : List Ver := ws.foldl (fun vs a => lay vs num i a) vs
section
variable {ρ : Type} (I : RdI ρ)
/-- one that is over at a moment -/
def overR (x : Run) (moment : Int) : Run := { x with over := true, ended := moment }
/-- an operation of one that is under way, at place i -/
def Wld.opAt (W : Wld ρ) (o : Opn) (i : Nat) (x : Run) : Int × Wld ρ :=
  if o.kind = 1 then
    ((W.m.read I o.tx o.at_).1, { W with m := (W.m.read I o.tx o.at_).2, list := if (W.m.read I o.tx o.at_).1 = 0 then W.list.set i (sees W.vers x o.at_) else W.list })
  else if o.kind = 2 then
    ((W.m.scan I o.tx o.at_.1 o.at_.2 o.to_).1, { W with m := (W.m.scan I o.tx o.at_.1 o.at_.2 o.to_).2, list := if (W.m.scan I o.tx o.at_.1 o.at_.2 o.to_).1 = 0 then W.list.set i ((W.rows.filter (fun a => eqS a.1 o.at_.1 && inR a.2 o.at_.2 o.to_)).foldl (sees W.vers) x) else W.list })
  else if o.kind = 3 then
    let last := if 0 ≤ newest W.vers o.at_ 4611686018427387904 then ((W.vers[(newest W.vers o.at_ 4611686018427387904).toNat]?).map (·.num)).getD 0 else 0
    ((W.m.write I o.tx o.at_ last).1, { W with m := (W.m.write I o.tx o.at_ last).2, list := if (W.m.write I o.tx o.at_ last).1 = 0 ∧ o.at_ ∉ x.writes then W.list.set i { x with writes := x.writes ++ [o.at_] } else W.list })
  else if o.kind = 4 then
    if (W.m.commit I o.tx).1.2 = 0 then
      (0, ⟨(W.m.commit I o.tx).2, W.rows, commitV W.vers x.writes (W.m.commit I o.tx).1.1 i, W.list.set i { x with committed := true },
        W.bad || ((W.m.commit I o.tx).1.1 != (if x.writes = [] then W.m.now else W.m.now + 1) || (W.m.commit I o.tx).2.now != (if x.writes = [] then W.m.now else W.m.now + 1))⟩)
    else ((W.m.commit I o.tx).1.2, { W with m := (W.m.commit I o.tx).2 })
  else ((W.m.abort I o.tx).1, { W with m := (W.m.abort I o.tx).2 })
def Wld.step (W : Wld ρ) (o : Opn) (moment : Int) : Int × Wld ρ :=
  if o.kind = 0 then
    if W.m.begin.1.2.2 = 0 then (0, { W with m := W.m.begin.2, list := W.list ++ [⟨W.m.begin.1.1, W.m.begin.1.2.1, moment, 0, false, false, [], []⟩], bad := W.bad || W.m.begin.1.2.1 != W.m.begin.2.now })
    else (W.m.begin.1.2.2, { W with m := W.m.begin.2 })
  else match W.list[(ofR W.list o.tx).toNat]? with
    | none => (0, W)
    | some x => if ofR W.list o.tx < 0 then (0, W)
      else if o.kind < 1 ∨ 5 < o.kind then (0, W)
      else
        let r := W.opAt I o (ofR W.list o.tx).toNat x
        if r.1 ≠ 0 ∨ o.kind = 4 ∨ o.kind = 5 then (r.1, { r.2 with list := r.2.list.modify (ofR W.list o.tx).toNat (fun x => overR x moment) }) else r
end
def depsR (vs : List Ver) (i : Nat) (r : Sw) : List (Nat × Nat) :=
  let next := if 0 ≤ r.saw then ((vs[r.saw.toNat]?).map (·.next)).getD (-1) else firstV vs r.at_
  (if 0 ≤ r.saw then [(((vs[r.saw.toNat]?).map (·.by_)).getD 0, i)] else []) ++ (if 0 ≤ next then [(i, ((vs[next.toNat]?).map (·.by_)).getD 0)] else [])
def depsX (vs : List Ver) (i : Nat) (x : Run) : List (Nat × Nat) := if x.committed then x.reads.flatMap (depsR vs i) else []
def depsV (vs : List Ver) (v : Ver) : List (Nat × Nat) := if 0 ≤ v.next then [(v.by_, ((vs[v.next.toNat]?).map (·.by_)).getD 0)] else []
def depsW (vs : List Ver) (list : List Run) : List (Nat × Nat) := (list.mapIdx (depsX vs)).flatten ++ vs.flatMap (depsV vs)
end Go.Proofs.YthaoedfalkebbaaGreat
namespace Go.Proofs.YthaoedfalkebbaaGreat
set_option linter.unusedVariables false
set_option linter.unusedSectionVars false
structure Gh where
  cb : Int
  ce : Int
  fin : Bool
  fout : Bool
section
variable {ρ : Type} {I : RdI ρ} {ok : ρ → Prop} {most : Int}
structure MI (I : RdI ρ) (ok : ρ → Prop) (S : Sm ρ) (list : List Run) (G : List Gh) : Prop where
  len : G.length = list.length
  okr : ok S.reads
  last : S.last = (list.length : Int)
  num : ∀ (i : Nat) (x : Run), list[i]? = some x → x.tx = (i : Int) + 1
  tx : ∀ t ∈ S.txs, ∃ (i : Nat) (x : Run) (g : Gh), list[i]? = some x ∧ G[i]? = some g ∧ t.num = (i : Int) + 1 ∧ t.snap = x.snap ∧ t.begun = g.cb ∧ t.fin = g.fin ∧ t.fout = g.fout ∧ (t.act = true → x.over = false) ∧ (t.act = false → x.committed = true ∧ t.ended = g.ce ∧ ∀ a, a ∈ t.wrote ↔ a ∈ x.writes)
  dist : S.txs.Pairwise (fun a b => a.num < b.num)
  under : ∀ (i : Nat) x, list[i]? = some x → x.over = false → ∃ t ∈ S.txs, t.num = (i : Int) + 1 ∧ t.act = true
  kept : ∀ (i : Nat) x g, list[i]? = some x → G[i]? = some g → x.committed = true → (x.reads ≠ [] ∨ x.writes ≠ []) → (∃ a ∈ S.txs, a.act = true ∧ a.begun < g.ce) → ∃ t ∈ S.txs, t.num = (i : Int) + 1
  over : ∀ (i : Nat) x, list[i]? = some x → x.committed = true → x.over = true
  clock : ∀ (i : Nat) x g, list[i]? = some x → G[i]? = some g → g.cb ≤ S.clock ∧ (x.committed = true → g.cb < g.ce ∧ g.ce ≤ S.clock)
  neq : ∀ (i j : Nat) x g g', list[i]? = some x → x.committed = true → G[i]? = some g → G[j]? = some g' → g'.cb ≠ g.ce
  locks : ∀ (i : Nat) x, list[i]? = some x → x.over = false → heldOf S.locks ((i : Int) + 1) = x.writes
  lown : ∀ p ∈ S.locks, ∃ (i : Nat) (x : Run), list[i]? = some x ∧ x.over = false ∧ p.2 = (i : Int) + 1
  ldist : S.locks.Pairwise (fun p q => p.1 ≠ q.1)
  wnd : ∀ x ∈ list, x.writes.Nodup
  reads : ∀ t ∈ S.txs, ∀ (i : Nat) x, list[i]? = some x → t.num = (i : Int) + 1 → ∀ r ∈ x.reads, t.num ∈ I.rdrs S.reads r.at_.1 r.at_.2
  owners : ∀ n, I.has S.reads n = true → ∃ t ∈ S.txs, t.num = n
theorem dist_inj {l : List Tx} (h : l.Pairwise (fun a b => a.num < b.num)) {a b : Tx} (ha : a ∈ l) (hb : b ∈ l) (e : a.num = b.num) : a = b := by
  induction l with
  | nil => cases ha
  | cons c l ih =>
    rw [List.pairwise_cons] at h
    rcases List.mem_cons.1 ha with e1 | ha2 <;> rcases List.mem_cons.1 hb with e2 | hb2
    · rw [e1, e2]
    · have := h.1 b hb2; rw [← e1] at this; omega
    · have := h.1 a ha2; rw [← e2] at this; omega
    · exact ih h.2 ha2 hb2
theorem MI.pos {S : Sm ρ} {list : List Run} {G : List Gh} (M : MI I ok S list G) {t : Tx} (ht : t ∈ S.txs) : 1 ≤ t.num := by
  obtain ⟨i, x, g, _, _, e, _⟩ := M.tx t ht
  omega
theorem MI.of {S : Sm ρ} {list : List Run} {G : List Gh} (M : MI I ok S list G) {t : Tx} (ht : t ∈ S.txs) {i : Nat} {x : Run} {g : Gh} (hx : list[i]? = some x) (hg : G[i]? = some g) (e : t.num = (i : Int) + 1) : t.snap = x.snap ∧ t.begun = g.cb ∧ t.fin = g.fin ∧ t.fout = g.fout ∧ (t.act = true → x.over = false) ∧ (t.act = false → x.committed = true ∧ t.ended = g.ce ∧ ∀ a, a ∈ t.wrote ↔ a ∈ x.writes) := by
  obtain ⟨j, y, h, h1, h2, h3, h4⟩ := M.tx t ht
  obtain rfl : j = i := by omega
  rw [hx] at h1
  rw [hg] at h2
  cases h1
  cases h2
  exact h4
theorem MI.gh {S : Sm ρ} {list : List Run} {G : List Gh} (M : MI I ok S list G) {i : Nat} {x : Run} (hx : list[i]? = some x) : ∃ g, G[i]? = some g := by
  have := (List.getElem?_eq_some_iff.1 hx).1
  exact ⟨G[i]'(by rw [M.len]; exact this), List.getElem?_eq_getElem _⟩
theorem drops_ok (L : RdL I ok most) : ∀ (l : List Tx) (r : ρ), ok r → ok (l.foldl (fun r t => I.drop r t.num) r)
  | [], r, h => h
  | t :: l, r, h => drops_ok L l _ (L.drop_ok r t.num h)
theorem drops_rdrs (L : RdL I ok most) : ∀ (l : List Tx) (r : ρ) (tb key : ByteArray) (n : Int), ok r → (∀ t ∈ l, 1 ≤ t.num ∧ n ≠ t.num) → n ∈ I.rdrs r tb key → n ∈ I.rdrs (l.foldl (fun r t => I.drop r t.num) r) tb key
  | [], r, tb, key, n, h, hl, hn => hn
  | t :: l, r, tb, key, n, h, hl, hn => drops_rdrs L l _ tb key n (L.drop_ok r t.num h) (fun u hu => hl u (List.mem_cons_of_mem _ hu)) (L.drop_rdrs r t.num tb key n h (hl t List.mem_cons_self).1 (hl t List.mem_cons_self).2 hn)
theorem drops_has (L : RdL I ok most) : ∀ (l : List Tx) (r : ρ) (n : Int), ok r → (∀ t ∈ l, 1 ≤ t.num) → I.has (l.foldl (fun r t => I.drop r t.num) r) n = true → I.has r n = true ∧ ∀ t ∈ l, n ≠ t.num
  | [], r, n, h, hl, hn => ⟨hn, by simp⟩
  | t :: l, r, n, h, hl, hn => by
    obtain ⟨h1, h2⟩ := drops_has L l _ n (L.drop_ok r t.num h) (fun u hu => hl u (List.mem_cons_of_mem _ hu)) hn
    obtain ⟨h3, h4⟩ := L.drop_has r t.num n h (hl t List.mem_cons_self) h1
    refine ⟨h3, fun u hu => ?_⟩
    rcases List.mem_cons.1 hu with rfl | hu
    · exact h4
    · exact h2 u hu
theorem forget_MI (L : RdL I ok most) {S : Sm ρ} {list : List Run} {G : List Gh} (M : MI I ok S list G) : MI I ok (S.forget I) list G := by
  have hpos : ∀ t ∈ S.txs.filter (fun t => !keepB S.txs t), 1 ≤ t.num := fun t ht => M.pos (List.mem_filter.1 ht).1
  have hsub : ∀ t, t ∈ (S.forget I).txs ↔ t ∈ S.txs ∧ keepB S.txs t = true := fun t => List.mem_filter
  constructor
  · exact M.len
  · exact drops_ok L _ _ M.okr
  · exact M.last
  · exact M.num
  · exact fun t ht => M.tx t ((hsub t).1 ht).1
  · exact M.dist.sublist List.filter_sublist
  · intro i x hx ho
    obtain ⟨t, ht, h1, h2⟩ := M.under i x hx ho
    exact ⟨t, (hsub t).2 ⟨ht, by unfold keepB; rw [h2]; rfl⟩, h1, h2⟩
  · intro i x g hx hg hc hr ⟨a, ha, h1, h2⟩
    obtain ⟨t, ht, e⟩ := M.kept i x g hx hg hc hr ⟨a, ((hsub a).1 ha).1, h1, h2⟩
    refine ⟨t, (hsub t).2 ⟨ht, ?_⟩, e⟩
    have h4 := (M.of ht hx hg e).2.2.2.2
    unfold keepB
    cases hta : t.act with
    | true => rfl
    | false =>
      rw [Bool.false_or, List.any_eq_true]
      exact ⟨a, ((hsub a).1 ha).1, by rw [h1, (h4.2 hta).2.1]; simpa using h2⟩
  · exact M.over
  · exact M.clock
  · exact M.neq
  · exact M.locks
  · exact M.lown
  · exact M.ldist
  · exact M.wnd
  · intro t ht i x hx e r hr
    have h1 := (hsub t).1 ht
    refine drops_rdrs L _ _ _ _ _ M.okr (fun u hu => ⟨hpos u hu, fun e2 => ?_⟩) (M.reads t h1.1 i x hx e r hr)
    have h2 := List.mem_filter.1 hu
    have := dist_inj M.dist h1.1 h2.1 e2
    subst this
    simp [h1.2] at h2
  · intro n hn
    obtain ⟨h1, h2⟩ := drops_has L _ _ n M.okr hpos hn
    obtain ⟨t, ht, e⟩ := M.owners n h1
    refine ⟨t, (hsub t).2 ⟨ht, ?_⟩, e⟩
    cases hk : keepB S.txs t with
    | true => rfl
    | false => exact absurd e.symm (h2 t (List.mem_filter.2 ⟨ht, by simp [hk]⟩))
theorem set_cases {α : Type} {l : List α} {i j : Nat} {y z : α} (h : (l.set i y)[j]? = some z) : (j = i ∧ z = y) ∨ (j ≠ i ∧ l[j]? = some z) := by
  by_cases e : i = j
  · subst e
    rw [List.getElem?_set_self'] at h
    cases hl : l[i]? with
    | none => rw [hl] at h; simp at h
    | some a => rw [hl] at h; simp at h; exact .inl ⟨rfl, h.symm⟩
  · rw [List.getElem?_set_ne e] at h
    exact .inr ⟨fun h => e h.symm, h⟩
theorem set_at {α : Type} {l : List α} {i : Nat} {x y : α} (h : l[i]? = some x) : (l.set i y)[i]? = some y := by
  rw [List.getElem?_set_self', h]
  rfl
theorem set_ne {α : Type} {l : List α} {i j : Nat} {y : α} (h : j ≠ i) : (l.set i y)[j]? = l[j]? := List.getElem?_set_ne (fun e => h e.symm)
theorem heldOf_filter (L : List (Lk × Int)) {n m : Int} (h : m ≠ n) : heldOf (L.filter (fun p => p.2 != n)) m = heldOf L m := by
  unfold heldOf
  rw [List.filter_filter]
  congr 1
  apply List.filter_congr
  intro p _
  by_cases e : p.2 = m
  · have : p.2 ≠ n := by rw [e]; exact h
    simp [e, h]
  · simp [e]
/-- one that is under way is gone -/
theorem gone_MI (L : RdL I ok most) {S : Sm ρ} {list : List Run} {G : List Gh} (M : MI I ok S list G) {i : Nat} {x x' : Run} (hx : list[i]? = some x) (ho : x.over = false) (h1 : x'.tx = x.tx) (h2 : x'.over = true) (h3 : x'.committed = false) (h4 : x'.writes = x.writes) :
    MI I ok (S.gone I ((i : Int) + 1)) (list.set i x') G := by
  have hxc : x.committed = false := by
    cases h : x.committed with
    | false => rfl
    | true => have := M.over i x hx h; rw [ho] at this; cases this
  obtain ⟨ti, hti, eti, ati⟩ := M.under i x hx ho
  unfold Sm.gone
  have hsub : ∀ t, t ∈ S.txs.filter (fun t => t.num != (i : Int) + 1) ↔ t ∈ S.txs ∧ t.num ≠ (i : Int) + 1 := fun t => by rw [List.mem_filter]; simp
  refine forget_MI L ?_
  constructor
  · rw [List.length_set]; exact M.len
  · exact L.drop_ok _ _ M.okr
  · rw [List.length_set]; exact M.last
  · intro j y hy
    rcases set_cases hy with ⟨rfl, rfl⟩ | ⟨_, hy⟩
    · rw [h1]; exact M.num _ _ hx
    · exact M.num _ _ hy
  · intro t ht
    obtain ⟨ht, hne⟩ := (hsub t).1 ht
    obtain ⟨j, y, g, k1, k2, k3, k4⟩ := M.tx t ht
    exact ⟨j, y, g, by rw [set_ne (by omega)]; exact k1, k2, k3, k4⟩
  · exact M.dist.sublist List.filter_sublist
  · intro j y hy hyo
    rcases set_cases hy with ⟨rfl, rfl⟩ | ⟨hne, hy⟩
    · rw [h2] at hyo; cases hyo
    · obtain ⟨t, ht, k1, k2⟩ := M.under j y hy hyo
      exact ⟨t, (hsub t).2 ⟨ht, by omega⟩, k1, k2⟩
  · intro j y g hy hg hc hr ⟨a, ha, k1, k2⟩
    rcases set_cases hy with ⟨rfl, rfl⟩ | ⟨hne, hy⟩
    · rw [h3] at hc; cases hc
    · obtain ⟨t, ht, e⟩ := M.kept j y g hy hg hc hr ⟨a, ((hsub a).1 ha).1, k1, k2⟩
      exact ⟨t, (hsub t).2 ⟨ht, by omega⟩, e⟩
  · intro j y hy hc
    rcases set_cases hy with ⟨rfl, rfl⟩ | ⟨hne, hy⟩
    · exact h2
    · exact M.over j y hy hc
  · intro j y g hy hg
    rcases set_cases hy with ⟨rfl, rfl⟩ | ⟨hne, hy⟩
    · exact ⟨(M.clock _ _ _ hx hg).1, fun h => by rw [h3] at h; cases h⟩
    · exact M.clock j y g hy hg
  · intro j k y g g' hy hc hg hg'
    rcases set_cases hy with ⟨rfl, rfl⟩ | ⟨hne, hy⟩
    · rw [h3] at hc; cases hc
    · exact M.neq j k y g g' hy hc hg hg'
  · intro j y hy hyo
    rcases set_cases hy with ⟨rfl, rfl⟩ | ⟨hne, hy⟩
    · rw [h2] at hyo; cases hyo
    · rw [← M.locks j y hy hyo]
      exact heldOf_filter _ (by omega)
  · intro p hp
    obtain ⟨hp, hpn⟩ := List.mem_filter.1 hp
    obtain ⟨j, y, k1, k2, k3⟩ := M.lown p hp
    have : j ≠ i := fun e => by subst e; simp [k3] at hpn
    exact ⟨j, y, by rw [set_ne this]; exact k1, k2, k3⟩
  · exact M.ldist.sublist List.filter_sublist
  · intro y hy
    obtain ⟨j, hy⟩ := List.mem_iff_getElem?.1 hy
    rcases set_cases hy with ⟨rfl, rfl⟩ | ⟨hne, hy⟩
    · rw [h4]; exact M.wnd x (List.mem_of_getElem? hx)
    · exact M.wnd y (List.mem_of_getElem? hy)
  · intro t ht j y hy e r hr
    obtain ⟨ht, hne⟩ := (hsub t).1 ht
    rcases set_cases hy with ⟨rfl, rfl⟩ | ⟨_, hy⟩
    · exact absurd e hne
    · exact L.drop_rdrs _ _ _ _ _ M.okr (by omega) hne (M.reads t ht j y hy e r hr)
  · intro n hn
    obtain ⟨k1, k2⟩ := L.drop_has _ _ n M.okr (by omega) hn
    obtain ⟨t, ht, e⟩ := M.owners n k1
    exact ⟨t, (hsub t).2 ⟨ht, by omega⟩, e⟩
end
end Go.Proofs.YthaoedfalkebbaaGreat
namespace Go.Proofs.YthaoedfalkebbaaGreat
set_option linter.unusedVariables false
set_option linter.unusedSectionVars false
section
variable {ρ : Type} {I : RdI ρ} {ok : ρ → Prop} {most : Int}
/-- a step that changes flags alone -/
structure Flg (φ : Tx → Tx) : Prop where
  num : ∀ t, (φ t).num = t.num
  snap : ∀ t, (φ t).snap = t.snap
  act : ∀ t, (φ t).act = t.act
  begun : ∀ t, (φ t).begun = t.begun
  ended : ∀ t, (φ t).ended = t.ended
  wrote : ∀ t, (φ t).wrote = t.wrote
  fin : ∀ t, t.fin = true → (φ t).fin = true
  fout : ∀ t, t.fout = true → (φ t).fout = true
def upG (txs : List Tx) (φ : Tx → Tx) (G : List Gh) : List Gh := G.mapIdx (fun k g => match txs.find? (fun o => o.num == (k : Int) + 1) with
  | some o => { g with fin := (φ o).fin, fout := (φ o).fout }
  | none => g)
theorem find_num {txs : List Tx} (hd : txs.Pairwise (fun a b => a.num < b.num)) {t : Tx} (ht : t ∈ txs) {n : Int} (e : t.num = n) : txs.find? (fun o => o.num == n) = some t := by
  cases h : txs.find? (fun o => o.num == n) with
  | none =>
    rw [List.find?_eq_none] at h
    have := h t ht
    simp [e] at this
  | some u =>
    have h1 := List.find?_some h
    have h2 := List.mem_of_find?_eq_some h
    simp at h1
    rw [dist_inj hd h2 ht (by omega)]
theorem upG_len (txs : List Tx) (φ : Tx → Tx) (G : List Gh) : (upG txs φ G).length = G.length := by simp [upG]
theorem upG_at {txs : List Tx} {φ : Tx → Tx} {G : List Gh} {k : Nat} {g' : Gh} (h : (upG txs φ G)[k]? = some g') : ∃ g, G[k]? = some g ∧ g'.cb = g.cb ∧ g'.ce = g.ce ∧ ((∃ o ∈ txs, o.num = (k : Int) + 1 ∧ g'.fin = (φ o).fin ∧ g'.fout = (φ o).fout) ∨ ((∀ o ∈ txs, o.num ≠ (k : Int) + 1) ∧ g'.fin = g.fin ∧ g'.fout = g.fout)) := by
  unfold upG at h
  rw [List.getElem?_mapIdx] at h
  cases hg : G[k]? with
  | none => rw [hg] at h; cases h
  | some g =>
    rw [hg] at h
    simp only [Option.map_some, Option.some.injEq] at h
    refine ⟨g, rfl, ?_⟩
    cases hf : txs.find? (fun o => o.num == (k : Int) + 1) with
    | none =>
      rw [hf] at h
      subst h
      refine ⟨rfl, rfl, .inr ⟨fun o ho e => ?_, rfl, rfl⟩⟩
      rw [List.find?_eq_none] at hf
      have := hf o ho
      simp [e] at this
    | some o =>
      rw [hf] at h
      subst h
      have h1 := List.find?_some hf
      simp at h1
      exact ⟨rfl, rfl, .inl ⟨o, List.mem_of_find?_eq_some hf, h1, rfl, rfl⟩⟩
theorem upG_tx {S : Sm ρ} {list : List Run} {G : List Gh} (M : MI I ok S list G) {φ : Tx → Tx} {t : Tx} (ht : t ∈ S.txs) {k : Nat} (e : t.num = (k : Int) + 1) {g' : Gh} (h : (upG S.txs φ G)[k]? = some g') : g'.fin = (φ t).fin ∧ g'.fout = (φ t).fout := by
  obtain ⟨g, _, _, _, h3⟩ := upG_at h
  rcases h3 with ⟨o, ho, e2, h4, h5⟩ | ⟨h4, _⟩
  · obtain rfl := dist_inj M.dist ho ht (by omega)
    exact ⟨h4, h5⟩
  · exact absurd e (h4 t ht)
theorem upG_mono {S : Sm ρ} {list : List Run} {G : List Gh} (M : MI I ok S list G) {φ : Tx → Tx} (F : Flg φ) {k : Nat} {g' : Gh} (h : (upG S.txs φ G)[k]? = some g') : ∃ g, G[k]? = some g ∧ g'.cb = g.cb ∧ g'.ce = g.ce ∧ (g.fin = true → g'.fin = true) ∧ (g.fout = true → g'.fout = true) := by
  obtain ⟨g, h0, h1, h2, h3⟩ := upG_at h
  refine ⟨g, h0, h1, h2, ?_⟩
  rcases h3 with ⟨o, ho, e2, h4, h5⟩ | ⟨_, h4, h5⟩
  · obtain ⟨j, x, g2, k1, k2, k3, k4, k5, k6, k7, _⟩ := M.tx o ho
    obtain rfl : j = k := by omega
    rw [h0] at k2
    cases k2
    rw [h4, h5, ← k6, ← k7]
    exact ⟨F.fin o, F.fout o⟩
  · rw [h4, h5]; exact ⟨id, id⟩
theorem flag_MI {S : Sm ρ} {list : List Run} {G : List Gh} (M : MI I ok S list G) {φ : Tx → Tx} (F : Flg φ) : MI I ok { S with txs := S.txs.map φ } list (upG S.txs φ G) := by
  have hm : ∀ t, t ∈ S.txs.map φ ↔ ∃ o ∈ S.txs, φ o = t := fun t => List.mem_map
  constructor
  · rw [upG_len]; exact M.len
  · exact M.okr
  · exact M.last
  · exact M.num
  · intro t ht
    obtain ⟨o, ho, rfl⟩ := (hm t).1 ht
    obtain ⟨i, x, g, h1, h2, h3, h4, h5, h6, h7, h8, h9⟩ := M.tx o ho
    obtain ⟨g', hg'⟩ : ∃ g', (upG S.txs φ G)[i]? = some g' := ⟨_, List.getElem?_eq_getElem (by rw [upG_len]; exact (List.getElem?_eq_some_iff.1 h2).1)⟩
    obtain ⟨q1, q2⟩ := upG_tx M ho h3 hg'
    obtain ⟨g0, p0, p1, p2, _⟩ := upG_at hg'
    rw [h2] at p0
    cases p0
    refine ⟨i, x, g', h1, hg', by rw [F.num]; exact h3, by rw [F.snap]; exact h4, by rw [F.begun, p1]; exact h5, q1.symm, q2.symm, by rw [F.act]; exact h8, ?_⟩
    rw [F.act, F.ended, F.wrote, p2]
    exact h9
  · rw [List.pairwise_map]
    exact M.dist.imp (fun {a b} h => by rw [F.num, F.num]; exact h)
  · intro i x hx ho
    obtain ⟨t, ht, k1, k2⟩ := M.under i x hx ho
    exact ⟨φ t, (hm _).2 ⟨t, ht, rfl⟩, by rw [F.num]; exact k1, by rw [F.act]; exact k2⟩
  · intro i x g hx hg hc hr ⟨a, ha, k1, k2⟩
    obtain ⟨o, ho, rfl⟩ := (hm a).1 ha
    obtain ⟨g0, p0, p1, p2, _⟩ := upG_at hg
    rw [F.act] at k1
    rw [F.begun, p2] at k2
    obtain ⟨t, ht, e⟩ := M.kept i x g0 hx p0 hc hr ⟨o, ho, k1, k2⟩
    exact ⟨φ t, (hm _).2 ⟨t, ht, rfl⟩, by rw [F.num]; exact e⟩
  · exact M.over
  · intro i x g hx hg
    obtain ⟨g0, p0, p1, p2, _⟩ := upG_at hg
    rw [p1, p2]
    exact M.clock i x g0 hx p0
  · intro i j x g g' hx hc hg hg'
    obtain ⟨g0, p0, p1, p2, _⟩ := upG_at hg
    obtain ⟨g1, r0, r1, r2, _⟩ := upG_at hg'
    rw [r1, p2]
    exact M.neq i j x g0 g1 hx hc p0 r0
  · exact M.locks
  · exact M.lown
  · exact M.ldist
  · exact M.wnd
  · intro t ht i x hx e r hr
    obtain ⟨o, ho, rfl⟩ := (hm t).1 ht
    rw [F.num] at e ⊢
    exact M.reads o ho i x hx e r hr
  · intro n hn
    obtain ⟨t, ht, e⟩ := M.owners n hn
    exact ⟨φ t, (hm _).2 ⟨t, ht, rfl⟩, by rw [F.num]; exact e⟩
def putF (txs : List Tx) (t : Tx) (so : Tx → Bool) (out : Bool) (o : Tx) : Tx := if o.num == t.num then (if txs.any (fun o => concB t o && so o) then setF o (!out) else o) else if concB t o && so o then setF o out else o
theorem setF_flg (i : Bool) (o : Tx) : (setF o i).num = o.num ∧ (setF o i).snap = o.snap ∧ (setF o i).act = o.act ∧ (setF o i).begun = o.begun ∧ (setF o i).ended = o.ended ∧ (setF o i).wrote = o.wrote ∧ (o.fin = true → (setF o i).fin = true) ∧ (o.fout = true → (setF o i).fout = true) := by
  refine ⟨rfl, rfl, rfl, rfl, rfl, rfl, fun h => ?_, fun h => ?_⟩ <;> simp [setF, h]
theorem putF_flg (txs : List Tx) (t : Tx) (so : Tx → Bool) (out : Bool) : Flg (putF txs t so out) := by
  have H : ∀ o, putF txs t so out o = o ∨ ∃ i, putF txs t so out o = setF o i := fun o => by
    unfold putF
    split
    · split
      · exact .inr ⟨_, rfl⟩
      · exact .inl rfl
    · split
      · exact .inr ⟨_, rfl⟩
      · exact .inl rfl
  constructor <;> intro o <;> rcases H o with h | ⟨i, h⟩ <;> rw [h] <;> first | exact id | rfl | exact (setF_flg i o).2.2.2.2.2.2.1 | exact (setF_flg i o).2.2.2.2.2.2.2
theorem put_ok {S S' : Sm ρ} {t : Tx} {so : Tx → Bool} {out : Bool} (h : S.put I t so out = (0, S')) : S' = { S with txs := S.txs.map (putF S.txs t so out) } ∧ bothB t.fin t.fout (!out && S.txs.any (fun o => concB t o && so o)) (out && S.txs.any (fun o => concB t o && so o)) = false ∧ ∀ o ∈ S.txs, concB t o = true → so o = true → o.act = false → bothB o.fin o.fout out (!out) = false := by
  unfold Sm.put at h
  split at h
  · cases h
  · rename_i hb
    injection h with _ h
    refine ⟨h.symm, ?_⟩
    simp only [Bool.or_eq_true, not_or, Bool.not_eq_true] at hb
    refine ⟨hb.1, fun o ho h1 h2 h3 => ?_⟩
    have h4 := List.any_eq_false.1 hb.2 o ho
    simpa [h1, h2, h3] using h4
theorem put_bad {S S' : Sm ρ} {t : Tx} {so : Tx → Bool} {out : Bool} {e : Int} (h : S.put I t so out = (e, S')) (he : e ≠ 0) : e = 100 ∧ S' = S.gone I t.num := by
  unfold Sm.put at h
  split at h
  · injection h with h1 h2
    exact ⟨h1.symm, h2.symm⟩
  · injection h with h1 h2
    exact absurd h1.symm he
end
end Go.Proofs.YthaoedfalkebbaaGreat
namespace Go.Proofs.YthaoedfalkebbaaGreat
set_option linter.unusedVariables false
set_option linter.unusedSectionVars false
theorem newestN_eq {vs : List Ver} {a : Lk} {u : Int} : ∀ {n : Nat} {k : Nat} {v : Ver}, k < n → vs[k]? = some v → hitV a u v = true → (∀ m w, k < m → m < n → vs[m]? = some w → hitV a u w = false) → newestN vs a u n = (k : Int)
  | n + 1, k, v, hk, hv, h1, h2 => by
    unfold newestN
    rcases Nat.lt_or_ge k n with h | h
    · have ih := newestN_eq (n := n) h hv h1 (fun m w h3 h4 h5 => h2 m w h3 (by omega) h5)
      cases hn : vs[n]? with
      | none => exact ih
      | some w => simp only [h2 n w h (by omega) hn]; exact ih
    · obtain rfl : k = n := by omega
      rw [hv]
      simp only [h1, if_true]
theorem newestN_none {vs : List Ver} {a : Lk} {u : Int} : ∀ {n : Nat}, (∀ m w, m < n → vs[m]? = some w → hitV a u w = false) → newestN vs a u n = -1
  | 0, _ => rfl
  | n + 1, h => by
    unfold newestN
    have ih := newestN_none (n := n) (fun m w h1 h2 => h m w (by omega) h2)
    cases hn : vs[n]? with
    | none => exact ih
    | some w => simp only [h n w (by omega) hn]; exact ih
theorem newest_cases (vs : List Ver) (a : Lk) (u : Int) : (newest vs a u = -1 ∧ ∀ (m : Nat) w, vs[m]? = some w → hitV a u w = false) ∨ ∃ (k : Nat) (v : Ver), newest vs a u = (k : Int) ∧ vs[k]? = some v ∧ hitV a u v = true ∧ ∀ (m : Nat) w, k < m → vs[m]? = some w → hitV a u w = false := by
  have H : ∀ n, (∀ (m : Nat) w, m < n → vs[m]? = some w → hitV a u w = false) ∨ ∃ (k : Nat) (v : Ver), k < n ∧ vs[k]? = some v ∧ hitV a u v = true ∧ ∀ (m : Nat) w, k < m → m < n → vs[m]? = some w → hitV a u w = false := by
    intro n
    induction n with
    | zero => exact .inl (fun m w h => by omega)
    | succ n ih =>
      cases hn : vs[n]? with
      | none =>
        rcases ih with ih | ⟨k, v, h1, h2, h3, h4⟩
        · refine .inl fun m w hm hw => ?_
          rcases Nat.lt_or_ge m n with h | h
          · exact ih m w h hw
          · obtain rfl : m = n := by omega
            rw [hn] at hw
            cases hw
        · refine .inr ⟨k, v, by omega, h2, h3, fun m w h5 h6 hw => ?_⟩
          rcases Nat.lt_or_ge m n with h | h
          · exact h4 m w h5 h hw
          · obtain rfl : m = n := by omega
            rw [hn] at hw
            cases hw
      | some x =>
        cases hx : hitV a u x with
        | true => exact .inr ⟨n, x, by omega, hn, hx, fun m w h5 h6 => by omega⟩
        | false =>
          rcases ih with ih | ⟨k, v, h1, h2, h3, h4⟩
          · refine .inl fun m w hm hw => ?_
            rcases Nat.lt_or_ge m n with h | h
            · exact ih m w h hw
            · obtain rfl : m = n := by omega
              rw [hn] at hw
              cases hw
              exact hx
          · refine .inr ⟨k, v, by omega, h2, h3, fun m w h5 h6 hw => ?_⟩
            rcases Nat.lt_or_ge m n with h | h
            · exact h4 m w h5 h hw
            · obtain rfl : m = n := by omega
              rw [hn] at hw
              cases hw
              exact hx
  rcases H vs.length with h | ⟨k, v, h1, h2, h3, h4⟩
  · have h' : ∀ (m : Nat) w, vs[m]? = some w → hitV a u w = false := fun m w hw => h m w (List.getElem?_eq_some_iff.1 hw).1 hw
    exact .inl ⟨newestN_none (fun m w _ hw => h' m w hw), h'⟩
  · have h' : ∀ (m : Nat) w, k < m → vs[m]? = some w → hitV a u w = false := fun m w h5 hw => h4 m w h5 (List.getElem?_eq_some_iff.1 hw).1 hw
    exact .inr ⟨k, v, newestN_eq h1 h2 h3 h4, h2, h3, h'⟩
/-- what a later text holds besides, the number does not reach -/
theorem newest_ext {vs ws : List Ver} {a : Lk} {u : Int} (hl : vs.length ≤ ws.length) (hs : ∀ (k : Nat) (v w : Ver), vs[k]? = some v → ws[k]? = some w → v.at_ = w.at_ ∧ v.num = w.num) (hn : ∀ (k : Nat) (w : Ver), vs.length ≤ k → ws[k]? = some w → hitV a u w = false) : newest ws a u = newest vs a u := by
  have hit : ∀ (k : Nat) (v w : Ver), vs[k]? = some v → ws[k]? = some w → hitV a u w = hitV a u v := fun k v w h1 h2 => by
    obtain ⟨e1, e2⟩ := hs k v w h1 h2
    unfold hitV
    rw [e1, e2]
  rcases newest_cases vs a u with ⟨e, h⟩ | ⟨k, v, e, h1, h2, h3⟩
  · rw [e]
    refine newestN_none fun m w _ hw => ?_
    rcases Nat.lt_or_ge m vs.length with h4 | h4
    · rw [hit m _ w (List.getElem?_eq_getElem h4) hw]
      exact h m _ (List.getElem?_eq_getElem h4)
    · exact hn m w h4 hw
  · rw [e]
    have hk := (List.getElem?_eq_some_iff.1 h1).1
    have hw : ws[k]? = some (ws[k]'(by omega)) := List.getElem?_eq_getElem (by omega)
    refine newestN_eq (by omega) hw (by rw [hit k v _ h1 hw]; exact h2) fun m w h4 h5 h6 => ?_
    rcases Nat.lt_or_ge m vs.length with h7 | h7
    · rw [hit m _ w (List.getElem?_eq_getElem h7) h6]
      exact h3 m _ h4 (List.getElem?_eq_getElem h7)
    · exact hn m w h7 h6
def alive (x : Run) : Prop := x.over = false ∨ x.committed = true
structure SI (list : List Run) (G : List Gh) (vs : List Ver) (now : Int) : Prop where
  flags : ∀ (i j : Nat) x y g h, i ≠ j → list[i]? = some x → list[j]? = some y → G[i]? = some g → G[j]? = some h → alive x → alive y → (∃ r ∈ x.reads, r.at_ ∈ y.writes) → ¬ (x.committed = true ∧ g.ce < h.cb) → ¬ (y.committed = true ∧ h.ce < g.cb) → g.fout = true ∧ h.fin = true
  notboth : ∀ (i : Nat) x g, list[i]? = some x → G[i]? = some g → x.committed = true → ¬ (g.fin = true ∧ g.fout = true)
  fcw : ∀ (i j : Nat) x y g h, i ≠ j → list[i]? = some x → list[j]? = some y → G[i]? = some g → G[j]? = some h → alive x → y.committed = true → (∃ a ∈ x.writes, a ∈ y.writes) → h.ce < g.cb ∨ (x.committed = true ∧ g.ce < h.cb)
  vby : ∀ v ∈ vs, ∃ x g, list[v.by_]? = some x ∧ G[v.by_]? = some g ∧ x.committed = true ∧ v.at_ ∈ x.writes ∧ 0 ≤ v.num ∧ v.num ≤ now ∧ ∀ (i : Nat) y k, list[i]? = some y → G[i]? = some k → (v.num ≤ y.snap ↔ g.ce < k.cb)
  vall : ∀ (j : Nat) y, list[j]? = some y → y.committed = true → ∀ a ∈ y.writes, ∃ v ∈ vs, v.by_ = j ∧ v.at_ = a
  vord : vs.Pairwise (fun v u => v.num ≤ u.num ∧ (∀ g h, G[v.by_]? = some g → G[u.by_]? = some h → g.ce ≤ h.ce) ∧ (v.at_ = u.at_ → v.by_ ≠ u.by_))
  vnext : ∀ (k : Nat) v, vs[k]? = some v → 0 ≤ v.next → ∃ (m : Nat) (u : Ver), v.next = (m : Int) ∧ k < m ∧ vs[m]? = some u ∧ u.at_ = v.at_
  saw : ∀ x ∈ list, ∀ r ∈ x.reads, r.saw = newest vs r.at_ x.snap
  snap : ∀ x ∈ list, x.snap ≤ now
/-- flags grow -/
theorem SI.grow {list : List Run} {G G' : List Gh} {vs : List Ver} {now : Int} (s : SI list G vs now) (hG : ∀ (k : Nat) g', G'[k]? = some g' → ∃ g, G[k]? = some g ∧ g'.cb = g.cb ∧ g'.ce = g.ce ∧ (g.fin = true → g'.fin = true) ∧ (g.fout = true → g'.fout = true)) (hl : G'.length = G.length)
    (hb : ∀ (i : Nat) x g', list[i]? = some x → G'[i]? = some g' → x.committed = true → ¬ (g'.fin = true ∧ g'.fout = true)) : SI list G' vs now where
  flags := fun i j x y g h hij hx hy hg hh ax ay hr p1 p2 => by
    obtain ⟨g0, e0, c1, c2, m1, m2⟩ := hG i g hg
    obtain ⟨h0, e1, d1, d2, n1, n2⟩ := hG j h hh
    have := s.flags i j x y g0 h0 hij hx hy e0 e1 ax ay hr (by rw [← c2, ← d1]; exact p1) (by rw [← d2, ← c1]; exact p2)
    exact ⟨m2 this.1, n1 this.2⟩
  notboth := hb
  fcw := fun i j x y g h hij hx hy hg hh ax cy ha => by
    obtain ⟨g0, e0, c1, c2, _⟩ := hG i g hg
    obtain ⟨h0, e1, d1, d2, _⟩ := hG j h hh
    rw [c1, c2, d1, d2]
    exact s.fcw i j x y g0 h0 hij hx hy e0 e1 ax cy ha
  vby := fun v hv => by
    obtain ⟨x, g, h1, h2, h3, h4, h5, h6, h7⟩ := s.vby v hv
    obtain ⟨g', hg'⟩ : ∃ g', G'[v.by_]? = some g' := ⟨_, List.getElem?_eq_getElem (by rw [hl]; exact (List.getElem?_eq_some_iff.1 h2).1)⟩
    obtain ⟨g0, e0, c1, c2, _⟩ := hG _ _ hg'
    rw [h2] at e0
    cases e0
    refine ⟨x, g', h1, hg', h3, h4, h5, h6, fun i y k hy hk => ?_⟩
    obtain ⟨k0, e1, d1, d2, _⟩ := hG i k hk
    rw [c2, d1]
    exact h7 i y k0 hy e1
  vall := s.vall
  vord := s.vord.imp (fun {v u} ⟨a, b, c⟩ => ⟨a, fun g h hg hh => by
    obtain ⟨g0, e0, c1, c2, _⟩ := hG _ _ hg
    obtain ⟨h0, e1, d1, d2, _⟩ := hG _ _ hh
    rw [c2, d2]
    exact b g0 h0 e0 e1, c⟩)
  vnext := s.vnext
  saw := s.saw
  snap := s.snap
/-- a run that is no part of any version changes -/
theorem SI.change {list : List Run} {G : List Gh} {vs : List Ver} {now : Int} (s : SI list G vs now) {i : Nat} {x x' : Run} (hx : list[i]? = some x) (hc : x.committed = false) (hc' : x'.committed = false) (hsn : x'.snap = x.snap)
    (hf1 : ∀ (j : Nat) y g h, i ≠ j → list[j]? = some y → G[i]? = some g → G[j]? = some h → alive x' → alive y → (∃ r ∈ x'.reads, r.at_ ∈ y.writes) → ¬ (y.committed = true ∧ h.ce < g.cb) → g.fout = true ∧ h.fin = true)
    (hf2 : ∀ (j : Nat) y g h, j ≠ i → list[j]? = some y → G[j]? = some g → G[i]? = some h → alive y → alive x' → (∃ r ∈ y.reads, r.at_ ∈ x'.writes) → ¬ (y.committed = true ∧ g.ce < h.cb) → g.fout = true ∧ h.fin = true)
    (hw : ∀ (j : Nat) y g h, i ≠ j → list[j]? = some y → G[i]? = some g → G[j]? = some h → alive x' → y.committed = true → (∃ a ∈ x'.writes, a ∈ y.writes) → h.ce < g.cb)
    (hs : ∀ r ∈ x'.reads, r.saw = newest vs r.at_ x.snap) : SI (list.set i x') G vs now where
  flags := fun a b y z g h hab hy hz hg hh ay az hr p1 p2 => by
    rcases set_cases hy with ⟨e1, e3⟩ | ⟨h1, hy2⟩ <;> rcases set_cases hz with ⟨e2, e4⟩ | ⟨h2, hz2⟩
    · exact absurd (e1.trans e2.symm) hab
    · rw [e3] at ay hr
      rw [e1] at hg hab
      exact hf1 b z g h hab hz2 hg hh ay az hr p2
    · rw [e4] at az hr
      rw [e2] at hh hab
      exact hf2 a y g h hab hy2 hg hh ay az hr p1
    · exact s.flags a b y z g h hab hy2 hz2 hg hh ay az hr p1 p2
  notboth := fun a y g hy hg hcy => by
    rcases set_cases hy with ⟨rfl, rfl⟩ | ⟨h1, hy⟩
    · rw [hc'] at hcy; cases hcy
    · exact s.notboth a y g hy hg hcy
  fcw := fun a b y z g h hab hy hz hg hh ay cz ha => by
    rcases set_cases hz with ⟨e2, e4⟩ | ⟨h2, hz2⟩
    · rw [e4, hc'] at cz; cases cz
    · rcases set_cases hy with ⟨e1, e3⟩ | ⟨h1, hy2⟩
      · rw [e3] at ay ha
        rw [e1] at hg hab
        exact .inl (hw b z g h hab hz2 hg hh ay cz ha)
      · exact s.fcw a b y z g h hab hy2 hz2 hg hh ay cz ha
  vby := fun v hv => by
    obtain ⟨y, g, h1, h2, h3, h4, h5, h6, h7⟩ := s.vby v hv
    have hne : v.by_ ≠ i := fun e => by rw [e, hx] at h1; cases h1; rw [hc] at h3; cases h3
    refine ⟨y, g, by rw [set_ne hne]; exact h1, h2, h3, h4, h5, h6, fun a z k hz hk => ?_⟩
    rcases set_cases hz with ⟨rfl, rfl⟩ | ⟨_, hz⟩
    · rw [hsn]; exact h7 _ x k hx hk
    · exact h7 a z k hz hk
  vall := fun j y hy hcy a ha => by
    rcases set_cases hy with ⟨rfl, rfl⟩ | ⟨_, hy⟩
    · rw [hc'] at hcy; cases hcy
    · exact s.vall j y hy hcy a ha
  vord := s.vord
  vnext := s.vnext
  saw := fun y hy r hr => by
    obtain ⟨j, hy⟩ := List.mem_iff_getElem?.1 hy
    rcases set_cases hy with ⟨rfl, rfl⟩ | ⟨_, hy⟩
    · rw [hsn]; exact hs r hr
    · exact s.saw y (List.mem_of_getElem? hy) r hr
  snap := fun y hy => by
    obtain ⟨j, hy⟩ := List.mem_iff_getElem?.1 hy
    rcases set_cases hy with ⟨rfl, rfl⟩ | ⟨_, hy⟩
    · rw [hsn]; exact s.snap x (List.mem_of_getElem? hx)
    · exact s.snap y (List.mem_of_getElem? hy)
/-- one is over, and has not committed -/
theorem SI.gone {list : List Run} {G : List Gh} {vs : List Ver} {now : Int} (s : SI list G vs now) {i : Nat} {x x' : Run} (hx : list[i]? = some x) (hc : x.committed = false) (hc' : x'.committed = false) (ho : x'.over = true) (hsn : x'.snap = x.snap) (hr : x'.reads = x.reads) : SI (list.set i x') G vs now := by
  have hd : ¬ alive x' := fun h => by rcases h with h | h <;> simp_all
  exact s.change hx hc hc' hsn (fun j y g h _ _ _ _ h1 => absurd h1 hd) (fun j y g h _ _ _ _ _ h1 => absurd h1 hd) (fun j y g h _ _ _ _ h1 => absurd h1 hd) (fun r h => by rw [hr] at h; exact s.saw x (List.mem_of_getElem? hx) r h)
/-- one begins -/
theorem SI.begin {list : List Run} {G : List Gh} {vs : List Ver} {now : Int} (s : SI list G vs now) {x : Run} {g : Gh} (hl : G.length = list.length) (hc : x.committed = false) (hr : x.reads = []) (hw : x.writes = []) (hsn : x.snap = now) (hcb : ∀ (i : Nat) y k, list[i]? = some y → G[i]? = some k → y.committed = true → k.ce < g.cb) : SI (list ++ [x]) (G ++ [g]) vs now := by
  have hL : ∀ {j : Nat} {y : Run}, (list ++ [x])[j]? = some y → (j < list.length ∧ list[j]? = some y) ∨ (j = list.length ∧ y = x) := fun {j y} h => by
    rcases Nat.lt_or_ge j list.length with h1 | h1
    · rw [List.getElem?_append_left h1] at h; exact .inl ⟨h1, h⟩
    · rw [List.getElem?_append_right h1] at h
      have := (List.getElem?_eq_some_iff.1 h).1
      simp at this
      obtain rfl : j = list.length := by omega
      simp at h
      exact .inr ⟨rfl, h.symm⟩
  have hG : ∀ {j : Nat} {k : Gh}, (G ++ [g])[j]? = some k → (j < list.length ∧ G[j]? = some k) ∨ (j = list.length ∧ k = g) := fun {j k} h => by
    rcases Nat.lt_or_ge j G.length with h1 | h1
    · rw [List.getElem?_append_left h1] at h; exact .inl ⟨by omega, h⟩
    · rw [List.getElem?_append_right h1] at h
      have := (List.getElem?_eq_some_iff.1 h).1
      simp at this
      obtain rfl : j = G.length := by omega
      simp at h
      exact .inr ⟨hl, h.symm⟩
  have up : ∀ {j : Nat} {y : Run}, list[j]? = some y → (list ++ [x])[j]? = some y := fun {j y} h => by rw [List.getElem?_append_left (List.getElem?_eq_some_iff.1 h).1]; exact h
  have upG : ∀ {j : Nat} {y : Gh}, G[j]? = some y → (G ++ [g])[j]? = some y := fun {j y} h => by rw [List.getElem?_append_left (List.getElem?_eq_some_iff.1 h).1]; exact h
  refine ⟨?_, ?_, ?_, ?_, ?_, ?_, s.vnext, ?_, ?_⟩
  · intro i j y z k h hij hy hz hk hh ay az hre p1 p2
    rcases hL hy with ⟨l1, hy⟩ | ⟨l1, rfl⟩
    · rcases hL hz with ⟨l2, hz⟩ | ⟨l2, rfl⟩
      · rcases hG hk with ⟨_, hk⟩ | ⟨l3, _⟩
        · rcases hG hh with ⟨_, hh⟩ | ⟨l4, _⟩
          · exact s.flags i j y z k h hij hy hz hk hh ay az hre p1 p2
          · omega
        · omega
      · obtain ⟨r, _, h2⟩ := hre
        rw [hw] at h2; cases h2
    · obtain ⟨r, h2, _⟩ := hre
      rw [hr] at h2; cases h2
  · intro i y k hy hk hcy
    rcases hL hy with ⟨l1, hy⟩ | ⟨l1, rfl⟩
    · rcases hG hk with ⟨_, hk⟩ | ⟨l3, _⟩
      · exact s.notboth i y k hy hk hcy
      · omega
    · rw [hc] at hcy; cases hcy
  · intro i j y z k h hij hy hz hk hh ay cz ha
    rcases hL hz with ⟨l2, hz⟩ | ⟨l2, rfl⟩
    · rcases hL hy with ⟨l1, hy⟩ | ⟨l1, rfl⟩
      · rcases hG hk with ⟨_, hk⟩ | ⟨l3, _⟩
        · rcases hG hh with ⟨_, hh⟩ | ⟨l4, _⟩
          · exact s.fcw i j y z k h hij hy hz hk hh ay cz ha
          · omega
        · omega
      · obtain ⟨a, h2, _⟩ := ha
        rw [hw] at h2; cases h2
    · rw [hc] at cz; cases cz
  · intro v hv
    obtain ⟨y, k, h1, h2, h3, h4, h5, h6, h7⟩ := s.vby v hv
    refine ⟨y, k, up h1, upG h2, h3, h4, h5, h6, fun i z q hz hq => ?_⟩
    rcases hL hz with ⟨l1, hz⟩ | ⟨l1, rfl⟩
    · rcases hG hq with ⟨_, hq⟩ | ⟨l3, _⟩
      · exact h7 i z q hz hq
      · omega
    · rcases hG hq with ⟨l3, _⟩ | ⟨_, rfl⟩
      · omega
      · rw [hsn]
        exact ⟨fun _ => hcb _ y k h1 h2 h3, fun _ => h6⟩
  · intro j y hy hcy a ha
    rcases hL hy with ⟨_, hy⟩ | ⟨_, rfl⟩
    · exact s.vall j y hy hcy a ha
    · rw [hc] at hcy; cases hcy
  · have hb : ∀ v ∈ vs, v.by_ < G.length := fun v hv => by
      obtain ⟨y, k, h1, h2, _⟩ := s.vby v hv
      exact (List.getElem?_eq_some_iff.1 h2).1
    refine List.Pairwise.imp_of_mem (fun {v u} hv hu ⟨q1, q2, q3⟩ => ⟨q1, fun k h hk hh => ?_, q3⟩) s.vord
    rw [List.getElem?_append_left (hb v hv)] at hk
    rw [List.getElem?_append_left (hb u hu)] at hh
    exact q2 k h hk hh
  · intro y hy r hre
    rcases List.mem_append.1 hy with hy | hy
    · exact s.saw y hy r hre
    · rw [List.mem_singleton.1 hy, hr] at hre; cases hre
  · intro y hy
    rcases List.mem_append.1 hy with hy | hy
    · exact s.snap y hy
    · rw [List.mem_singleton.1 hy, hsn]; exact Int.le_refl _
end Go.Proofs.YthaoedfalkebbaaGreat
