import Derived.Test.YteikmnokmcnmcaaGreatME
namespace Go.Proofs.YteikmnokmcnmcaaGreat
open Go.RowKit Go.Maps Go.Sort Go.Lib Go.Proofs.YteikmnokmcnmcaaGreatW.PrintWords Go.Proofs.YteikmnokmcnmcaaGreatW.PrintLast Go.Proofs.YteikmnokmcnmcaaGreatW.PrintMore
set_option linter.unusedVariables false
set_option linter.unusedSimpArgs false
set_option linter.unusedSectionVars false
/-! ### Txns, Contains, without, inner -/
def TJ (w : World) (b r : Nat) (L : List (Pl × Sv)) (v : Value) (wr : World) : Prop :=
  ∃ vis rem : List (Pl × Sv), (vis ++ rem).Perm L ∧ RngN wr b r L.length L rem ∧ w.heap.size ≤ r ∧ dI.R 2 wr w.heap.size (fun k => r < k) v (vis.map (·.1.1)) ∧ Below w.heap.size w wr
set_option maxHeartbeats 8000000 in
set_option maxRecDepth 100000 in
theorem Txns_calls (base p b : Nat) (most many : Int) (L : List (Pl × Sv)) (R : Pl → List Rd) (w : World) (h : Mr w base p b most many L R) (hL : L.length ≤ 65536) :
    Calls Tryz.prog 11 #[.pointer (some ⟨p, 0, none⟩)] w fun e w' => ∃ v, e = .returned v ∧ dI.R 2 w' w.heap.size (fun _ => True) v (rise (L.map (·.1.1))) ∧ Below w.heap.size w w' := by
  obtain ⟨c0, c1, c2⟩ := h.cell
  have N := none_calls p b w c1
  have hblt : b < w.heap.size := h.tab.lt
  obtain ⟨w2, hrun, hRg, hg2, hs2⟩ := Tab.range (t := 55) keyP Tryz.underlying55 (h.tab : TabN w b L.length L)
  go_enter Tryz.func11, Tryz.ntmps11
  go_wp2_with fail
  refine N.mono ?_
  rintro e w' ⟨rfl, rfl⟩
  go_wp2_with fail
  go_loopw [3] (fun v wr => TJ w b w.heap.size L v wr) (fun _ wr => wr.rangeLeft b w.heap.size)
  case atStart =>
    exact ⟨[], L, List.Perm.refl _, hRg, Nat.le_refl _, Kd.R_nil _ _ _ _ _, (Below.refl _ w).grown hg2 (Nat.le_refl _) (by simp)⟩
  case round =>
    obtain ⟨vis, rem, hp, hr, hle, hv, hB⟩ := hrel
    have hlenp := hp.length_eq
    rw [List.length_append] at hlenp
    rcases hr.next keyP valS 0 with ⟨hnil, hrun1⟩ | ⟨a, sv, w3, hmem, hok, hrun1, hr3, hlt, hg3, hs3, hent⟩
    · subst hnil
      rw [List.append_nil] at hp
      have hbase0 := Kd.R_base hv
      have S := rising_calls wr w.heap.size _ u3 _ hv (by rw [List.length_map]; omega)
      rw [rise_congr (fun x => (hp.map _).mem_iff)] at S
      go_wp2_with fail
      refine S.mono ?_
      rintro e w4 ⟨v4, rfl, H4, G4, e4⟩
      go_wp2
      go_ret
      exact ⟨_, rfl, ⟨fun _ _ => trivial, H4.2⟩, hB.grown G4 hB.size (fun k hk => hbase0 k hk)⟩
    · unfold mkP at hrun1 hent
      have hB3 : Below w.heap.size w w3 := hB.grown hg3 hB.size (fun k e => by injection e with e; omega)
      have hv3 : dI.R 2 w3 w.heap.size (fun k => w.heap.size < k) u3 (vis.map (·.1.1)) := Kd.R_grown hv hg3 (fun k hk e => by injection e with e; omega)
      obtain ⟨W, hW⟩ : ∃ W, W = w3.alloc (.cells #[.int .i64 a.1, .string a.2] 54) := ⟨_, rfl⟩
      have BA : Below w3.heap.size w3 W := by rw [hW]; exact (Below.refl _ w3).alloc (Nat.le_refl _) _
      have hrl : w.heap.size < wr.heap.size := hr.lt
      have hop : W.heap[wr.heap.size]? = some (.cells #[.int .i64 a.1, .string a.2] 54 (0, 0)) := by rw [hW, ← hs3]; exact heap_alloc_new w3 _
      have p0 := cell_of_row W _ 0 _ 54 (0, 0) hop
      have BW := below_then hB3 hB3.size BA
      have hvW : dI.R 2 W w.heap.size (fun k => w.heap.size < k) u3 (vis.map (·.1.1)) := Kd.R_below hv3 BA
      obtain ⟨hrW, elW⟩ := hr3.kept (grown_of_below BA none) (by simp) (by simp)
      have hbase0 := Kd.R_base hvW
      have hlen : (vis.map (·.1.1)).length ≤ 65536 := by rw [List.length_map]; omega
      have fin : ∀ v1 w6, dI.R 2 w6 w.heap.size (fun k => w.heap.size < k) v1 (vis.map (·.1.1) ++ [a.1]) → Below w.heap.size w w6 → W.grownBy w6 u3.ownBlock → TJ w b w.heap.size L v1 w6 ∧ w6.rangeLeft b w.heap.size < wr.rangeLeft b w.heap.size := by
        intro v1 w6 H6 B6 G6
        obtain ⟨hr7, el2⟩ := hrW.kept G6 (fun e => by have := hbase0 _ e.symm; omega) (fun e => by have := hvW.1 _ e.symm; omega)
        refine ⟨⟨vis ++ [(a, sv)], _, perm_next hr.apart hp hmem, hr7, Nat.le_refl _, ?_, B6⟩, by rw [el2, elW]; exact hlt⟩
        rw [List.map_append]
        exact H6
      have hWs : w.heap.size < W.heap.size := by have := (Array.getElem?_eq_some_iff.1 hop).1; omega
      replace h := Aside0.mk h
      go_upto_region 7 with (fail)
      rw [← hW]
      clear hW
      go_wp2_with (at_builtin; refine appI (v := u3) rfl rfl rfl rfl hvW BW hlen rfl (fun k hk => by omega) ?_; intro v1 w6 H6 B6 G6)
      exact fin _ _ H6 B6 G6
theorem Txns_S (base p : Nat) (most : Int) (S : St) (w : World) (h : MrS w base p most S) :
    Calls Tryz.prog 11 #[.pointer (some ⟨p, 0, none⟩)] w fun e w' => ∃ v, e = .returned v ∧ dI.R 2 w' w.heap.size (fun _ => True) v (rise (S.K.map (·.1))) ∧ Below w.heap.size w w' := by
  obtain ⟨⟨b, L, M, hk, hbb⟩, hI, hn, h3, h4⟩ := h
  have hL : L.length ≤ 65536 := by
    have h1 : L.length = S.K.length := by rw [← hk, List.length_map]
    have := hI.card
    omega
  have O := Txns_calls base p b most S.n L S.R w M hL
  rw [show L.map (·.1.1) = S.K.map (·.1) by rw [← hk, List.map_map]; rfl] at O
  exact O
/-- a row of whole numbers -/
abbrev RowI (w : World) (base : Nat) (v : Value) (xs : List Int) : Prop := Lo encI 1 2 w base v xs
end Go.Proofs.YteikmnokmcnmcaaGreat
namespace Go.Proofs.YteikmnokmcnmcaaGreat
open Go.RowKit Go.Maps Go.Sort Go.Lib Go.Proofs.YteikmnokmcnmcaaGreatW.PrintWords Go.Proofs.YteikmnokmcnmcaaGreatW.PrintLast Go.Proofs.YteikmnokmcnmcaaGreatW.PrintMore
set_option linter.unusedVariables false
set_option linter.unusedSimpArgs false
set_option linter.unusedSectionVars false
/-! ### Drop -/
section
variable {P : Program} {α β : Type} [DecidableEq α] {k : TypeId} {mk : α → Value} {ok : α → Prop} {R : Value → Option (DataW Unit × List MemPlace)} {cd : β → DataW Unit}
theorem Rng.drop {t e : TypeId} (K : KeyAs P k mk ok) (ht : P.underlying t = some (.map k e)) {w : World} {b r n : Nat} {L rem : List (α × β)} (h : Rng P k mk ok R cd w b r n L rem) {a : α} (ha : ok a) (ty : TypeId) :
    ∃ w', (Builtin.delete_ #[t, k] ty #[.map (some b), mk a]).run P w = .ok (.tuple #[]) w' ∧ Rng P k mk ok R cd w' b r n (L.filter (fun p => p.1 ≠ a)) (rem.filter (fun p => p.1 ≠ a)) ∧ w'.rangeLeft b r ≤ w.rangeLeft b r ∧ w.mapTurned w' b := by
  obtain ⟨D, left, h1, h2, h3, h4, h5⟩ := h
  obtain ⟨kl, hk⟩ := K.lit a ha
  obtain ⟨w', cnt', hrun, h6, hle, hturn⟩ := h1.drop K.keyed ht hk ty
  have e2 := h6.left_eq
  refine ⟨w', hrun, ⟨D.del kl, _, by rw [e2]; exact h6, h2.del K (h1.owns.tidy K.keyed) hk, h3.filter _, fun p hp => ?_, fun a' kl' hk' => ?_⟩, by rw [e2]; exact hle, hturn⟩
  · obtain ⟨hp1, hp2⟩ := List.mem_filter.1 hp
    exact List.mem_filter.2 ⟨h4 p hp1, hp2⟩
  · by_cases e3 : a' = a
    · subst e3
      have : kl' = kl := (same_key K hk' hk).2 rfl
      subst this
      rw [WideAt.sameKey_self (K.keyed.key hk)]
      simp
    · have hne : kl' ≠ kl := fun e' => e3 ((same_key K hk' hk).1 e')
      rw [sameKey_ne hne]
      simp only [Bool.not_false, Bool.and_true]
      rw [h5 a' kl' hk']
      simp [e3]
end
set_option maxHeartbeats 1000000 in
set_option maxRecDepth 100000 in
theorem closure45_no (q : Pl) (u : Value) (bt bp : Nat) (t : Int) (w : World) (h1 : w.heap[bt]? = some (.cells #[.int .i64 t] 2 (0, 0))) (hne : q.1 ≠ t) :
    Calls Tryz.prog 48 #[.agg #[.int .i64 q.1, .string q.2], u, .pointer (some ⟨bt, 0, none⟩), .pointer (some ⟨bp, 0, none⟩)] w fun e w' => e = .returned (.bool false) ∧ Below w.heap.size w w' := by
  obtain ⟨w1, hw1⟩ : ∃ w1, w1 = w.alloc (.cells #[.int .i64 q.1, .string q.2] 54) := ⟨_, rfl⟩
  have B1 : Below w.heap.size w w1 := by rw [hw1]; exact (Below.refl _ w).alloc (Nat.le_refl _) _
  have o1 : w1.heap[w.heap.size]? = some (boxP q) := by rw [hw1]; exact heap_alloc_new w _
  have c0 := cell_of_row w1 _ 0 _ 54 (0, 0) o1
  have d0 := cell_of_row w1 bt 0 _ 2 (0, 0) (blk_below h1 B1)
  have hne' : (q.1 != t) = true := by simpa using hne
  clear o1 hne
  go_enter Tryz.func48, Tryz.ntmps48
  go_upto_region 1 with (fail)
  rw [← hw1]
  clear hw1
  go_wp2
  go_ret
  exact ⟨rfl, B1⟩
set_option maxHeartbeats 1000000 in
set_option maxRecDepth 100000 in
theorem closure45_yes (q : Pl) (A : Option Addr) (n c : Nat) (bt bp p b : Nat) (t most many : Int) (w : World) (h1 : w.heap[bt]? = some (.cells #[.int .i64 t] 2 (0, 0))) (h2 : w.heap[bp]? = some (.cells #[.pointer (some ⟨p, 0, none⟩)] 23 (0, 0)))
    (h3 : w.heap[p]? = some (.cells #[.int .i64 most, .map (some b), .int .i64 many] 57 (0, 0))) (he : q.1 = t) (hn : n ≤ 65536) (hm : 0 ≤ many) (hm2 : many ≤ 65536) :
    Calls Tryz.prog 48 #[.agg #[.int .i64 q.1, .string q.2], .slice A n c, .pointer (some ⟨bt, 0, none⟩), .pointer (some ⟨bp, 0, none⟩)] w fun e w' => e = .returned (.bool true) ∧ w.grownBy w' (some p) ∧ w'.heap[p]? = some (.cells #[.int .i64 most, .map (some b), .int .i64 (many - n)] 57 (0, 0)) := by
  obtain ⟨w1, hw1⟩ : ∃ w1, w1 = w.alloc (.cells #[.int .i64 q.1, .string q.2] 54) := ⟨_, rfl⟩
  have B1 : Below w.heap.size w w1 := by rw [hw1]; exact (Below.refl _ w).alloc (Nat.le_refl _) _
  have o1 : w1.heap[w.heap.size]? = some (boxP q) := by rw [hw1]; exact heap_alloc_new w _
  have c0 := cell_of_row w1 _ 0 _ 54 (0, 0) o1
  have d0 := cell_of_row w1 bt 0 _ 2 (0, 0) (blk_below h1 B1)
  have f0 := cell_of_row w1 bp 0 _ 23 (0, 0) (blk_below h2 B1)
  have op := blk_below h3 B1
  have m2 := cell_of_row w1 p 2 _ 57 (0, 0) op
  have fz := blk_fz op 2
  have hne' : (q.1 != t) = false := by simpa using he
  have fin := blk_set op 2 (.int .i64 (many - n))
  have G := grown_set w1 p 2 (.int .i64 (many - n))
  clear o1 he op
  replace fin := Aside0.mk fin
  replace G := Aside0.mk G
  go_enter Tryz.func48, Tryz.ntmps48
  go_upto_region 1 with (fail)
  rw [← hw1]
  clear hw1
  go_wp2
  go_ret
  exact ⟨rfl, trans_grown (grown_of_below B1 _) G.out, fin.out⟩
theorem sumR_del (R : Pl → List Rd) (a : Pl) (sv : Sv) : ∀ L : List (Pl × Sv), L.Pairwise (fun p p' => p.1 ≠ p'.1) → (a, sv) ∈ L → sumR (L.filter (fun p => p.1 ≠ a)) R + (R a).length = sumR L R
  | [], _, h => by cases h
  | e :: L, hp, h => by
    rw [List.pairwise_cons] at hp
    by_cases he : e.1 = a
    · have hf : L.filter (fun p => p.1 ≠ a) = L := List.filter_eq_self.2 (fun p hp' => by simpa using fun e2 => hp.1 p hp' (he.trans e2.symm))
      rw [List.filter_cons, if_neg (by simp [he]), hf]
      simp [sumR, he]
      omega
    · have hm : (a, sv) ∈ L := by
        rcases List.mem_cons.1 h with h | h
        · exact absurd (by rw [← h]) he
        · exact h
      have ih := sumR_del R a sv L hp.2 hm
      rw [List.filter_cons, if_pos (by simp [he])]
      simp only [sumR, List.map_cons, List.sum_cons] at ih ⊢
      omega
/-- what a step leaves that changes block p and whatever is no cells -/
structure But (base p : Nat) (w w' : World) : Prop where
  below : Below base w w'
  size : w.heap.size ≤ w'.heap.size
  cells : ∀ k c e s, k ≠ p → w.heap[k]? = some (.cells c e s) → w'.heap[k]? = some (.cells c e s)
theorem But.refl (base p : Nat) (w : World) : But base p w w := ⟨Below.refl _ _, Nat.le_refl _, fun _ _ _ _ _ h => h⟩
theorem But.grown {base p : Nat} {w w1 w2 : World} (h : But base p w w1) (hb : base ≤ w1.heap.size) (g : w1.grownBy w2 none) : But base p w w2 := ⟨h.below.grown g hb (by simp), Nat.le_trans h.size g.size, fun k c e s hk hw => (g.block k (Array.getElem?_eq_some_iff.1 (h.cells k c e s hk hw)).1 (by simp)).trans (h.cells k c e s hk hw)⟩
theorem But.atP {base p : Nat} {w w1 w2 : World} (h : But base p w w1) (hb : base ≤ w1.heap.size) (hp : base ≤ p) (g : w1.grownBy w2 (some p)) : But base p w w2 := ⟨h.below.grown g hb (fun k e => by injection e with e; omega), Nat.le_trans h.size g.size, fun k c e s hk hw => (g.block k (Array.getElem?_eq_some_iff.1 (h.cells k c e s hk hw)).1 (by simpa using hk)).trans (h.cells k c e s hk hw)⟩
theorem But.atMap {base p b : Nat} {w w1 w2 : World} (h : But base p w w1) (hb : base ≤ w1.heap.size) (hp : base ≤ b) (g : w1.mapTurned w2 b) : But base p w w2 := by
  have g' := turned_grown g
  obtain ⟨es, clock, _, _, hm, _⟩ := g
  exact ⟨h.below.grown g' hb (fun k e => by injection e with e; omega), Nat.le_trans h.size g'.size, fun k c e s hk hw => by
    have h1 := h.cells k c e s hk hw
    refine (g'.block k (Array.getElem?_eq_some_iff.1 h1).1 (fun e2 => ?_)).trans h1
    injection e2 with e2
    subst e2
    rw [hm] at h1
    cases h1⟩
end Go.Proofs.YteikmnokmcnmcaaGreat
namespace Go.Proofs.YteikmnokmcnmcaaGreat
open Go.RowKit Go.Maps Go.Sort Go.Lib Go.Proofs.YteikmnokmcnmcaaGreatW.PrintWords Go.Proofs.YteikmnokmcnmcaaGreatW.PrintLast Go.Proofs.YteikmnokmcnmcaaGreatW.PrintMore
set_option linter.unusedVariables false
set_option linter.unusedSimpArgs false
set_option linter.unusedSectionVars false
/-! ### maps.DeleteFunc, Drop -/
def DJ (base p b r : Nat) (most t : Int) (L : List (Pl × Sv)) (R : Pl → List Rd) (w wr : World) : Prop :=
  ∃ (vis rem : List (Pl × Sv)) (D : List Pl), (vis ++ rem).Perm L ∧ RngN wr b r L.length (L.filter (fun e => !inK D e.1)) rem ∧ (∀ a ∈ D, a.1 = t) ∧ (∀ e ∈ vis, e.1.1 = t → e.1 ∈ D) ∧ (∀ a ∈ D, a ∈ vis.map (·.1)) ∧ But base p w wr ∧
    wr.heap[p]? = some (.cells #[.int .i64 most, .map (some b), .int .i64 (sumR (L.filter (fun e => !inK D e.1)) R : Nat)] 57 (0, 0))
theorem sumR_filter (R : Pl → List Rd) (c : Pl × Sv → Bool) : ∀ L : List (Pl × Sv), sumR (L.filter c) R ≤ sumR L R
  | [] => Nat.le_refl _
  | e :: L => by
    have ih := sumR_filter R c L
    rw [List.filter_cons]
    split
    · simp only [sumR, List.map_cons, List.sum_cons] at ih ⊢; omega
    · simp only [sumR, List.map_cons, List.sum_cons] at ih ⊢; omega
theorem enters45 : ∀ args w, (callFunc 48 args).run Tryz.prog w = .ok (.enter 48 args) w := enters_of Tryz.func48 (by kernel_rfl) rfl
set_option maxHeartbeats 8000000 in
set_option maxRecDepth 100000 in
theorem DeleteFunc44 (base p b bt bp : Nat) (most t : Int) (L : List (Pl × Sv)) (R : Pl → List Rd) (w : World) (h1 : w.heap[bt]? = some (.cells #[.int .i64 t] 2 (0, 0))) (h2 : w.heap[bp]? = some (.cells #[.pointer (some ⟨p, 0, none⟩)] 23 (0, 0)))
    (h3 : w.heap[p]? = some (.cells #[.int .i64 most, .map (some b), .int .i64 (sumR L R : Nat)] 57 (0, 0))) (T : TabN w b L.length L) (hrows : ∀ e ∈ L, RowR w base (mvS e.2) (R e.1)) (hsum : sumR L R ≤ 65536) (hp : base ≤ p) (hb : base ≤ b) :
    Calls Tryz.prog 47 #[.map (some b), .func (.func 48) #[] #[.pointer (some ⟨bt, 0, none⟩), .pointer (some ⟨bp, 0, none⟩)]] w fun e w' => e = .returned (.tuple #[]) ∧ But base p w w' ∧ TabN w' b (L.filter (fun e => e.1.1 != t)).length (L.filter (fun e => e.1.1 != t)) ∧
      w'.heap[p]? = some (.cells #[.int .i64 most, .map (some b), .int .i64 (sumR (L.filter (fun e => e.1.1 != t)) R : Nat)] 57 (0, 0)) := by
  have tidy := T.tidy
  have hpw : p < w.heap.size := (Array.getElem?_eq_some_iff.1 h3).1
  have hbw : base ≤ w.heap.size := by omega
  have hbp : b ≠ p := by
    rintro rfl
    obtain ⟨es, clock, hm⟩ := T.isMap
    rw [hm] at h3
    cases h3
  have hbtp : bt ≠ p := by rintro rfl; rw [h1] at h3; injection h3 with h3; injection h3 with _ h3; cases h3
  have hbpp : bp ≠ p := by rintro rfl; rw [h2] at h3; injection h3 with h3; injection h3 with _ h3; cases h3
  obtain ⟨w2, hrun, hRg, hg2, hs2⟩ := Tab.range (t := 55) keyP Tryz.underlying55 T
  have J0 : DJ base p b w.heap.size most t L R w w2 := by
    have e0 : L.filter (fun e => !inK [] e.1) = L := List.filter_eq_self.2 (fun e _ => by simp [inK])
    refine ⟨[], L, [], List.Perm.refl _, by rw [e0]; exact hRg, by simp, by simp, by simp, (But.refl _ _ _).grown hbw hg2, ?_⟩
    rw [e0]
    exact (hg2.block p hpw (by simp)).trans h3
  clear hRg T
  go_enter Tryz.func47, Tryz.ntmps47
  go_wp2_with fail
  go_loopw [4] (fun _ wr => DJ base p b w.heap.size most t L R w wr) (fun _ wr => wr.rangeLeft b w.heap.size)
  case atStart => exact J0
  case round =>
    clear J0 hs2 hg2 hrun
    obtain ⟨vis, rem, D, hpm, hr, hD1, hD2, hD3, hbut, hcp⟩ := hrel
    rcases hr.next keyP valS 0 with ⟨hnil, hrun1⟩ | ⟨a, sv, w3, hmem, hok, hrun1, hr3, hlt, hg3, hs3, hent⟩
    · subst hnil
      rw [List.append_nil] at hpm
      have ef : L.filter (fun e => !inK D e.1) = L.filter (fun e => e.1.1 != t) := by
        refine List.filter_congr fun e he => ?_
        have hv : e ∈ vis := hpm.mem_iff.2 he
        by_cases ht : e.1.1 = t
        · have h4 := inK_iff.2 (hD2 e hv ht)
          simp [ht, h4]
        · have h4 : inK D e.1 = false := by
            cases h5 : inK D e.1 with
            | false => rfl
            | true => exact absurd (hD1 _ (inK_iff.1 h5)) ht
          simp [ht, h4]
      rw [ef] at hr hcp
      have hT := hr.tab.exact
      clear hr
      go_wp2
      go_end0
      exact ⟨rfl, hbut, hT, hcp⟩
    · unfold mkP at hrun1 hent
      have hwr := hr.lt
      obtain ⟨W, hW⟩ : ∃ W, W = w3.alloc (.cells #[.int .i64 a.1, .string a.2] 54) := ⟨_, rfl⟩
      have GA : w3.grownBy W none := by rw [hW]; exact World.grownBy_alloc _ _ _
      have hop : W.heap[wr.heap.size]? = some (.cells #[.int .i64 a.1, .string a.2] 54 (0, 0)) := by rw [hW, ← hs3]; exact heap_alloc_new w3 _
      have p0 := cell_of_row W _ 0 _ 54 (0, 0) hop
      have p1 := cell_of_row W _ 1 _ 54 (0, 0) hop
      have hmL : (a, sv) ∈ L := hpm.mem_iff.1 (List.mem_append_right _ hmem)
      obtain ⟨A, c, hmv, hlc, _⟩ := (hrows _ hmL).slice
      rw [hmv] at hrun1 hent
      have hRa : (R a).length ≤ sumR L R := by
        obtain ⟨l1, l2, e⟩ := List.append_of_mem hmL
        rw [e, sumR_append]
        simp [sumR]
        omega
      have hsD := sumR_filter R (fun e => !inK D e.1) L
      have hrb : w.heap.size ≠ p := by omega
      have but3 : But base p w w3 := ⟨hbut.below.grown hg3 (Nat.le_trans hbw hbut.size) (fun k e => by injection e with e; omega), Nat.le_trans hbut.size hg3.size, fun k c e s hk hw => by
        have h4 := hbut.cells k c e s hk hw
        refine (hg3.block k (Array.getElem?_eq_some_iff.1 h4).1 (fun e2 => ?_)).trans h4
        injection e2 with e2
        have := (Array.getElem?_eq_some_iff.1 hw).1
        omega⟩
      have butW := but3.grown (Nat.le_trans hbw but3.size) GA
      have hc3 : w3.heap[p]? = _ := (hg3.block p (Array.getElem?_eq_some_iff.1 hcp).1 (by simp; omega)).trans hcp
      have hcW : W.heap[p]? = _ := (GA.block p (Array.getElem?_eq_some_iff.1 hc3).1 (by simp)).trans hc3
      obtain ⟨hrW, elW⟩ := hr3.kept GA (by simp) (by simp)
      have t1 := butW.cells bt _ _ _ hbtp h1
      have t2 := butW.cells bp _ _ _ hbpp h2
      have hnd : ∀ e ∈ vis, e.1 ≠ a := by
        intro e he e2
        have hpw := hpm.symm.pairwise_iff (R := fun x y : Pl × Sv => x.1 ≠ y.1) (fun {x y} h => fun e3 => h e3.symm) |>.1 tidy
        exact (List.pairwise_append.1 hpw).2.2 e he (a, sv) hmem e2
      have haD : a ∉ D := fun h => by
        obtain ⟨e, he, e2⟩ := List.mem_map.1 (hD3 a h)
        exact hnd e he e2
      by_cases hyes : a.1 = t
      · have C := closure45_yes a A (R a).length c bt bp p b t most (sumR (L.filter (fun e => !inK D e.1)) R : Nat) W t1 t2 hcW hyes (by omega) (by omega) (by omega)
        have hLc : (a, sv) ∈ L.filter (fun e => !inK D e.1) := by
          refine List.mem_filter.2 ⟨hmL, ?_⟩
          cases h5 : inK D a with
          | false => rfl
          | true => exact absurd (inK_iff.1 h5) haD
        have hdel := sumR_del R a sv _ (tidy.filter (fun e => !inK D e.1)) hLc
        have eD : (L.filter (fun e => !inK D e.1)).filter (fun e => e.1 ≠ a) = L.filter (fun e => !inK (a :: D) e.1) := by
          rw [List.filter_filter]
          refine List.filter_congr fun e _ => ?_
          simp only [inK, List.any_cons, Bool.not_or]
          by_cases h6 : e.1 = a
          · simp [h6]
          · have h7 : ¬ a = e.1 := fun h => h6 h.symm
            simp [h6, h7]
        have eR : (rem.filter (fun e => e.1 ≠ a)).filter (fun e => e.1 ≠ a) = rem.filter (fun e => e.1 ≠ a) := by
          rw [List.filter_filter]; refine List.filter_congr fun e _ => ?_; simp
        have step : ∀ W5, W.grownBy W5 (some p) → W5.heap[p]? = some (.cells #[.int .i64 most, .map (some b), .int .i64 ((sumR (L.filter (fun e => !inK D e.1)) R : Nat) - ((R a).length : Nat))] 57 (0, 0)) → ∃ W6, (Builtin.delete_ #[55, 54] 0 #[.map (some b), .agg #[.int .i64 a.1, .string a.2]]).run Tryz.prog W5 = .ok (.tuple #[]) W6 ∧ DJ base p b w.heap.size most t L R w W6 ∧ W6.rangeLeft b w.heap.size < wr.rangeLeft b w.heap.size := by
          intro W5 G5 hc5
          obtain ⟨hr5, el5⟩ := hrW.kept G5 (fun e => by injection e with e; exact hbp e) (fun e => by injection e with e; exact hrb e)
          obtain ⟨W6, hrun6, hr6, hle6, hturn6⟩ := hr5.drop (t := 55) keyP Tryz.underlying55 hok 0
          rw [eD, eR] at hr6
          have but5 := butW.atP (Nat.le_trans hbw butW.size) hp G5
          have but6 := but5.atMap (Nat.le_trans hbw but5.size) hb hturn6
          refine ⟨W6, hrun6, ⟨vis ++ [(a, sv)], _, a :: D, perm_next hr.apart hpm hmem, hr6, ?_, ?_, ?_, but6, ?_⟩, by omega⟩
          · intro q hq
            rcases List.mem_cons.1 hq with rfl | hq
            · exact hyes
            · exact hD1 q hq
          · intro e he ht
            rcases List.mem_append.1 he with he | he
            · exact List.mem_cons_of_mem _ (hD2 e he ht)
            · rw [List.mem_singleton.1 he]; exact List.mem_cons_self
          · intro q hq
            rw [List.map_append]
            rcases List.mem_cons.1 hq with rfl | hq
            · exact List.mem_append_right _ (by simp)
            · exact List.mem_append_left _ (hD3 q hq)
          · have hs : ((sumR (L.filter (fun e => !inK D e.1)) R : Nat) : Int) - ((R a).length : Nat) = ((sumR ((L.filter (fun e => !inK D e.1)).filter (fun p => p.1 ≠ a)) R : Nat) : Int) := by omega
            rw [((turned_grown hturn6).block p (Array.getElem?_eq_some_iff.1 hc5).1 (fun e => by injection e with e; exact hbp e.symm)), hc5, ← eD, hs]
        replace step := Aside0.mk step
        replace hrows := Aside0.mk hrows
        replace hyes := Aside0.mk hyes
        go_upto_region 3 with (fail)
        rw [← hW]
        clear hW
        go_wp2_with fail
        refine C.mono ?_
        rintro e W5 ⟨rfl, G5, hc5⟩
        obtain ⟨W6, hrun6, hJ6, hl6⟩ := step.out W5 G5 hc5
        have s0 := (G5.block _ (Array.getElem?_eq_some_iff.1 hop).1 (by simp; omega)).trans hop
        have s1 := cell_of_row W5 _ 0 _ 54 (0, 0) s0
        have s2 := cell_of_row W5 _ 1 _ 54 (0, 0) s0
        clear s0 hop p0 p1
        replace hJ6 := Aside0.mk hJ6
        go_wp2
        exact ⟨hJ6.out, hl6⟩
      · have C := closure45_no a (.slice A (R a).length c) bt bp t W t1 hyes
        have fin : ∀ W5, Below W.heap.size W W5 → DJ base p b w.heap.size most t L R w W5 ∧ W5.rangeLeft b w.heap.size < wr.rangeLeft b w.heap.size := by
          intro W5 B5
          obtain ⟨hr5, el5⟩ := hrW.kept (grown_of_below B5 none) (by simp) (by simp)
          refine ⟨⟨vis ++ [(a, sv)], _, D, perm_next hr.apart hpm hmem, hr5, hD1, ?_, ?_, butW.grown (Nat.le_trans hbw butW.size) (grown_of_below B5 none), blk_below hcW B5⟩, by omega⟩
          · intro e he ht
            rcases List.mem_append.1 he with he | he
            · exact hD2 e he ht
            · rw [List.mem_singleton.1 he] at ht; exact absurd ht hyes
          · intro q hq
            rw [List.map_append]
            exact List.mem_append_left _ (hD3 q hq)
        replace fin := Aside0.mk fin
        replace hrows := Aside0.mk hrows
        go_upto_region 3 with (fail)
        rw [← hW]
        clear hW
        go_wp2_with fail
        refine C.mono ?_
        rintro e W5 ⟨rfl, B5⟩
        go_wp2
        exact fin.out _ B5
end Go.Proofs.YteikmnokmcnmcaaGreat
namespace Go.Proofs.YteikmnokmcnmcaaGreat
open Go.RowKit Go.Maps Go.Sort Go.Lib Go.Proofs.YteikmnokmcnmcaaGreatW.PrintWords Go.Proofs.YteikmnokmcnmcaaGreatW.PrintLast Go.Proofs.YteikmnokmcnmcaaGreatW.PrintMore
set_option linter.unusedVariables false
set_option linter.unusedSimpArgs false
set_option linter.unusedSectionVars false
/-! ### Drop -/
def dropR (R : Pl → List Rd) (t : Int) : Pl → List Rd := fun q => if q.1 = t then [] else R q
def dropS (S : St) (t : Int) : St := ⟨S.K.filter (fun q => q.1 != t), dropR S.R t, (((S.K.filter (fun q => q.1 != t)).map fun q => (dropR S.R t q).length).sum : Nat)⟩
def dropP (S : St) (t : Int) : Int × St := if t < 1 then (1, S) else (0, dropS S t)
theorem dropR_other (R : Pl → List Rd) {t : Int} {q : Pl} (h : q.1 ≠ t) : dropR R t q = R q := by unfold dropR; rw [if_neg h]
theorem dropR_same (R : Pl → List Rd) {t : Int} {q : Pl} (h : q.1 = t) : dropR R t q = [] := by unfold dropR; rw [if_pos h]
theorem dropS_inv {S : St} (h : InvK S) (t : Int) : InvK (dropS S t) where
  nodup := h.nodup.filter _
  off q hq := by
    show dropR S.R t q = []
    by_cases ht : q.1 = t
    · exact dropR_same _ ht
    · rw [dropR_other _ ht]
      refine h.off q fun hK => hq (List.mem_filter.2 ⟨hK, by simpa using ht⟩)
  pos q hq := by
    obtain ⟨h1, h2⟩ := List.mem_filter.1 hq
    show dropR S.R t q ≠ []
    rw [dropR_other _ (by simpa using h2)]
    exact h.pos q h1
  sum := rfl
  tab q y hy := by
    replace hy : y ∈ dropR S.R t q := hy
    unfold dropR at hy
    split at hy
    · cases hy
    · exact h.tab q y hy
  lean q := by
    show (dropR S.R t q).Pairwise LeanR
    unfold dropR
    split
    · exact List.Pairwise.nil
    · exact h.lean q
  size q hq := h.size q (List.mem_filter.1 hq).1
  one q hq := h.one q (List.mem_filter.1 hq).1
theorem sum_filter_le (f : Pl → Nat) (c : Pl → Bool) : ∀ K : List Pl, ((K.filter c).map f).sum ≤ (K.map f).sum
  | [] => Nat.le_refl _
  | q :: K => by
    have ih := sum_filter_le f c K
    rw [List.filter_cons]
    split
    · simp only [List.map_cons, List.sum_cons]; omega
    · simp only [List.map_cons, List.sum_cons]; omega
theorem drop_sum (R : Pl → List Rd) (t : Int) (K : List Pl) : ((K.filter (fun q => q.1 != t)).map fun q => (dropR R t q).length) = ((K.filter (fun q => q.1 != t)).map fun q => (R q).length) := by
  refine List.map_congr_left fun q hq => ?_
  rw [dropR_other _ (by simpa using (List.mem_filter.1 hq).2)]
theorem dropS_le {S : St} (h : InvK S) (t : Int) : (dropS S t).n ≤ S.n := by
  rw [h.sum]
  show ((((S.K.filter (fun q => q.1 != t)).map fun q => (dropR S.R t q).length).sum : Nat) : Int) ≤ _
  rw [drop_sum]
  have := sum_filter_le (fun q => (S.R q).length) (fun q => q.1 != t) S.K
  omega
theorem got_filter (t : Int) (q : Pl) (hq : q.1 ≠ t) : ∀ L : List (Pl × Sv), got (L.filter (fun e => e.1.1 != t)) q = got L q
  | [] => rfl
  | e :: L => by
    have ih := got_filter t q hq L
    rw [List.filter_cons]
    by_cases he : (e.1.1 != t) = true
    · rw [if_pos he]
      unfold got at ih ⊢
      rw [List.find?_cons, List.find?_cons]
      split
      · rfl
      · exact ih
    · rw [if_neg he, ih]
      unfold got
      rw [List.find?_cons]
      have hne : ¬ e.1 = q := fun e2 => he (by rw [e2]; simpa using hq)
      simp [hne]
set_option maxHeartbeats 4000000 in
set_option maxRecDepth 100000 in
theorem Drop_S (base p : Nat) (most : Int) (S : St) (t : Int) (w : World) (h : MrS w base p most S) :
    Calls Tryz.prog 14 #[.pointer (some ⟨p, 0, none⟩), .int .i64 t] w fun e w' => e = .returned (.int .i64 (dropP S t).1) ∧ MrS w' base p most (dropP S t).2 ∧ But base p w w' := by
  obtain ⟨⟨b, L, M, hk, hbb⟩, hI, hn, h3, h4⟩ := h
  have hpw : p < w.heap.size := (Array.getElem?_eq_some_iff.1 M.cells).1
  have hlow := M.low
  obtain ⟨w1, hw1⟩ : ∃ w1, w1 = (w.alloc (.cells #[.pointer (some ⟨p, 0, none⟩)] 23)).alloc (.cells #[.int .i64 t] 2) := ⟨_, rfl⟩
  have B1 : Below w.heap.size w w1 := by rw [hw1]; exact below_alloc ((Below.refl _ w).alloc (Nat.le_refl _) _) _
  have o0 : w1.heap[w.heap.size]? = some (.cells #[.pointer (some ⟨p, 0, none⟩)] 23 (0, 0)) := by rw [hw1]; exact (Below.heap_alloc _ _ _ (by simp)).trans (heap_alloc_new w _)
  have o1 : w1.heap[w.heap.size + 1]? = some (.cells #[.int .i64 t] 2 (0, 0)) := by
    rw [hw1]
    have := heap_alloc_new (w.alloc (.cells #[.pointer (some ⟨p, 0, none⟩)] 23)) (.cells #[.int .i64 t] 2)
    simpa using this
  have c0 := cell_of_row w1 _ 0 _ 23 (0, 0) o0
  have c1 := cell_of_row w1 _ 0 _ 2 (0, 0) o1
  have M1 := M.kept (grown_of_below B1 none)
  have N := none_calls p b w1 M1.cell.2.1
  have hsum : S.n = ((sumR L S.R : Nat) : Int) := by
    rw [hI.sum]
    unfold sumR
    rw [← hk, List.map_map]
    rfl
  have but1 := (But.refl base p w).grown (by omega) (grown_of_below B1 none)
  by_cases ht : t < 1
  · have e : dropP S t = (1, S) := by unfold dropP; rw [if_pos ht]
    rw [e]
    have ht' : t < 1 := ht
    go_enter Tryz.func14, Tryz.ntmps14
    go_upto_region 1 with (fail)
    rw [← hw1]
    clear hw1
    go_wp2_with fail
    refine N.mono ?_
    rintro e w' ⟨rfl, rfl⟩
    go_wp2
    go_ret
    exact ⟨rfl, ⟨⟨b, L, M1, hk, hbb⟩, hI, hn, h3, h4⟩, but1⟩
  · have e : dropP S t = (0, dropS S t) := by unfold dropP; rw [if_neg ht]
    rw [e]
    have hcell := M1.cells
    rw [hsum] at hcell
    have D := DeleteFunc44 base p b (w.heap.size + 1) w.heap.size most t L S.R w1 o1 o0 hcell M1.tab M1.rows (by omega) hlow hbb
    obtain ⟨m0, m1, m2⟩ := M1.cell
    go_enter Tryz.func14, Tryz.ntmps14
    go_upto_region 1 with (fail)
    rw [← hw1]
    clear hw1
    go_wp2_with fail
    refine N.mono ?_
    rintro e w' ⟨rfl, rfl⟩
    go_wp2_with fail
    refine D.mono ?_
    rintro e w2 ⟨rfl, but2, T2, cells2⟩
    go_wp2
    go_ret
    have hdl := dropS_le hI t
    have but12 : But base p w w2 := ⟨⟨but2.below.os.trans but1.below.os, but2.below.tape.trans but1.below.tape, but2.below.output.trans but1.below.output, Nat.le_trans but1.below.size but2.below.size, fun k hk => (but2.below.block k hk).trans (but1.below.block k hk)⟩, Nat.le_trans but1.size but2.size, fun k c e s hk hw => but2.cells k c e s hk (but1.cells k c e s hk hw)⟩
    refine ⟨rfl, ⟨⟨b, L.filter (fun e => e.1.1 != t), ⟨?_, T2, hlow, ?_, ?_, ?_⟩, ?_, hbb⟩, dropS_inv hI t, by show (dropS S t).n ≤ most; omega, h3, h4⟩, but12⟩
    · rw [cells2]
      have : (dropS S t).n = ((sumR (L.filter (fun e => e.1.1 != t)) S.R : Nat) : Int) := by
        show ((((S.K.filter (fun q => q.1 != t)).map fun q => (dropR S.R t q).length).sum : Nat) : Int) = _
        rw [drop_sum, ← hk, List.filter_map, List.map_map]
        rfl
      rw [← this]
    · intro e he
      obtain ⟨h5, h6⟩ := List.mem_filter.1 he
      show RowR w2 base (mvS e.2) (dropR S.R t e.1)
      rw [dropR_other _ (by simpa using h6)]
      refine (M1.rows e h5).move fun g hg => ?_
      obtain ⟨_, _, cells, hc⟩ := (M1.rows e h5).typed g hg
      refine (but2.cells g _ _ _ (fun e2 => ?_) hc).trans hc.symm
      subst e2
      rw [hcell] at hc
      injection hc with hc
      injection hc with _ hc
      cases hc
    · intro q hq
      show dropR S.R t q = []
      by_cases h6 : q.1 = t
      · exact dropR_same _ h6
      · rw [dropR_other _ h6]
        rw [got_filter t q h6] at hq
        exact M1.off q hq
    · intro e he y hy
      replace hy : y ∈ dropR S.R t e.1 := hy
      obtain ⟨h5, h6⟩ := List.mem_filter.1 he
      rw [dropR_other _ (by simpa using h6)] at hy
      exact M1.good e h5 y hy
    · show (L.filter (fun e => e.1.1 != t)).map (·.1) = S.K.filter (fun q => q.1 != t)
      rw [← hk, List.filter_map]
      rfl
end Go.Proofs.YteikmnokmcnmcaaGreat
