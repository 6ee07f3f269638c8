import Derived.Test.YthaoedfalkebbaaGreatMD
namespace Go.Proofs.YthaoedfalkebbaaGreat
open Go.RowKit Go.Maps Go.Sort Go.Lib Go.Proofs.YthaoedfalkebbaaGreatW.PrintWords Go.Proofs.YthaoedfalkebbaaGreatW.PrintLast Go.Proofs.YthaoedfalkebbaaGreatW.PrintMore
set_option linter.unusedVariables false
set_option linter.unusedSimpArgs false
set_option linter.unusedSectionVars false
/-! ### Of -/
section
variable {α : Type} {enc : α → List Value} {k : Nat} {hn : ∀ x, (enc x).length = k} {h1c : ∀ x, ∀ u ∈ enc x, u.oneCell' = true}
/-- an append of a slice to a flat row -/
theorem flat_appS {P : Program} {w : World} {base e : Nat} {ok : Nat → Prop} {v : Value} {xs ys : List α} (h : (Kd.flat enc k hn h1c).R e w base ok v xs) (t ty : TypeId) (z : Value) (bytes : Nat) (ht : P.underlying t = some (.slice e)) (hinfo : (P.info? e).map (fun i => (i.zero, i.size, i.bytes)) = some (some z, k, bytes)) (hzs : z.cells.size = k) (hk : 0 < k) (hb0 : 0 < bytes)
    (A : Option Addr) (c : Nat) (hs : Src enc k w A ys) (hbytes : (xs.length + ys.length) * bytes ≤ 140737488355328) (hbase : base ≤ w.heap.size) (hfresh : ∀ k, w.heap.size ≤ k → ok k) :
    ∃ v' w', (Builtin.append_ #[t, t] ty #[v, .slice A ys.length c]).run P w = .ok v' w' ∧ (Kd.flat enc k hn h1c).R e w' base ok v' (xs ++ ys) ∧ w.grownBy w' v.ownBlock := by
  obtain ⟨i0, hi0, hzz⟩ := Option.map_eq_some_iff.1 hinfo
  simp only [Prod.mk.injEq] at hzz
  obtain ⟨hz0, hz1, hz2⟩ := hzz
  have hlen : xs.length + ys.length ≤ 140737488355328 := Nat.le_trans (Nat.le_mul_of_pos_right _ hb0) hbytes
  obtain ⟨news, hl, hr, hc⟩ := hs
  rcases Nat.eq_zero_or_pos ys.length with h0 | h0
  · have hy : ys = [] := List.eq_nil_of_length_eq_zero h0
    obtain ⟨B, cB, hv, hle, _⟩ := (Lo.ofR h).slice
    refine ⟨v, w, ?_, by rw [hy, List.append_nil]; exact h, ⟨rfl, rfl, rfl, Nat.le_refl _, fun _ _ _ => rfl⟩⟩
    rw [h0, hv]
    exact run_append_zero t ty e i0 ht hi0 B xs.length cB A c hle
  · obtain ⟨a, rfl, hcells⟩ := hc h0
    obtain ⟨h0', inner, h1, h2⟩ := h
    obtain ⟨v', w', hrun, ho, hg, _, hown⟩ := run_append_own_at (P := P) (w := w) base t ty e i0 z k bytes ht hi0 hz0 hz1 hz2 hzs hk v xs.length inner h1 a ys.length c news hl hcells (fun u hu => by
      obtain ⟨j, hj⟩ := List.mem_iff_getElem?.1 hu
      have hjl : j < ys.length * k := by rw [← hl]; exact (List.getElem?_eq_some_iff.1 hj).1
      have hd : j / k < ys.length := by rw [Nat.div_lt_iff_lt_mul hk]; exact hjl
      have hm := Nat.mod_lt j hk
      have e0 : j / k * k + j % k = j := Nat.div_add_mod' j k
      have h3 : (news.drop (j / k * k)).take k = enc ys[j / k] := hr.2 (j / k) _ (List.getElem?_eq_getElem hd)
      have h4 : ((news.drop (j / k * k)).take k)[j % k]? = news[j]? := by rw [List.getElem?_take, if_pos hm, List.getElem?_drop, e0]
      rw [h3, hj] at h4
      exact h1c _ u (List.mem_of_getElem? h4)) (by simp only [maxLen]; omega) hbytes hbase
    refine ⟨v', w', hrun, ⟨fun k hk => ?_, _, by rw [List.length_append]; exact ho, Kd.reps_append h2 hr⟩, hg⟩
    rcases hown with e1 | e1
    · exact h0' k (e1 ▸ hk)
    · rw [e1] at hk; injection hk with hk; exact hfresh k (by omega)
end
/-- a transaction's notes, place by place -/
def notesT (L : List (Pl × Sv)) (R : Pl → List Rd) (t : Int) : List Rd := (L.filter (fun e => e.1.1 == t)).flatMap (fun e => R e.1)
def sumR (L : List (Pl × Sv)) (R : Pl → List Rd) : Nat := (L.map (fun e => (R e.1).length)).sum
theorem notesT_len (R : Pl → List Rd) (t : Int) : ∀ L : List (Pl × Sv), (notesT L R t).length ≤ sumR L R
  | [] => by simp [notesT, sumR]
  | e :: L => by
    have ih := notesT_len R t L
    unfold notesT sumR at *
    rw [List.filter_cons]
    split
    · simp only [List.flatMap_cons, List.length_append, List.map_cons, List.sum_cons]; omega
    · simp only [List.map_cons, List.sum_cons]; omega
theorem sumR_perm {L L' : List (Pl × Sv)} (R : Pl → List Rd) (h : L.Perm L') : sumR L R = sumR L' R := (h.map _).sum_nat
theorem sumR_append (L L' : List (Pl × Sv)) (R : Pl → List Rd) : sumR (L ++ L') R = sumR L R + sumR L' R := by simp [sumR]
theorem notesT_perm {L L' : List (Pl × Sv)} (R : Pl → List Rd) (t : Int) (h : L.Perm L') : (notesT L R t).Perm (notesT L' R t) := (h.filter _).flatMap_right _
def OJ (w : World) (b r : Nat) (L : List (Pl × Sv)) (R : Pl → List Rd) (t : Int) (v : Value) (wr : World) : Prop :=
  ∃ vis rem : List (Pl × Sv), (vis ++ rem).Perm L ∧ RngN wr b r L.length L rem ∧ w.heap.size ≤ r ∧ dR.R 108 wr w.heap.size (fun k => r < k) v (notesT vis R t) ∧ Below w.heap.size w wr
theorem notesT_snoc (vis : List (Pl × Sv)) (a : Pl) (sv : Sv) (R : Pl → List Rd) (t : Int) : notesT (vis ++ [(a, sv)]) R t = notesT vis R t ++ (if a.1 == t then R a else []) := by
  unfold notesT
  rw [List.filter_append, List.flatMap_append]
  congr 1
  by_cases h : (a.1 == t) = true
  · simp [List.filter_cons, h]
  · simp [List.filter_cons, h]
set_option maxHeartbeats 8000000 in
set_option maxRecDepth 100000 in
theorem Of_calls (base p b : Nat) (most many : Int) (L : List (Pl × Sv)) (R : Pl → List Rd) (t : Int) (w : World) (h : Mr w base p b most many L R) (hL : L.length ≤ 65536) (hR : sumR L R ≤ 65536) :
    Calls Tryz.prog 52 #[.pointer (some ⟨p, 0, none⟩), .int .i64 t] w fun e w' => ∃ v, e = .returned v ∧ dR.R 108 w' w.heap.size (fun _ => True) v (srtC cmpRd (notesT L R t)) ∧ Below w.heap.size w w' := by
  obtain ⟨c0, c1, c2⟩ := h.cell
  have N := none_calls p b w c1
  have hblt : b < w.heap.size := h.tab.lt
  obtain ⟨w2, hrun, hRg, hg2, hs2⟩ := Tab.range (t := 148) keyP Tryz.underlying148 (h.tab : TabN w b L.length L)
  have hp2 : w.heap.size < w2.heap.size := by omega
  go_enter Tryz.func52, Tryz.ntmps52
  go_wp2_with fail
  refine N.mono ?_
  rintro e w' ⟨rfl, rfl⟩
  go_wp2_with fail
  go_loopw [5] (fun v wr => OJ w b w.heap.size L R t v wr) (fun _ wr => wr.rangeLeft b w.heap.size)
  case atStart =>
    exact ⟨[], L, List.Perm.refl _, hRg, Nat.le_refl _, Kd.R_nil _ _ _ _ _, (Below.refl _ w).grown hg2 (Nat.le_refl _) (by simp)⟩
  case round =>
    obtain ⟨vis, rem, hp, hr, hle, hv, hB⟩ := hrel
    have hsum := sumR_perm R hp
    rw [sumR_append] at hsum
    rcases hr.next keyP valS 0 with ⟨hnil, hrun1⟩ | ⟨a, sv, w3, hmem, hok, hrun1, hr3, hlt, hg3, hs3, hent⟩
    · subst hnil
      rw [List.append_nil] at hp
      have hlen := notesT_len R t vis
      have hbase0 := Kd.R_base hv
      have S := sortR_calls wr w.heap.size _ u5 _ hv (by omega)
      rw [srtC_congr ord_Rd (fun _ _ => cmpRd_eq) (notesT_perm R t hp)] at S
      go_wp2_with fail
      refine S.mono ?_
      rintro e w4 ⟨rfl, H4, G4⟩
      go_wp2
      go_ret
      exact ⟨_, rfl, Kd.R_mono H4 (fun _ _ => trivial), hB.grown G4 hB.size (fun k hk => hbase0 k hk)⟩
    · unfold mkP at hrun1 hent
      have hB3 : Below w.heap.size w w3 := hB.grown hg3 hB.size (fun k e => by injection e with e; omega)
      have hv3 : dR.R 108 w3 w.heap.size (fun k => w.heap.size < k) u5 (notesT vis R t) := Kd.R_grown hv hg3 (fun k hk e => by injection e with e; omega)
      obtain ⟨W, hW⟩ : ∃ W, W = w3.alloc (.cells #[.int .i64 a.1, .string a.2] 156) := ⟨_, rfl⟩
      have BA : Below w3.heap.size w3 W := by rw [hW]; exact (Below.refl _ w3).alloc (Nat.le_refl _) _
      have hrl : w.heap.size < wr.heap.size := hr.lt
      have hop : W.heap[wr.heap.size]? = some (.cells #[.int .i64 a.1, .string a.2] 156 (0, 0)) := by rw [hW, ← hs3]; exact heap_alloc_new w3 _
      have p0 := cell_of_row W _ 0 _ 156 (0, 0) hop
      have BW := below_then hB3 hB3.size BA
      have hmL : (a, sv) ∈ L := hp.mem_iff.1 (List.mem_append_right _ hmem)
      have hrow : RowR W base (mvS sv) (R a) := (h.rows _ hmL).grown (grown_of_below BW none) (by simp)
      obtain ⟨A, c, hmv, hlc, _⟩ := hrow.slice
      have hsrc := Lo.src hrow hmv
      rw [hmv] at hrun1 hent
      have hvW : dR.R 108 W w.heap.size (fun k => w.heap.size < k) u5 (notesT vis R t) := Kd.R_below hv3 BA
      have hrem : sumR [(a, sv)] R ≤ sumR rem R := by
        obtain ⟨l1, l2, e⟩ := List.append_of_mem hmem
        rw [e, sumR_append]
        simp [sumR]
        omega
      have hRa : (R a).length = sumR [(a, sv)] R := by simp [sumR]
      have hlen := notesT_len R t vis
      obtain ⟨v4, w4, hrun4, H4, G4⟩ := flat_appS hvW 118 118 _ 56 Tryz.underlying118 info23 rfl (by decide) (by decide) A c hsrc (by omega) BW.size (fun k hk => by have := BW.size; have := BA.size; omega)
      obtain ⟨hrW, elW⟩ := hr3.kept (grown_of_below BA none) (by simp) (by simp)
      have hbase0 := Kd.R_base hvW
      cases hyes : (a.1 == t) with
      | true =>
        have fin : OJ w b w.heap.size L R t v4 w4 ∧ w4.rangeLeft b w.heap.size < wr.rangeLeft b w.heap.size := by
          obtain ⟨hr7, el2⟩ := hrW.kept G4 (fun e => by have := hbase0 _ e.symm; omega) (fun e => by have := hvW.1 _ e.symm; omega)
          refine ⟨⟨vis ++ [(a, sv)], _, perm_next hr.apart hp hmem, hr7, Nat.le_refl _, ?_, BW.grown G4 BW.size (fun k hk => hbase0 k hk)⟩, by rw [el2, elW]; exact hlt⟩
          rw [notesT_snoc, hyes, if_pos rfl]
          exact H4
        replace fin := Aside0.mk fin
        replace h := Aside0.mk h
        go_upto_region 7 with (fail)
        rw [← hW]
        clear hW
        go_wp2_with (at_builtin; refine app_list rfl rfl rfl rfl hrun4 ?_)
        exact fin.out
      | false =>
        have fin : OJ w b w.heap.size L R t u5 W ∧ W.rangeLeft b w.heap.size < wr.rangeLeft b w.heap.size := by
          refine ⟨⟨vis ++ [(a, sv)], _, perm_next hr.apart hp hmem, hrW, Nat.le_refl _, ?_, BW⟩, by rw [elW]; exact hlt⟩
          rw [notesT_snoc, hyes, if_neg (by decide), List.append_nil]
          exact hvW
        replace fin := Aside0.mk fin
        replace h := Aside0.mk h
        go_upto_region 7 with (fail)
        rw [← hW]
        clear hW
        go_wp2
        exact fin.out
end Go.Proofs.YthaoedfalkebbaaGreat
namespace Go.Proofs.YthaoedfalkebbaaGreat
open Go.RowKit Go.Maps Go.Sort Go.Lib Go.Proofs.YthaoedfalkebbaaGreatW.PrintWords Go.Proofs.YthaoedfalkebbaaGreatW.PrintLast Go.Proofs.YthaoedfalkebbaaGreatW.PrintMore
set_option linter.unusedVariables false
set_option linter.unusedSimpArgs false
set_option linter.unusedSectionVars false
/-! ### begun -/
theorem blk_fz {w : World} {g : Nat} {c : Array Value} {e : TypeId} (h : w.heap[g]? = some (.cells c e (0, 0))) (j : Nat) : w.frozen? ⟨g, j, none⟩ = false := by simp [World.frozen?, h]
set_option maxHeartbeats 1000000 in
set_option maxRecDepth 100000 in
theorem RNew_calls (most : Int) (w : World) : Calls Tryz.prog 64 #[.int .i64 most] w fun e w' => e = .returned (.tuple #[.agg #[.int .i64 most, .slice none 0 0], .bool (decide (1 ≤ most) && decide (most ≤ 65536))]) ∧ Below w.heap.size w w' := by
  obtain ⟨w1, hw1⟩ : ∃ w1, w1 = w.alloc (.cells #[.int .i64 0, .slice none 0 0] 73) := ⟨_, rfl⟩
  have B1 : Below w.heap.size w w1 := by rw [hw1]; exact (Below.refl _ w).alloc (Nat.le_refl _) _
  have o1 : w1.heap[w.heap.size]? = some (.cells #[.int .i64 0, .slice none 0 0] 73 (0, 0)) := by rw [hw1]; exact heap_alloc_new w _
  have c0 := cell_of_row w1 _ 0 _ 73 (0, 0) o1
  have c1 := cell_of_row w1 _ 1 _ 73 (0, 0) o1
  have f0 := blk_fz o1 0
  have f1 := blk_fz o1 1
  obtain ⟨W7, hW7⟩ : ∃ W7, W7 = (w1.setCell ⟨w.heap.size, 0, none⟩ (.int .i64 most)).setCell ⟨w.heap.size, 1, none⟩ (.slice none 0 0) := ⟨_, rfl⟩
  have o7 : W7.heap[w.heap.size]? = some (.cells #[.int .i64 most, .slice none 0 0] 73 (0, 0)) := by rw [hW7]; exact blk_set (blk_set o1 0 _) 1 _
  have e0 := cell_of_row W7 _ 0 _ 73 (0, 0) o7
  have e1 := cell_of_row W7 _ 1 _ 73 (0, 0) o7
  have B7 : Below w.heap.size w W7 := B1.grown (by rw [hW7]; exact trans_grown (grown_set _ _ 0 _) (grown_set _ _ 1 _)) B1.size (fun k hk => by injection hk with hk; omega)
  clear o1 o7
  have b1 : decide (most < 1) = !decide (1 ≤ most) := by by_cases h : most < 1 <;> simp [h] <;> omega
  cases hb : decide (1 ≤ most) with
  | true =>
    have hb' : 1 ≤ most := of_decide_eq_true hb
    go_enter Tryz.func64, Tryz.ntmps64
    go_upto_region 1 with (fail)
    rw [← hw1]
    clear hw1
    go_wp2_with fail
    rw [← hW7]
    refine bodyPost_ret (v := .tuple #[.agg #[.int .i64 most, .slice none 0 0], .bool (decide (most ≤ 65536))]) (by simp [results, Tryz.results64, go_sem, e0, e1]) rfl ⟨by simp, B7⟩
  | false =>
    have hb' : ¬ 1 ≤ most := of_decide_eq_false hb
    go_enter Tryz.func64, Tryz.ntmps64
    go_upto_region 1 with (fail)
    rw [← hw1]
    clear hw1
    go_wp2_with fail
    rw [← hW7]
    refine bodyPost_ret (v := .tuple #[.agg #[.int .i64 most, .slice none 0 0], .bool false]) (by simp [results, Tryz.results64, go_sem, e0, e1]) rfl ⟨by simp, B7⟩
end Go.Proofs.YthaoedfalkebbaaGreat
namespace Go.Proofs.YthaoedfalkebbaaGreat
open Go.RowKit Go.Maps Go.Sort Go.Lib Go.Proofs.YthaoedfalkebbaaGreatW.PrintWords Go.Proofs.YthaoedfalkebbaaGreatW.PrintLast Go.Proofs.YthaoedfalkebbaaGreatW.PrintMore
set_option linter.unusedVariables false
set_option linter.unusedSimpArgs false
set_option linter.unusedSectionVars false
/-! ### begun -/
/-- a manager beside a change of a block that is no manager's and no row of notes -/
theorem Mr.far {w w' : World} {base p b q e : Nat} {most many : Int} {L : List (Pl × Sv)} {R : Pl → List Rd} (h : Mr w base p b most many L R) (hg : w.grownBy w' (some q)) (hq : ∃ c s, w.heap[q]? = some (.cells c e s)) (he : e ≠ 108) (hp : p ≠ q) : Mr w' base p b most many L R where
  cells := (hg.block p (Array.getElem?_eq_some_iff.1 h.cells).1 (by simpa using hp)).trans h.cells
  tab := h.tab.kept hg (by
    rintro e
    injection e with e
    subst e
    obtain ⟨es, clock, hb⟩ := h.tab.isMap
    obtain ⟨c, s, hq⟩ := hq
    rw [hb] at hq
    cases hq)
  low := h.low
  rows := fun e' he' => (h.rows e' he').grown hg (fun k hk e2 => by
    injection hk with hk
    subst hk
    obtain ⟨_, _, cells, hc⟩ := (h.rows e' he').typed _ e2
    obtain ⟨c, s, hq⟩ := hq
    rw [hq] at hc
    injection hc with hc
    injection hc with _ hc
    exact he hc)
  off := h.off
  good := h.good
theorem Mr.beside37 {w w' : World} {base p b q : Nat} {most many : Int} {L : List (Pl × Sv)} {R : Pl → List Rd} (h : Mr w base p b most many L R) (hg : w.grownBy w' (some q)) (hq : ∃ c s, w.heap[q]? = some (.cells c 73 s)) (hp : p ≠ q) : Mr w' base p b most many L R := h.far hg hq (by decide) hp
end Go.Proofs.YthaoedfalkebbaaGreat
namespace Go.Proofs.YthaoedfalkebbaaGreat
open Go.RowKit Go.Maps Go.Sort Go.Lib Go.Proofs.YthaoedfalkebbaaGreatW.PrintWords Go.Proofs.YthaoedfalkebbaaGreatW.PrintLast Go.Proofs.YthaoedfalkebbaaGreatW.PrintMore
set_option linter.unusedVariables false
set_option linter.unusedSimpArgs false
set_option linter.unusedSectionVars false
/-! ### notes, plain -/
/-- the notes of a manager: its places, the notes of each, how many -/
structure St where
  K : List Pl
  R : Pl → List Rd
  n : Int
def LeanR (a b : Rd) : Prop := cov a b = false ∧ cov b a = false
/-- what the notes of a manager are -/
structure InvK (S : St) : Prop where
  nodup : S.K.Nodup
  off : ∀ q, q ∉ S.K → S.R q = []
  pos : ∀ q ∈ S.K, S.R q ≠ []
  sum : S.n = ((S.K.map fun q => (S.R q).length).sum : Nat)
  tab : ∀ q, ∀ y ∈ S.R q, y.t = q.2 ∧ mayB y = true ∧ y.OK
  lean : ∀ q, (S.R q).Pairwise LeanR
  size : ∀ q ∈ S.K, q.2.size ≤ reachBytes
  one : ∀ q ∈ S.K, 1 ≤ q.1
def inK (K : List Pl) (q : Pl) : Bool := K.any (fun p => decide (p = q))
theorem inK_iff {K : List Pl} {q : Pl} : inK K q = true ↔ q ∈ K := by
  unfold inK
  rw [List.any_eq_true]
  constructor
  · rintro ⟨p, hp, e⟩
    rw [← of_decide_eq_true e]; exact hp
  · exact fun h => ⟨q, h, decide_eq_true rfl⟩
def keysK (K : List Pl) (q : Pl) : List Pl := if inK K q = true then K else K ++ [q]
theorem keysN_K (L : List (Pl × Sv)) (q : Pl) : keysN L q = keysK (L.map (·.1)) q := by
  unfold keysN keysK
  by_cases h : q ∈ L.map (·.1)
  · obtain ⟨v, hv⟩ := got_some_of_mem h
    rw [if_pos (inK_iff.2 h), hv]; rfl
  · rw [if_neg (fun e => h (inK_iff.1 e))]
    cases hv : got L q with
    | none => rfl
    | some v => exact absurd (mem_of_got hv) h
theorem mem_keysK {K : List Pl} {q p : Pl} : p ∈ keysK K q ↔ p = q ∨ p ∈ K := by
  unfold keysK
  split
  · rename_i h
    rw [inK_iff] at h
    constructor
    · exact .inr
    · rintro (rfl | h2)
      · exact h
      · exact h2
  · simp [or_comm]
theorem put1_same (R : Pl → List Rd) (q : Pl) (l : List Rd) : put1 R q l q = l := by unfold put1; rw [if_pos rfl]
theorem put1_other (R : Pl → List Rd) {q p : Pl} (l : List Rd) (h : p ≠ q) : put1 R q l p = R p := by unfold put1; rw [if_neg h]
theorem sum_put_out (R : Pl → List Rd) (q : Pl) (l : List Rd) : ∀ K : List Pl, q ∉ K → (K.map fun p => (put1 R q l p).length).sum = (K.map fun p => (R p).length).sum
  | [], _ => rfl
  | p :: K, h => by
    simp only [List.mem_cons, not_or] at h
    simp only [List.map_cons, List.sum_cons]
    rw [put1_other R l (fun e => h.1 e.symm), sum_put_out R q l K h.2]
theorem sum_put (R : Pl → List Rd) (q : Pl) (l : List Rd) : ∀ K : List Pl, K.Nodup → q ∈ K → (K.map fun p => (put1 R q l p).length).sum + (R q).length = (K.map fun p => (R p).length).sum + l.length
  | [], _, h => by cases h
  | p :: K, hn, h => by
    rw [List.nodup_cons] at hn
    simp only [List.map_cons, List.sum_cons]
    by_cases e : p = q
    · subst e
      rw [put1_same, sum_put_out R p l K hn.1]
      omega
    · have hq : q ∈ K := by
        rcases List.mem_cons.1 h with h | h
        · exact absurd h.symm e
        · exact h
      rw [put1_other R l e]
      have := sum_put R q l K hn.2 hq
      omega
theorem len_le_sum (R : Pl → List Rd) (q : Pl) : ∀ K : List Pl, q ∈ K → (R q).length ≤ (K.map fun p => (R p).length).sum
  | [], h => by cases h
  | p :: K, h => by
    simp only [List.map_cons, List.sum_cons]
    rcases List.mem_cons.1 h with rfl | h
    · omega
    · have := len_le_sum R q K h; omega
theorem card_le_sum (R : Pl → List Rd) : ∀ K : List Pl, (∀ q ∈ K, R q ≠ []) → K.length ≤ (K.map fun p => (R p).length).sum
  | [], _ => by simp
  | p :: K, h => by
    simp only [List.map_cons, List.sum_cons, List.length_cons]
    have h1 := card_le_sum R K (fun q hq => h q (List.mem_cons_of_mem _ hq))
    have h2 : 0 < (R p).length := List.length_pos_iff.2 (h p List.mem_cons_self)
    omega
theorem InvK.len {S : St} (h : InvK S) (q : Pl) : ((S.R q).length : Int) ≤ S.n := by
  rw [h.sum]
  by_cases hq : q ∈ S.K
  · have := len_le_sum S.R q S.K hq; omega
  · rw [h.off q hq]; simp
theorem InvK.card {S : St} (h : InvK S) : (S.K.length : Int) ≤ S.n := by
  rw [h.sum]
  have := card_le_sum S.R S.K h.pos
  omega
theorem whole_may (t : ByteArray) : mayB (whole t) = true := by
  unfold mayB whole
  simp only [if_true]
  kernel_rfl
/-- a place's notes, put in the place of others -/
theorem InvK.put {S : St} (h : InvK S) (q : Pl) (l : List Rd) (hl : l ≠ []) (ht : ∀ y ∈ l, y.t = q.2 ∧ mayB y = true ∧ y.OK) (hlean : l.Pairwise LeanR) (hs : q.2.size ≤ reachBytes) (h1 : 1 ≤ q.1) : InvK ⟨keysK S.K q, put1 S.R q l, S.n - (S.R q).length + l.length⟩ where
  nodup := by
    show (keysK S.K q).Nodup
    unfold keysK
    split
    · exact h.nodup
    · rename_i hq
      rw [inK_iff] at hq
      rw [List.nodup_append]
      refine ⟨h.nodup, by simp, ?_⟩
      intro a ha b hb
      rw [List.mem_singleton.1 hb]
      rintro rfl
      exact hq ha
  off p hp := by
    rw [mem_keysK, not_or] at hp
    show put1 S.R q l p = []
    rw [put1_other _ _ hp.1]
    exact h.off p hp.2
  pos p hp := by
    show put1 S.R q l p ≠ []
    by_cases e : p = q
    · subst e; rw [put1_same]; exact hl
    · rw [put1_other _ _ e]
      exact h.pos p ((mem_keysK.1 hp).resolve_left e)
  sum := by
    show S.n - (S.R q).length + l.length = (((keysK S.K q).map fun p => (put1 S.R q l p).length).sum : Nat)
    rw [h.sum]
    unfold keysK
    split
    · rename_i hq
      rw [inK_iff] at hq
      have := sum_put S.R q l S.K h.nodup hq
      omega
    · rename_i hq
      rw [inK_iff] at hq
      rw [h.off q hq, List.map_append, List.sum_append, sum_put_out _ _ _ _ hq]
      simp [put1_same]
  tab p y hy := by
    replace hy : y ∈ put1 S.R q l p := hy
    by_cases e : p = q
    · subst e; rw [put1_same] at hy; exact ht y hy
    · rw [put1_other _ _ e] at hy; exact h.tab p y hy
  lean p := by
    show (put1 S.R q l p).Pairwise LeanR
    by_cases e : p = q
    · subst e; rw [put1_same]; exact hlean
    · rw [put1_other _ _ e]; exact h.lean p
  size p hp := by
    rcases mem_keysK.1 hp with rfl | hp
    · exact hs
    · exact h.size p hp
  one p hp := by
    rcases mem_keysK.1 hp with rfl | hp
    · exact h1
    · exact h.one p hp
theorem left_lean {l : List Rd} {x : Rd} (h : l.Pairwise LeanR) (hc : l.any (fun y => cov y x) = false) : (left l x).Pairwise LeanR := by
  unfold left
  rw [List.pairwise_append]
  refine ⟨h.filter _, by simp, fun a ha b hb => ?_⟩
  rw [List.mem_singleton.1 hb]
  rw [List.mem_filter] at ha
  refine ⟨?_, by simpa using ha.2⟩
  have := List.any_eq_false.1 hc a ha.1
  simpa using this
theorem InvK.note {S : St} (h : InvK S) {t : Int} {x : Rd} (ht : 1 ≤ t) (hx : x.OK) (hm : mayB x = true) (hc : (S.R (t, x.t)).any (fun y => cov y x) = false) : InvK ⟨keysK S.K (t, x.t), put1 S.R (t, x.t) (left (S.R (t, x.t)) x), S.n - (S.R (t, x.t)).length + (left (S.R (t, x.t)) x).length⟩ := by
  refine h.put (t, x.t) _ (by unfold left; simp) (fun y hy => ?_) (left_lean (h.lean _) hc) hx.t ht
  unfold left at hy
  rcases List.mem_append.1 hy with hy | hy
  · exact h.tab _ y (List.mem_filter.1 hy).1
  · rw [List.mem_singleton.1 hy]; exact ⟨rfl, hm, hx⟩
theorem pick_inK {K : List Pl} {R : Pl → List Rd} (h : 1 < (pick K R).2) : (pick K R).1 ∈ K ∧ (pick K R).2 = (R (pick K R).1).length := by
  rcases crs_spec (fun q => (R q).length) (srtC cmpPl K) (pl0, 1) with e | ⟨q, hq, e, _⟩
  · unfold pick at h
    rw [e] at h
    exact absurd h (by simp)
  · unfold pick
    rw [e]
    exact ⟨(srtC_perm _).mem_iff.1 hq, rfl⟩
theorem whole_ok {t : ByteArray} (h : t.size ≤ reachBytes) : (whole t).OK := ⟨h, by show (Lit.int .i64 3).wf = true; decide, by show (0 : Nat) ≤ reachBytes; decide, by show (0 : Nat) ≤ reachBytes; decide⟩
theorem InvK.whole {S : St} (h : InvK S) (hp : 1 < (pick S.K S.R).2) : InvK ⟨S.K, put1 S.R (pick S.K S.R).1 [whole (pick S.K S.R).1.2], S.n - (((pick S.K S.R).2 : Int) - 1)⟩ := by
  obtain ⟨h1, h2⟩ := pick_inK hp
  have := h.put (pick S.K S.R).1 [YthaoedfalkebbaaGreat.whole (pick S.K S.R).1.2] (by simp) (fun y hy => by rw [List.mem_singleton.1 hy]; exact ⟨rfl, whole_may _, whole_ok (h.size _ h1)⟩) (by simp) (h.size _ h1) (h.one _ h1)
  have e : keysK S.K (pick S.K S.R).1 = S.K := by unfold keysK; rw [if_pos (inK_iff.2 h1)]
  rw [e] at this
  have e2 : S.n - (((pick S.K S.R).2 : Int) - 1) = S.n - ((S.R (pick S.K S.R).1).length : Int) + (([YthaoedfalkebbaaGreat.whole (pick S.K S.R).1.2].length : Nat) : Int) := by rw [h2]; simp; omega
  rw [e2]
  exact this
/-- whatever the coarsening keeps, where the notes are what they are -/
theorem coarse_keeps {most : Int} {K : List Pl} (P : (Pl → List Rd) → Prop) (hP : ∀ R q, P R → q ∈ K → P (put1 R q [whole q.2])) : ∀ (k : Nat) (R : Pl → List Rd) (n : Int) (R' : Pl → List Rd) (n' : Int), (n - most).toNat ≤ k → InvK ⟨K, R, n⟩ → P R → coarse K most k R n = some (R', n') → InvK ⟨K, R', n'⟩ ∧ P R' ∧ n' ≤ most
  | 0, R, n, R', n', hk, hI, hR, h => by
    injection h with h
    injection h with h1 h2
    subst h1 h2
    exact ⟨hI, hR, by omega⟩
  | k + 1, R, n, R', n', hk, hI, hR, h => by
    have e2 : coarse K most (k + 1) R n = if n ≤ most then some (R, n) else if 1 < (pick K R).2 then coarse K most k (put1 R (pick K R).1 [whole (pick K R).1.2]) (n - (((pick K R).2 : Int) - 1)) else none := rfl
    rw [e2] at h
    by_cases h1 : n ≤ most
    · rw [if_pos h1] at h
      injection h with h
      injection h with h3 h4
      subst h3 h4
      exact ⟨hI, hR, h1⟩
    · rw [if_neg h1] at h
      by_cases h2 : 1 < (pick K R).2
      · rw [if_pos h2] at h
        exact coarse_keeps P hP k (put1 R (pick K R).1 [whole (pick K R).1.2]) (n - (((pick K R).2 : Int) - 1)) R' n' (by omega) (hI.whole h2) (hP _ _ hR (pick_inK h2).1) h
      · rw [if_neg h2] at h
        cases h
/-- Note, plain -/
def noteP (S : St) (most t : Int) (x : Rd) : Int × St :=
  if t < 1 ∨ mayB x = false then (1, S)
  else if (S.R (t, x.t)).any (fun y => cov y x) = true then (0, S)
  else match coarseF (keysK S.K (t, x.t)) most (put1 S.R (t, x.t) (left (S.R (t, x.t)) x)) (S.n - (S.R (t, x.t)).length + (left (S.R (t, x.t)) x).length) with
    | none => (4, S)
    | some (R', n') => (0, ⟨keysK S.K (t, x.t), R', n'⟩)
theorem noteP_inv {S : St} (h : InvK S) {most t : Int} {x : Rd} (hx : x.OK) (hn : S.n ≤ most) : InvK (noteP S most t x).2 ∧ (noteP S most t x).2.n ≤ most := by
  unfold noteP
  split
  · exact ⟨h, hn⟩
  · rename_i h1
    simp only [not_or, Int.not_lt, Bool.not_eq_false] at h1
    split
    · exact ⟨h, hn⟩
    · rename_i h2
      have hI := h.note h1.1 hx h1.2 (by simpa using h2)
      split
      · exact ⟨h, hn⟩
      · rename_i R' n' he
        have := coarse_keeps (most := most) (fun _ => True) (fun _ _ _ _ => trivial) _ _ _ R' n' (Nat.le_refl _) hI trivial he
        exact ⟨this.1, this.2.2⟩
end Go.Proofs.YthaoedfalkebbaaGreat
namespace Go.Proofs.YthaoedfalkebbaaGreat
open Go.RowKit Go.Maps Go.Sort Go.Lib Go.Proofs.YthaoedfalkebbaaGreatW.PrintWords Go.Proofs.YthaoedfalkebbaaGreatW.PrintLast Go.Proofs.YthaoedfalkebbaaGreatW.PrintMore
set_option linter.unusedVariables false
set_option linter.unusedSimpArgs false
set_option linter.unusedSectionVars false
/-! ### a manager's functions over its plain state -/
structure MrS (w : World) (base p b : Nat) (most : Int) (S : St) : Prop where
  ex : ∃ L, Mr w base p b most S.n L S.R ∧ L.map (·.1) = S.K ∧ base ≤ b
  inv : InvK S
  le : S.n ≤ most
  top : most ≤ 65536
  bot : 1 ≤ most
theorem MrS.kept {w w' : World} {base p b : Nat} {most : Int} {S : St} (h : MrS w base p b most S) (hg : w.grownBy w' none) : MrS w' base p b most S := by
  obtain ⟨⟨L, M, hk, hbb⟩, r1, r2, r3, r4⟩ := h
  exact ⟨⟨L, M.kept hg, hk, hbb⟩, r1, r2, r3, r4⟩
theorem MrS.far {w w' : World} {base p b q e : Nat} {most : Int} {S : St} (h : MrS w base p b most S) (hg : w.grownBy w' (some q)) (hq : ∃ c s, w.heap[q]? = some (.cells c e s)) (he : e ≠ 108) (hp : p ≠ q) : MrS w' base p b most S := by
  obtain ⟨⟨L, M, hk, hbb⟩, r1, r2, r3, r4⟩ := h
  exact ⟨⟨L, M.far hg hq he hp, hk, hbb⟩, r1, r2, r3, r4⟩
theorem MrS.lt {w : World} {base p b : Nat} {most : Int} {S : St} (h : MrS w base p b most S) : p < w.heap.size := by
  obtain ⟨⟨L, M, hk, hbb⟩, r⟩ := h
  exact (Array.getElem?_eq_some_iff.1 M.cells).1
theorem MrS.low {w : World} {base p b : Nat} {most : Int} {S : St} (h : MrS w base p b most S) : base ≤ p := by
  obtain ⟨⟨L, M, hk, hbb⟩, r⟩ := h
  exact M.low
theorem MrS.is55 {w : World} {base p b : Nat} {most : Int} {S : St} (h : MrS w base p b most S) : ∃ c s, w.heap[p]? = some (.cells c 150 s) := by
  obtain ⟨⟨L, M, hk, hbb⟩, r⟩ := h
  exact ⟨_, _, M.cells⟩
def St0 : St := ⟨[], fun _ => [], 0⟩
theorem InvK.empty : InvK St0 := ⟨List.nodup_nil, fun _ _ => rfl, by simp [St0], by simp [St0], by simp [St0], by simp [St0], by simp [St0], by simp [St0]⟩
theorem noteF_P (L : List (Pl × Sv)) (S : St) (most t : Int) (x : Rd) (hk : L.map (·.1) = S.K) :
    noteF L S.R most S.n t x = coarseF (keysK S.K (t, x.t)) most (put1 S.R (t, x.t) (left (S.R (t, x.t)) x)) (S.n - (S.R (t, x.t)).length + (left (S.R (t, x.t)) x).length) := by
  unfold noteF
  rw [keysN_K, hk]
theorem Note_S (base p b : Nat) (most : Int) (S : St) (t : Int) (x : Rd) (w : World) (h : MrS w base p b most S) (hx : x.OK) (hwf : (Lit.int .i64 t).wf = true) :
    Calls Tryz.prog 70 #[.pointer (some ⟨p, 0, none⟩), .int .i64 t, .agg #[.string x.t, .int .i64 x.k, .string x.f, .string x.u]] w fun e w' => e = .returned (.int .i64 (noteP S most t x).1) ∧ (∃ b', MrS w' base p b' most (noteP S most t x).2 ∧ (b' = b ∨ w.heap.size ≤ b')) ∧ w.grownBy w' (some p) := by
  obtain ⟨⟨L, M, hk, hbb⟩, hI, hn, h3, h4⟩ := h
  have hinv := noteP_inv hI (t := t) hx hn
  have hlow := M.low
  have hplt : p < w.heap.size := (Array.getElem?_eq_some_iff.1 M.cells).1
  by_cases hb : t < 1 ∨ mayB x = false
  · have e : noteP S most t x = (1, S) := by unfold noteP; rw [if_pos hb]
    rw [e]
    refine (Note_bad base p b most S.n L S.R t x w M hx hb).mono ?_
    rintro e w' ⟨rfl, B⟩
    exact ⟨rfl, ⟨b, ⟨⟨L, M.kept (grown_of_below B none), hk, hbb⟩, hI, hn, h3, h4⟩, .inl rfl⟩, grown_of_below B _⟩
  · have hb' := hb
    simp only [not_or, Int.not_lt, Bool.not_eq_false] at hb'
    have hlen := hI.len
    have hlen' : ∀ q, (S.R q).length ≤ 65536 := fun q => by have := hlen q; omega
    by_cases hc : (S.R (t, x.t)).any (fun y => cov y x) = true
    · have e : noteP S most t x = (0, S) := by unfold noteP; rw [if_neg hb, if_pos hc]
      rw [e]
      refine (Note_held base p b most S.n L S.R t x w M hx hb'.1 hwf hb'.2 (hlen' _) hc).mono ?_
      rintro e w' ⟨rfl, B⟩
      exact ⟨rfl, ⟨b, ⟨⟨L, M.kept (grown_of_below B none), hk, hbb⟩, hI, hn, h3, h4⟩, .inl rfl⟩, grown_of_below B _⟩
    · have hc' : (S.R (t, x.t)).any (fun y => cov y x) = false := by simpa using hc
      have hL : L.length ≤ 65536 := by
        have h1 : L.length = S.K.length := by rw [← hk, List.length_map]
        have := hI.card
        omega
      have F := Note_full base p b most S.n L S.R t x w M hx hb'.1 hwf hb'.2 hlen' hL (hlen _) (by omega) (by omega) hc' (by omega) (fun e he => hI.size _ (by rw [← hk]; exact List.mem_map.2 ⟨e, he, rfl⟩))
      rw [noteF_P L S most t x hk] at F
      refine F.mono ?_
      rintro e w' (⟨hr, rfl, B⟩ | ⟨R', n', b', L', hr, hbb', rfl, M', hk', G⟩)
      · have e : noteP S most t x = (4, S) := by unfold noteP; rw [if_neg hb, if_neg hc, hr]
        rw [e]
        exact ⟨rfl, ⟨b, ⟨⟨L, M.kept (grown_of_below B none), hk, hbb⟩, hI, hn, h3, h4⟩, .inl rfl⟩, grown_of_below B _⟩
      · have e : noteP S most t x = (0, ⟨keysK S.K (t, x.t), R', n'⟩) := by unfold noteP; rw [if_neg hb, if_neg hc, hr]
        rw [e] at hinv ⊢
        refine ⟨rfl, ⟨b', ⟨⟨L', M', ?_, by omega⟩, hinv.1, hinv.2, h3, h4⟩, .inr hbb'⟩, G⟩
        rw [hk', keysN_K, hk]
/-- a transaction's notes -/
def ofP (S : St) (t : Int) : List Rd := (S.K.filter (fun q => q.1 == t)).flatMap S.R
theorem notesT_P (L : List (Pl × Sv)) (S : St) (t : Int) (hk : L.map (·.1) = S.K) : notesT L S.R t = ofP S t := by
  unfold notesT ofP
  rw [← hk, List.filter_map, List.flatMap_map]
  rfl
theorem Of_S (base p b : Nat) (most : Int) (S : St) (t : Int) (w : World) (h : MrS w base p b most S) :
    Calls Tryz.prog 52 #[.pointer (some ⟨p, 0, none⟩), .int .i64 t] w fun e w' => ∃ v, e = .returned v ∧ dR.R 108 w' w.heap.size (fun _ => True) v (srtC cmpRd (ofP S t)) ∧ Below w.heap.size w w' := by
  obtain ⟨⟨L, M, hk, hbb⟩, hI, hn, h3, h4⟩ := h
  have hL : L.length ≤ 65536 := by
    have h1 : L.length = S.K.length := by rw [← hk, List.length_map]
    have := hI.card
    omega
  have hs : sumR L S.R ≤ 65536 := by
    have h1 : sumR L S.R = (S.K.map fun q => (S.R q).length).sum := by unfold sumR; rw [← hk, List.map_map]; rfl
    have := hI.sum
    omega
  have O := Of_calls base p b most S.n L S.R t w M hL hs
  rw [notesT_P L S t hk] at O
  exact O
theorem Len_S (base p b : Nat) (most : Int) (S : St) (w : World) (h : MrS w base p b most S) :
    Calls Tryz.prog 61 #[.pointer (some ⟨p, 0, none⟩)] w fun e w' => e = .returned (.int .i64 S.n) ∧ w = w' := by
  obtain ⟨⟨L, M, hk, hbb⟩, hI, hn, h3, h4⟩ := h
  exact Len_calls base p b most S.n L S.R w M
/-- who has read a key -/
def readP (S : St) (tab key : ByteArray) : List Int := rise ((S.K.filter (fun q => (q.2.toList == tab.toList) && (S.R q).any (fun y => holdB y key))).map (·.1))
theorem readersOf_P (L : List (Pl × Sv)) (S : St) (tab key : ByteArray) (hk : L.map (·.1) = S.K) : readersOf L S.R tab key = readP S tab key := by
  unfold readersOf readP
  rw [← hk, List.filter_map, List.map_map]
  rfl
theorem Readers_S (base p b : Nat) (most : Int) (S : St) (tab key : ByteArray) (w : World) (h : MrS w base p b most S) :
    Calls Tryz.prog 47 #[.pointer (some ⟨p, 0, none⟩), .string tab, .string key] w fun e w' => ∃ v, e = .returned v ∧ dI.R 2 w' w.heap.size (fun _ => True) v (readP S tab key) ∧ Below w.heap.size w w' := by
  obtain ⟨⟨L, M, hk, hbb⟩, hI, hn, h3, h4⟩ := h
  have hL : L.length ≤ 65536 := by
    have h1 : L.length = S.K.length := by rw [← hk, List.length_map]
    have := hI.card
    omega
  have O := Readers_calls base p b most S.n L S.R tab key w M hL (fun q => by have := hI.len q; omega)
  rw [readersOf_P L S tab key hk] at O
  exact O
end Go.Proofs.YthaoedfalkebbaaGreat
namespace Go.Proofs.YthaoedfalkebbaaGreat
open Go.RowKit Go.Maps Go.Sort Go.Lib Go.Proofs.YthaoedfalkebbaaGreatW.PrintWords Go.Proofs.YthaoedfalkebbaaGreatW.PrintLast Go.Proofs.YthaoedfalkebbaaGreatW.PrintMore
set_option linter.unusedVariables false
set_option linter.unusedSimpArgs false
set_option linter.unusedSectionVars false
/-! ### Txns, Contains, without, inner -/
def TJ (w : World) (b r : Nat) (L : List (Pl × Sv)) (v : Value) (wr : World) : Prop :=
  ∃ vis rem : List (Pl × Sv), (vis ++ rem).Perm L ∧ RngN wr b r L.length L rem ∧ w.heap.size ≤ r ∧ dI.R 2 wr w.heap.size (fun k => r < k) v (vis.map (·.1.1)) ∧ Below w.heap.size w wr
set_option maxHeartbeats 8000000 in
set_option maxRecDepth 100000 in
theorem Txns_calls (base p b : Nat) (most many : Int) (L : List (Pl × Sv)) (R : Pl → List Rd) (w : World) (h : Mr w base p b most many L R) (hL : L.length ≤ 65536) :
    Calls Tryz.prog 69 #[.pointer (some ⟨p, 0, none⟩)] w fun e w' => ∃ v, e = .returned v ∧ dI.R 2 w' w.heap.size (fun _ => True) v (rise (L.map (·.1.1))) ∧ Below w.heap.size w w' := by
  obtain ⟨c0, c1, c2⟩ := h.cell
  have N := none_calls p b w c1
  have hblt : b < w.heap.size := h.tab.lt
  obtain ⟨w2, hrun, hRg, hg2, hs2⟩ := Tab.range (t := 148) keyP Tryz.underlying148 (h.tab : TabN w b L.length L)
  go_enter Tryz.func69, Tryz.ntmps69
  go_wp2_with fail
  refine N.mono ?_
  rintro e w' ⟨rfl, rfl⟩
  go_wp2_with fail
  go_loopw [3] (fun v wr => TJ w b w.heap.size L v wr) (fun _ wr => wr.rangeLeft b w.heap.size)
  case atStart =>
    exact ⟨[], L, List.Perm.refl _, hRg, Nat.le_refl _, Kd.R_nil _ _ _ _ _, (Below.refl _ w).grown hg2 (Nat.le_refl _) (by simp)⟩
  case round =>
    obtain ⟨vis, rem, hp, hr, hle, hv, hB⟩ := hrel
    have hlenp := hp.length_eq
    rw [List.length_append] at hlenp
    rcases hr.next keyP valS 0 with ⟨hnil, hrun1⟩ | ⟨a, sv, w3, hmem, hok, hrun1, hr3, hlt, hg3, hs3, hent⟩
    · subst hnil
      rw [List.append_nil] at hp
      have hbase0 := Kd.R_base hv
      have S := rising_calls wr w.heap.size _ u3 _ hv (by rw [List.length_map]; omega)
      rw [rise_congr (fun x => (hp.map _).mem_iff)] at S
      go_wp2_with fail
      refine S.mono ?_
      rintro e w4 ⟨v4, rfl, H4, G4, e4⟩
      go_wp2
      go_ret
      exact ⟨_, rfl, ⟨fun _ _ => trivial, H4.2⟩, hB.grown G4 hB.size (fun k hk => hbase0 k hk)⟩
    · unfold mkP at hrun1 hent
      have hB3 : Below w.heap.size w w3 := hB.grown hg3 hB.size (fun k e => by injection e with e; omega)
      have hv3 : dI.R 2 w3 w.heap.size (fun k => w.heap.size < k) u3 (vis.map (·.1.1)) := Kd.R_grown hv hg3 (fun k hk e => by injection e with e; omega)
      obtain ⟨W, hW⟩ : ∃ W, W = w3.alloc (.cells #[.int .i64 a.1, .string a.2] 156) := ⟨_, rfl⟩
      have BA : Below w3.heap.size w3 W := by rw [hW]; exact (Below.refl _ w3).alloc (Nat.le_refl _) _
      have hrl : w.heap.size < wr.heap.size := hr.lt
      have hop : W.heap[wr.heap.size]? = some (.cells #[.int .i64 a.1, .string a.2] 156 (0, 0)) := by rw [hW, ← hs3]; exact heap_alloc_new w3 _
      have p0 := cell_of_row W _ 0 _ 156 (0, 0) hop
      have BW := below_then hB3 hB3.size BA
      have hvW : dI.R 2 W w.heap.size (fun k => w.heap.size < k) u3 (vis.map (·.1.1)) := Kd.R_below hv3 BA
      obtain ⟨hrW, elW⟩ := hr3.kept (grown_of_below BA none) (by simp) (by simp)
      have hbase0 := Kd.R_base hvW
      have hlen : (vis.map (·.1.1)).length ≤ 65536 := by rw [List.length_map]; omega
      have fin : ∀ v1 w6, dI.R 2 w6 w.heap.size (fun k => w.heap.size < k) v1 (vis.map (·.1.1) ++ [a.1]) → Below w.heap.size w w6 → W.grownBy w6 u3.ownBlock → TJ w b w.heap.size L v1 w6 ∧ w6.rangeLeft b w.heap.size < wr.rangeLeft b w.heap.size := by
        intro v1 w6 H6 B6 G6
        obtain ⟨hr7, el2⟩ := hrW.kept G6 (fun e => by have := hbase0 _ e.symm; omega) (fun e => by have := hvW.1 _ e.symm; omega)
        refine ⟨⟨vis ++ [(a, sv)], _, perm_next hr.apart hp hmem, hr7, Nat.le_refl _, ?_, B6⟩, by rw [el2, elW]; exact hlt⟩
        rw [List.map_append]
        exact H6
      have hWs : w.heap.size < W.heap.size := by have := (Array.getElem?_eq_some_iff.1 hop).1; omega
      replace h := Aside0.mk h
      go_upto_region 7 with (fail)
      rw [← hW]
      clear hW
      go_wp2_with (at_builtin; refine appI (v := u3) rfl rfl rfl rfl hvW BW hlen rfl (fun k hk => by omega) ?_; intro v1 w6 H6 B6 G6)
      exact fin _ _ H6 B6 G6
theorem Txns_S (base p b : Nat) (most : Int) (S : St) (w : World) (h : MrS w base p b most S) :
    Calls Tryz.prog 69 #[.pointer (some ⟨p, 0, none⟩)] w fun e w' => ∃ v, e = .returned v ∧ dI.R 2 w' w.heap.size (fun _ => True) v (rise (S.K.map (·.1))) ∧ Below w.heap.size w w' := by
  obtain ⟨⟨L, M, hk, hbb⟩, hI, hn, h3, h4⟩ := h
  have hL : L.length ≤ 65536 := by
    have h1 : L.length = S.K.length := by rw [← hk, List.length_map]
    have := hI.card
    omega
  have O := Txns_calls base p b most S.n L S.R w M hL
  rw [show L.map (·.1.1) = S.K.map (·.1) by rw [← hk, List.map_map]; rfl] at O
  exact O
/-- a row of whole numbers -/
abbrev RowI (w : World) (base : Nat) (v : Value) (xs : List Int) : Prop := Lo encI 1 2 w base v xs
theorem RowI.at {w : World} {base g n c : Nat} {xs : List Int} (h : RowI w base (.slice (some ⟨g, 0, none⟩) n c) xs) (j : Nat) (x : Int) (hj : xs[j]? = some x) : w.cell? ⟨g, j, none⟩ = some (.int .i64 x) := by
  have H := h.cell (fun _ => rfl) rfl j x hj 0 _ rfl
  simpa using H
def idxI (t : Int) (xs : List Int) : Int := if xs.findIdx (· == t) < xs.length then (xs.findIdx (· == t) : Int) else -1
theorem idxI_any (t : Int) (xs : List Int) : decide (0 ≤ idxI t xs) = xs.any (· == t) := by
  unfold idxI
  cases h : xs.any (· == t) with
  | true =>
    rw [if_pos (List.findIdx_lt_length.2 (by simpa using h))]
    simp
  | false =>
    rw [if_neg (by
      rw [List.findIdx_lt_length]
      rintro ⟨x, hx, h2⟩
      have : xs.any (· == t) = true := List.any_eq_true.2 ⟨x, hx, h2⟩
      rw [h] at this; cases this)]
    simp
def IJ (w : World) (t : Int) (xs : List Int) (v : Value) (wr : World) : Prop := ∃ j : Nat, j ≤ xs.length ∧ v = .int .i64 (j : Int) ∧ wr = w ∧ (∀ i (hi : i < xs.length), i < j → (xs[i] == t) = false)
set_option maxHeartbeats 4000000 in
set_option maxRecDepth 100000 in
theorem Index_calls (base : Nat) (v : Value) (xs : List Int) (t : Int) (w : World) (h : RowI w base v xs) (hl : xs.length ≤ 65536) :
    Calls Tryz.prog 94 #[v, .int .i64 t] w fun e w' => e = .returned (.int .i64 (idxI t xs)) ∧ w = w' := by
  obtain ⟨A, c, rfl, hlc, hA⟩ := h.slice
  go_enter Tryz.func94, Tryz.ntmps94
  go_wp2_with fail
  go_loopw [8] (fun iv wr => IJ w t xs iv wr) (fun iv _ => xs.length - (intOf iv).toNat)
  case atStart => exact ⟨0, Nat.zero_le _, rfl, rfl, fun i _ hi => by omega⟩
  case round =>
    obtain ⟨j, hj, rfl, rfl, hn⟩ := hrel
    by_cases hjl : j < xs.length
    · obtain ⟨g, rfl, _⟩ := hA (by omega)
      have y0 := RowI.at h j xs[j] (List.getElem?_eq_getElem hjl)
      cases hq : xs[j] == t with
      | true =>
        have hfin : idxI t xs = (j : Int) := by
          have e : xs.findIdx (· == t) = j := (List.findIdx_eq hjl).2 ⟨hq, fun k hk => by have := hn k (by omega) hk; simpa using this⟩
          unfold idxI
          rw [e, if_pos hjl]
        have hq' : (t == xs[j]) = true := by rw [beq_iff_eq] at hq ⊢; exact hq.symm
        generalize xs[j] = x at y0 hq'
        clear h hn hq
        go_wp2
        go_ret
        exact ⟨by rw [hfin]; rfl, rfl⟩
      | false =>
        have hq' : (t == xs[j]) = false := by rw [beq_eq_false_iff_ne] at hq ⊢; exact fun e => hq e.symm
        have fin : IJ wr t xs (.int .i64 ((j : Int) + 1)) wr := by
          refine ⟨j + 1, by omega, by simp, rfl, fun i hi hij => ?_⟩
          rcases Nat.lt_or_ge i j with h1 | h1
          · exact hn i hi h1
          · obtain rfl : i = j := by omega
            exact hq
        generalize xs[j] = x at y0 hq'
        clear h hn hq
        go_wp2
        refine ⟨fin, ?_⟩
        simp [intOf]
        omega
    · obtain rfl : j = xs.length := by omega
      have hfin : idxI t xs = -1 := by
        unfold idxI
        rw [if_neg]
        rw [List.findIdx_lt_length]
        rintro ⟨x, hx, h2⟩
        obtain ⟨i, hi, rfl⟩ := List.getElem_of_mem hx
        have := hn i hi hi
        rw [h2] at this; cases this
      clear h hn
      go_wp2
      go_ret
      exact ⟨by rw [hfin]; rfl, rfl⟩
set_option maxRecDepth 100000 in
theorem Contains_calls (base : Nat) (v : Value) (xs : List Int) (t : Int) (w : World) (h : RowI w base v xs) (hl : xs.length ≤ 65536) :
    Calls Tryz.prog 50 #[v, .int .i64 t] w fun e w' => e = .returned (.bool (xs.any (· == t))) ∧ w = w' := by
  have I := Index_calls base v xs t w h hl
  have hd := idxI_any t xs
  generalize idxI t xs = d at I hd
  clear h
  go_enter Tryz.func50, Tryz.ntmps50
  go_wp2_with fail
  refine I.mono ?_
  rintro e w' ⟨rfl, rfl⟩
  go_wp2
  go_ret
  exact ⟨by rw [← hd]; first | rfl | (congr 2; exact decide_eq_decide.2 (by omega)), rfl⟩
end Go.Proofs.YthaoedfalkebbaaGreat
namespace Go.Proofs.YthaoedfalkebbaaGreat
open Go.RowKit Go.Maps Go.Sort Go.Lib Go.Proofs.YthaoedfalkebbaaGreatW.PrintWords Go.Proofs.YthaoedfalkebbaaGreatW.PrintLast Go.Proofs.YthaoedfalkebbaaGreatW.PrintMore
set_option linter.unusedVariables false
set_option linter.unusedSimpArgs false
set_option linter.unusedSectionVars false
/-! ### Drop -/
section
variable {P : Program} {α β : Type} [DecidableEq α] {k : TypeId} {mk : α → Value} {ok : α → Prop} {R : Value → Option (DataW Unit × List MemPlace)} {cd : β → DataW Unit}
theorem Rng.drop {t e : TypeId} (K : KeyAs P k mk ok) (ht : P.underlying t = some (.map k e)) {w : World} {b r n : Nat} {L rem : List (α × β)} (h : Rng P k mk ok R cd w b r n L rem) {a : α} (ha : ok a) (ty : TypeId) :
    ∃ w', (Builtin.delete_ #[t, k] ty #[.map (some b), mk a]).run P w = .ok (.tuple #[]) w' ∧ Rng P k mk ok R cd w' b r n (L.filter (fun p => p.1 ≠ a)) (rem.filter (fun p => p.1 ≠ a)) ∧ w'.rangeLeft b r ≤ w.rangeLeft b r ∧ w.mapTurned w' b := by
  obtain ⟨D, left, h1, h2, h3, h4, h5⟩ := h
  obtain ⟨kl, hk⟩ := K.lit a ha
  obtain ⟨w', cnt', hrun, h6, hle, hturn⟩ := h1.drop K.keyed ht hk ty
  have e2 := h6.left_eq
  refine ⟨w', hrun, ⟨D.del kl, _, by rw [e2]; exact h6, h2.del K (h1.owns.tidy K.keyed) hk, h3.filter _, fun p hp => ?_, fun a' kl' hk' => ?_⟩, by rw [e2]; exact hle, hturn⟩
  · obtain ⟨hp1, hp2⟩ := List.mem_filter.1 hp
    exact List.mem_filter.2 ⟨h4 p hp1, hp2⟩
  · by_cases e3 : a' = a
    · subst e3
      have : kl' = kl := (same_key K hk' hk).2 rfl
      subst this
      rw [WideAt.sameKey_self (K.keyed.key hk)]
      simp
    · have hne : kl' ≠ kl := fun e' => e3 ((same_key K hk' hk).1 e')
      rw [sameKey_ne hne]
      simp only [Bool.not_false, Bool.and_true]
      rw [h5 a' kl' hk']
      simp [e3]
end
set_option maxHeartbeats 1000000 in
set_option maxRecDepth 100000 in
theorem closure45_no (q : Pl) (u : Value) (bt bp : Nat) (t : Int) (w : World) (h1 : w.heap[bt]? = some (.cells #[.int .i64 t] 2 (0, 0))) (hne : q.1 ≠ t) :
    Calls Tryz.prog 103 #[.agg #[.int .i64 q.1, .string q.2], u, .pointer (some ⟨bt, 0, none⟩), .pointer (some ⟨bp, 0, none⟩)] w fun e w' => e = .returned (.bool false) ∧ Below w.heap.size w w' := by
  obtain ⟨w1, hw1⟩ : ∃ w1, w1 = w.alloc (.cells #[.int .i64 q.1, .string q.2] 156) := ⟨_, rfl⟩
  have B1 : Below w.heap.size w w1 := by rw [hw1]; exact (Below.refl _ w).alloc (Nat.le_refl _) _
  have o1 : w1.heap[w.heap.size]? = some (boxP q) := by rw [hw1]; exact heap_alloc_new w _
  have c0 := cell_of_row w1 _ 0 _ 156 (0, 0) o1
  have d0 := cell_of_row w1 bt 0 _ 2 (0, 0) (blk_below h1 B1)
  have hne' : (q.1 != t) = true := by simpa using hne
  clear o1 hne
  go_enter Tryz.func103, Tryz.ntmps103
  go_upto_region 1 with (fail)
  rw [← hw1]
  clear hw1
  go_wp2
  go_ret
  exact ⟨rfl, B1⟩
set_option maxHeartbeats 1000000 in
set_option maxRecDepth 100000 in
theorem closure45_yes (q : Pl) (A : Option Addr) (n c : Nat) (bt bp p b : Nat) (t most many : Int) (w : World) (h1 : w.heap[bt]? = some (.cells #[.int .i64 t] 2 (0, 0))) (h2 : w.heap[bp]? = some (.cells #[.pointer (some ⟨p, 0, none⟩)] 88 (0, 0)))
    (h3 : w.heap[p]? = some (.cells #[.int .i64 most, .map (some b), .int .i64 many] 150 (0, 0))) (he : q.1 = t) (hn : n ≤ 65536) (hm : 0 ≤ many) (hm2 : many ≤ 65536) :
    Calls Tryz.prog 103 #[.agg #[.int .i64 q.1, .string q.2], .slice A n c, .pointer (some ⟨bt, 0, none⟩), .pointer (some ⟨bp, 0, none⟩)] w fun e w' => e = .returned (.bool true) ∧ w.grownBy w' (some p) ∧ w'.heap[p]? = some (.cells #[.int .i64 most, .map (some b), .int .i64 (many - n)] 150 (0, 0)) := by
  obtain ⟨w1, hw1⟩ : ∃ w1, w1 = w.alloc (.cells #[.int .i64 q.1, .string q.2] 156) := ⟨_, rfl⟩
  have B1 : Below w.heap.size w w1 := by rw [hw1]; exact (Below.refl _ w).alloc (Nat.le_refl _) _
  have o1 : w1.heap[w.heap.size]? = some (boxP q) := by rw [hw1]; exact heap_alloc_new w _
  have c0 := cell_of_row w1 _ 0 _ 156 (0, 0) o1
  have d0 := cell_of_row w1 bt 0 _ 2 (0, 0) (blk_below h1 B1)
  have f0 := cell_of_row w1 bp 0 _ 88 (0, 0) (blk_below h2 B1)
  have op := blk_below h3 B1
  have m2 := cell_of_row w1 p 2 _ 150 (0, 0) op
  have fz := blk_fz op 2
  have hne' : (q.1 != t) = false := by simpa using he
  have fin := blk_set op 2 (.int .i64 (many - n))
  have G := grown_set w1 p 2 (.int .i64 (many - n))
  clear o1 he op
  replace fin := Aside0.mk fin
  replace G := Aside0.mk G
  go_enter Tryz.func103, Tryz.ntmps103
  go_upto_region 1 with (fail)
  rw [← hw1]
  clear hw1
  go_wp2
  go_ret
  exact ⟨rfl, trans_grown (grown_of_below B1 _) G.out, fin.out⟩
theorem sumR_del (R : Pl → List Rd) (a : Pl) (sv : Sv) : ∀ L : List (Pl × Sv), L.Pairwise (fun p p' => p.1 ≠ p'.1) → (a, sv) ∈ L → sumR (L.filter (fun p => p.1 ≠ a)) R + (R a).length = sumR L R
  | [], _, h => by cases h
  | e :: L, hp, h => by
    rw [List.pairwise_cons] at hp
    by_cases he : e.1 = a
    · have hf : L.filter (fun p => p.1 ≠ a) = L := List.filter_eq_self.2 (fun p hp' => by simpa using fun e2 => hp.1 p hp' (he.trans e2.symm))
      rw [List.filter_cons, if_neg (by simp [he]), hf]
      simp [sumR, he]
      omega
    · have hm : (a, sv) ∈ L := by
        rcases List.mem_cons.1 h with h | h
        · exact absurd (by rw [← h]) he
        · exact h
      have ih := sumR_del R a sv L hp.2 hm
      rw [List.filter_cons, if_pos (by simp [he])]
      simp only [sumR, List.map_cons, List.sum_cons] at ih ⊢
      omega
/-- what a step leaves that changes block p and whatever is no cells -/
structure But (base p b : Nat) (w w' : World) : Prop where
  below : Below base w w'
  size : w.heap.size ≤ w'.heap.size
  cells : ∀ k o, k ≠ p → k ≠ b → w.heap[k]? = some o → w'.heap[k]? = some o
theorem But.refl (base p b : Nat) (w : World) : But base p b w w := ⟨Below.refl _ _, Nat.le_refl _, fun _ _ _ _ h => h⟩
theorem But.grown {base p b : Nat} {w w1 w2 : World} (h : But base p b w w1) (hb : base ≤ w1.heap.size) (g : w1.grownBy w2 none) : But base p b w w2 := ⟨h.below.grown g hb (by simp), Nat.le_trans h.size g.size, fun k o hk hb2 hw => (g.block k (Array.getElem?_eq_some_iff.1 (h.cells k o hk hb2 hw)).1 (by simp)).trans (h.cells k o hk hb2 hw)⟩
theorem But.atP {base p b : Nat} {w w1 w2 : World} (h : But base p b w w1) (hb : base ≤ w1.heap.size) (hp : base ≤ p) (g : w1.grownBy w2 (some p)) : But base p b w w2 := ⟨h.below.grown g hb (fun k e => by injection e with e; omega), Nat.le_trans h.size g.size, fun k o hk hb2 hw => (g.block k (Array.getElem?_eq_some_iff.1 (h.cells k o hk hb2 hw)).1 (by simpa using hk)).trans (h.cells k o hk hb2 hw)⟩
theorem But.atMap {base p b : Nat} {w w1 w2 : World} (h : But base p b w w1) (hb : base ≤ w1.heap.size) (hp : base ≤ b) (g : w1.mapTurned w2 b) : But base p b w w2 := by
  have g' := turned_grown g
  obtain ⟨es, clock, _, _, hm, _⟩ := g
  exact ⟨h.below.grown g' hb (fun k e => by injection e with e; omega), Nat.le_trans h.size g'.size, fun k o hk hb2 hw => by
    have h1 := h.cells k o hk hb2 hw
    exact (g'.block k (Array.getElem?_eq_some_iff.1 h1).1 (by simpa using hb2)).trans h1⟩
end Go.Proofs.YthaoedfalkebbaaGreat
namespace Go.Proofs.YthaoedfalkebbaaGreat
open Go.RowKit Go.Maps Go.Sort Go.Lib Go.Proofs.YthaoedfalkebbaaGreatW.PrintWords Go.Proofs.YthaoedfalkebbaaGreatW.PrintLast Go.Proofs.YthaoedfalkebbaaGreatW.PrintMore
set_option linter.unusedVariables false
set_option linter.unusedSimpArgs false
set_option linter.unusedSectionVars false
/-! ### maps.DeleteFunc, Drop -/
def DJ (base p b r : Nat) (most t : Int) (L : List (Pl × Sv)) (R : Pl → List Rd) (w wr : World) : Prop :=
  ∃ (vis rem : List (Pl × Sv)) (D : List Pl), (vis ++ rem).Perm L ∧ RngN wr b r L.length (L.filter (fun e => !inK D e.1)) rem ∧ (∀ a ∈ D, a.1 = t) ∧ (∀ e ∈ vis, e.1.1 = t → e.1 ∈ D) ∧ (∀ a ∈ D, a ∈ vis.map (·.1)) ∧ But base p b w wr ∧
    wr.heap[p]? = some (.cells #[.int .i64 most, .map (some b), .int .i64 (sumR (L.filter (fun e => !inK D e.1)) R : Nat)] 150 (0, 0))
theorem sumR_filter (R : Pl → List Rd) (c : Pl × Sv → Bool) : ∀ L : List (Pl × Sv), sumR (L.filter c) R ≤ sumR L R
  | [] => Nat.le_refl _
  | e :: L => by
    have ih := sumR_filter R c L
    rw [List.filter_cons]
    split
    · simp only [sumR, List.map_cons, List.sum_cons] at ih ⊢; omega
    · simp only [sumR, List.map_cons, List.sum_cons] at ih ⊢; omega
theorem enters45 : ∀ args w, (callFunc 103 args).run Tryz.prog w = .ok (.enter 103 args) w := enters_of Tryz.func103 (by kernel_rfl) rfl
set_option maxHeartbeats 8000000 in
set_option maxRecDepth 100000 in
theorem DeleteFunc44 (base p b bt bp : Nat) (most t : Int) (L : List (Pl × Sv)) (R : Pl → List Rd) (w : World) (h1 : w.heap[bt]? = some (.cells #[.int .i64 t] 2 (0, 0))) (h2 : w.heap[bp]? = some (.cells #[.pointer (some ⟨p, 0, none⟩)] 88 (0, 0)))
    (h3 : w.heap[p]? = some (.cells #[.int .i64 most, .map (some b), .int .i64 (sumR L R : Nat)] 150 (0, 0))) (T : TabN w b L.length L) (hrows : ∀ e ∈ L, RowR w base (mvS e.2) (R e.1)) (hsum : sumR L R ≤ 65536) (hp : base ≤ p) (hb : base ≤ b) :
    Calls Tryz.prog 102 #[.map (some b), .func (.func 103) #[] #[.pointer (some ⟨bt, 0, none⟩), .pointer (some ⟨bp, 0, none⟩)]] w fun e w' => e = .returned (.tuple #[]) ∧ But base p b w w' ∧ TabN w' b (L.filter (fun e => e.1.1 != t)).length (L.filter (fun e => e.1.1 != t)) ∧
      w'.heap[p]? = some (.cells #[.int .i64 most, .map (some b), .int .i64 (sumR (L.filter (fun e => e.1.1 != t)) R : Nat)] 150 (0, 0)) := by
  have tidy := T.tidy
  have hpw : p < w.heap.size := (Array.getElem?_eq_some_iff.1 h3).1
  have hbw : base ≤ w.heap.size := by omega
  have hbp : b ≠ p := by
    rintro rfl
    obtain ⟨es, clock, hm⟩ := T.isMap
    rw [hm] at h3
    cases h3
  have hbtb : bt ≠ b := by
    rintro rfl
    obtain ⟨es, clock, hm⟩ := T.isMap
    rw [hm] at h1
    cases h1
  have hbpb : bp ≠ b := by
    rintro rfl
    obtain ⟨es, clock, hm⟩ := T.isMap
    rw [hm] at h2
    cases h2
  have hbtp : bt ≠ p := by rintro rfl; rw [h1] at h3; injection h3 with h3; injection h3 with _ h3; cases h3
  have hbpp : bp ≠ p := by rintro rfl; rw [h2] at h3; injection h3 with h3; injection h3 with _ h3; cases h3
  obtain ⟨w2, hrun, hRg, hg2, hs2⟩ := Tab.range (t := 148) keyP Tryz.underlying148 T
  have J0 : DJ base p b w.heap.size most t L R w w2 := by
    have e0 : L.filter (fun e => !inK [] e.1) = L := List.filter_eq_self.2 (fun e _ => by simp [inK])
    refine ⟨[], L, [], List.Perm.refl _, by rw [e0]; exact hRg, by simp, by simp, by simp, (But.refl _ _ _ _).grown hbw hg2, ?_⟩
    rw [e0]
    exact (hg2.block p hpw (by simp)).trans h3
  clear hRg T
  go_enter Tryz.func102, Tryz.ntmps102
  go_wp2_with fail
  go_loopw [4] (fun _ wr => DJ base p b w.heap.size most t L R w wr) (fun _ wr => wr.rangeLeft b w.heap.size)
  case atStart => exact J0
  case round =>
    clear J0 hs2 hg2 hrun
    obtain ⟨vis, rem, D, hpm, hr, hD1, hD2, hD3, hbut, hcp⟩ := hrel
    rcases hr.next keyP valS 0 with ⟨hnil, hrun1⟩ | ⟨a, sv, w3, hmem, hok, hrun1, hr3, hlt, hg3, hs3, hent⟩
    · subst hnil
      rw [List.append_nil] at hpm
      have ef : L.filter (fun e => !inK D e.1) = L.filter (fun e => e.1.1 != t) := by
        refine List.filter_congr fun e he => ?_
        have hv : e ∈ vis := hpm.mem_iff.2 he
        by_cases ht : e.1.1 = t
        · have h4 := inK_iff.2 (hD2 e hv ht)
          simp [ht, h4]
        · have h4 : inK D e.1 = false := by
            cases h5 : inK D e.1 with
            | false => rfl
            | true => exact absurd (hD1 _ (inK_iff.1 h5)) ht
          simp [ht, h4]
      rw [ef] at hr hcp
      have hT := hr.tab.exact
      clear hr
      go_wp2
      go_end0
      exact ⟨rfl, hbut, hT, hcp⟩
    · unfold mkP at hrun1 hent
      have hwr := hr.lt
      obtain ⟨W, hW⟩ : ∃ W, W = w3.alloc (.cells #[.int .i64 a.1, .string a.2] 156) := ⟨_, rfl⟩
      have GA : w3.grownBy W none := by rw [hW]; exact World.grownBy_alloc _ _ _
      have hop : W.heap[wr.heap.size]? = some (.cells #[.int .i64 a.1, .string a.2] 156 (0, 0)) := by rw [hW, ← hs3]; exact heap_alloc_new w3 _
      have p0 := cell_of_row W _ 0 _ 156 (0, 0) hop
      have p1 := cell_of_row W _ 1 _ 156 (0, 0) hop
      have hmL : (a, sv) ∈ L := hpm.mem_iff.1 (List.mem_append_right _ hmem)
      obtain ⟨A, c, hmv, hlc, _⟩ := (hrows _ hmL).slice
      rw [hmv] at hrun1 hent
      have hRa : (R a).length ≤ sumR L R := by
        obtain ⟨l1, l2, e⟩ := List.append_of_mem hmL
        rw [e, sumR_append]
        simp [sumR]
        omega
      have hsD := sumR_filter R (fun e => !inK D e.1) L
      have hrb : w.heap.size ≠ p := by omega
      have but3 : But base p b w w3 := ⟨hbut.below.grown hg3 (Nat.le_trans hbw hbut.size) (fun k e => by injection e with e; omega), Nat.le_trans hbut.size hg3.size, fun k o hk hb2 hw => by
        have h4 := hbut.cells k o hk hb2 hw
        refine (hg3.block k (Array.getElem?_eq_some_iff.1 h4).1 (fun e2 => ?_)).trans h4
        injection e2 with e2
        have := (Array.getElem?_eq_some_iff.1 hw).1
        omega⟩
      have butW := but3.grown (Nat.le_trans hbw but3.size) GA
      have hc3 : w3.heap[p]? = _ := (hg3.block p (Array.getElem?_eq_some_iff.1 hcp).1 (by simp; omega)).trans hcp
      have hcW : W.heap[p]? = _ := (GA.block p (Array.getElem?_eq_some_iff.1 hc3).1 (by simp)).trans hc3
      obtain ⟨hrW, elW⟩ := hr3.kept GA (by simp) (by simp)
      have t1 := butW.cells bt _ hbtp hbtb h1
      have t2 := butW.cells bp _ hbpp hbpb h2
      have hnd : ∀ e ∈ vis, e.1 ≠ a := by
        intro e he e2
        have hpw := hpm.symm.pairwise_iff (R := fun x y : Pl × Sv => x.1 ≠ y.1) (fun {x y} h => fun e3 => h e3.symm) |>.1 tidy
        exact (List.pairwise_append.1 hpw).2.2 e he (a, sv) hmem e2
      have haD : a ∉ D := fun h => by
        obtain ⟨e, he, e2⟩ := List.mem_map.1 (hD3 a h)
        exact hnd e he e2
      by_cases hyes : a.1 = t
      · have C := closure45_yes a A (R a).length c bt bp p b t most (sumR (L.filter (fun e => !inK D e.1)) R : Nat) W t1 t2 hcW hyes (by omega) (by omega) (by omega)
        have hLc : (a, sv) ∈ L.filter (fun e => !inK D e.1) := by
          refine List.mem_filter.2 ⟨hmL, ?_⟩
          cases h5 : inK D a with
          | false => rfl
          | true => exact absurd (inK_iff.1 h5) haD
        have hdel := sumR_del R a sv _ (tidy.filter (fun e => !inK D e.1)) hLc
        have eD : (L.filter (fun e => !inK D e.1)).filter (fun e => e.1 ≠ a) = L.filter (fun e => !inK (a :: D) e.1) := by
          rw [List.filter_filter]
          refine List.filter_congr fun e _ => ?_
          simp only [inK, List.any_cons, Bool.not_or]
          by_cases h6 : e.1 = a
          · simp [h6]
          · have h7 : ¬ a = e.1 := fun h => h6 h.symm
            simp [h6, h7]
        have eR : (rem.filter (fun e => e.1 ≠ a)).filter (fun e => e.1 ≠ a) = rem.filter (fun e => e.1 ≠ a) := by
          rw [List.filter_filter]; refine List.filter_congr fun e _ => ?_; simp
        have step : ∀ W5, W.grownBy W5 (some p) → W5.heap[p]? = some (.cells #[.int .i64 most, .map (some b), .int .i64 ((sumR (L.filter (fun e => !inK D e.1)) R : Nat) - ((R a).length : Nat))] 150 (0, 0)) → ∃ W6, (Builtin.delete_ #[148, 156] 0 #[.map (some b), .agg #[.int .i64 a.1, .string a.2]]).run Tryz.prog W5 = .ok (.tuple #[]) W6 ∧ DJ base p b w.heap.size most t L R w W6 ∧ W6.rangeLeft b w.heap.size < wr.rangeLeft b w.heap.size := by
          intro W5 G5 hc5
          obtain ⟨hr5, el5⟩ := hrW.kept G5 (fun e => by injection e with e; exact hbp e) (fun e => by injection e with e; exact hrb e)
          obtain ⟨W6, hrun6, hr6, hle6, hturn6⟩ := hr5.drop (t := 148) keyP Tryz.underlying148 hok 0
          rw [eD, eR] at hr6
          have but5 := butW.atP (Nat.le_trans hbw butW.size) hp G5
          have but6 := but5.atMap (Nat.le_trans hbw but5.size) hb hturn6
          refine ⟨W6, hrun6, ⟨vis ++ [(a, sv)], _, a :: D, perm_next hr.apart hpm hmem, hr6, ?_, ?_, ?_, but6, ?_⟩, by omega⟩
          · intro q hq
            rcases List.mem_cons.1 hq with rfl | hq
            · exact hyes
            · exact hD1 q hq
          · intro e he ht
            rcases List.mem_append.1 he with he | he
            · exact List.mem_cons_of_mem _ (hD2 e he ht)
            · rw [List.mem_singleton.1 he]; exact List.mem_cons_self
          · intro q hq
            rw [List.map_append]
            rcases List.mem_cons.1 hq with rfl | hq
            · exact List.mem_append_right _ (by simp)
            · exact List.mem_append_left _ (hD3 q hq)
          · have hs : ((sumR (L.filter (fun e => !inK D e.1)) R : Nat) : Int) - ((R a).length : Nat) = ((sumR ((L.filter (fun e => !inK D e.1)).filter (fun p => p.1 ≠ a)) R : Nat) : Int) := by omega
            rw [((turned_grown hturn6).block p (Array.getElem?_eq_some_iff.1 hc5).1 (fun e => by injection e with e; exact hbp e.symm)), hc5, ← eD, hs]
        replace step := Aside0.mk step
        replace hrows := Aside0.mk hrows
        replace hyes := Aside0.mk hyes
        go_upto_region 3 with (fail)
        rw [← hW]
        clear hW
        go_wp2_with fail
        refine C.mono ?_
        rintro e W5 ⟨rfl, G5, hc5⟩
        obtain ⟨W6, hrun6, hJ6, hl6⟩ := step.out W5 G5 hc5
        have s0 := (G5.block _ (Array.getElem?_eq_some_iff.1 hop).1 (by simp; omega)).trans hop
        have s1 := cell_of_row W5 _ 0 _ 156 (0, 0) s0
        have s2 := cell_of_row W5 _ 1 _ 156 (0, 0) s0
        clear s0 hop p0 p1
        replace hJ6 := Aside0.mk hJ6
        go_wp2
        exact ⟨hJ6.out, hl6⟩
      · have C := closure45_no a (.slice A (R a).length c) bt bp t W t1 hyes
        have fin : ∀ W5, Below W.heap.size W W5 → DJ base p b w.heap.size most t L R w W5 ∧ W5.rangeLeft b w.heap.size < wr.rangeLeft b w.heap.size := by
          intro W5 B5
          obtain ⟨hr5, el5⟩ := hrW.kept (grown_of_below B5 none) (by simp) (by simp)
          refine ⟨⟨vis ++ [(a, sv)], _, D, perm_next hr.apart hpm hmem, hr5, hD1, ?_, ?_, butW.grown (Nat.le_trans hbw butW.size) (grown_of_below B5 none), blk_below hcW B5⟩, by omega⟩
          · intro e he ht
            rcases List.mem_append.1 he with he | he
            · exact hD2 e he ht
            · rw [List.mem_singleton.1 he] at ht; exact absurd ht hyes
          · intro q hq
            rw [List.map_append]
            exact List.mem_append_left _ (hD3 q hq)
        replace fin := Aside0.mk fin
        replace hrows := Aside0.mk hrows
        go_upto_region 3 with (fail)
        rw [← hW]
        clear hW
        go_wp2_with fail
        refine C.mono ?_
        rintro e W5 ⟨rfl, B5⟩
        go_wp2
        exact fin.out _ B5
end Go.Proofs.YthaoedfalkebbaaGreat
namespace Go.Proofs.YthaoedfalkebbaaGreat
open Go.RowKit Go.Maps Go.Sort Go.Lib Go.Proofs.YthaoedfalkebbaaGreatW.PrintWords Go.Proofs.YthaoedfalkebbaaGreatW.PrintLast Go.Proofs.YthaoedfalkebbaaGreatW.PrintMore
set_option linter.unusedVariables false
set_option linter.unusedSimpArgs false
set_option linter.unusedSectionVars false
/-! ### Drop -/
def dropR (R : Pl → List Rd) (t : Int) : Pl → List Rd := fun q => if q.1 = t then [] else R q
def dropS (S : St) (t : Int) : St := ⟨S.K.filter (fun q => q.1 != t), dropR S.R t, (((S.K.filter (fun q => q.1 != t)).map fun q => (dropR S.R t q).length).sum : Nat)⟩
def dropP (S : St) (t : Int) : Int × St := if t < 1 then (1, S) else (0, dropS S t)
theorem dropR_other (R : Pl → List Rd) {t : Int} {q : Pl} (h : q.1 ≠ t) : dropR R t q = R q := by unfold dropR; rw [if_neg h]
theorem dropR_same (R : Pl → List Rd) {t : Int} {q : Pl} (h : q.1 = t) : dropR R t q = [] := by unfold dropR; rw [if_pos h]
theorem dropS_inv {S : St} (h : InvK S) (t : Int) : InvK (dropS S t) where
  nodup := h.nodup.filter _
  off q hq := by
    show dropR S.R t q = []
    by_cases ht : q.1 = t
    · exact dropR_same _ ht
    · rw [dropR_other _ ht]
      refine h.off q fun hK => hq (List.mem_filter.2 ⟨hK, by simpa using ht⟩)
  pos q hq := by
    obtain ⟨h1, h2⟩ := List.mem_filter.1 hq
    show dropR S.R t q ≠ []
    rw [dropR_other _ (by simpa using h2)]
    exact h.pos q h1
  sum := rfl
  tab q y hy := by
    replace hy : y ∈ dropR S.R t q := hy
    unfold dropR at hy
    split at hy
    · cases hy
    · exact h.tab q y hy
  lean q := by
    show (dropR S.R t q).Pairwise LeanR
    unfold dropR
    split
    · exact List.Pairwise.nil
    · exact h.lean q
  size q hq := h.size q (List.mem_filter.1 hq).1
  one q hq := h.one q (List.mem_filter.1 hq).1
theorem sum_filter_le (f : Pl → Nat) (c : Pl → Bool) : ∀ K : List Pl, ((K.filter c).map f).sum ≤ (K.map f).sum
  | [] => Nat.le_refl _
  | q :: K => by
    have ih := sum_filter_le f c K
    rw [List.filter_cons]
    split
    · simp only [List.map_cons, List.sum_cons]; omega
    · simp only [List.map_cons, List.sum_cons]; omega
theorem drop_sum (R : Pl → List Rd) (t : Int) (K : List Pl) : ((K.filter (fun q => q.1 != t)).map fun q => (dropR R t q).length) = ((K.filter (fun q => q.1 != t)).map fun q => (R q).length) := by
  refine List.map_congr_left fun q hq => ?_
  rw [dropR_other _ (by simpa using (List.mem_filter.1 hq).2)]
theorem dropS_le {S : St} (h : InvK S) (t : Int) : (dropS S t).n ≤ S.n := by
  rw [h.sum]
  show ((((S.K.filter (fun q => q.1 != t)).map fun q => (dropR S.R t q).length).sum : Nat) : Int) ≤ _
  rw [drop_sum]
  have := sum_filter_le (fun q => (S.R q).length) (fun q => q.1 != t) S.K
  omega
theorem got_filter (t : Int) (q : Pl) (hq : q.1 ≠ t) : ∀ L : List (Pl × Sv), got (L.filter (fun e => e.1.1 != t)) q = got L q
  | [] => rfl
  | e :: L => by
    have ih := got_filter t q hq L
    rw [List.filter_cons]
    by_cases he : (e.1.1 != t) = true
    · rw [if_pos he]
      unfold got at ih ⊢
      rw [List.find?_cons, List.find?_cons]
      split
      · rfl
      · exact ih
    · rw [if_neg he, ih]
      unfold got
      rw [List.find?_cons]
      have hne : ¬ e.1 = q := fun e2 => he (by rw [e2]; simpa using hq)
      simp [hne]
set_option maxHeartbeats 4000000 in
set_option maxRecDepth 100000 in
theorem Drop_S (base p b : Nat) (most : Int) (S : St) (t : Int) (w : World) (h : MrS w base p b most S) :
    Calls Tryz.prog 54 #[.pointer (some ⟨p, 0, none⟩), .int .i64 t] w fun e w' => e = .returned (.int .i64 (dropP S t).1) ∧ MrS w' base p b most (dropP S t).2 ∧ But base p b w w' := by
  obtain ⟨⟨L, M, hk, hbb⟩, hI, hn, h3, h4⟩ := h
  have hpw : p < w.heap.size := (Array.getElem?_eq_some_iff.1 M.cells).1
  have hlow := M.low
  obtain ⟨w1, hw1⟩ : ∃ w1, w1 = (w.alloc (.cells #[.pointer (some ⟨p, 0, none⟩)] 88)).alloc (.cells #[.int .i64 t] 2) := ⟨_, rfl⟩
  have B1 : Below w.heap.size w w1 := by rw [hw1]; exact below_alloc ((Below.refl _ w).alloc (Nat.le_refl _) _) _
  have o0 : w1.heap[w.heap.size]? = some (.cells #[.pointer (some ⟨p, 0, none⟩)] 88 (0, 0)) := by rw [hw1]; exact (Below.heap_alloc _ _ _ (by simp)).trans (heap_alloc_new w _)
  have o1 : w1.heap[w.heap.size + 1]? = some (.cells #[.int .i64 t] 2 (0, 0)) := by
    rw [hw1]
    have := heap_alloc_new (w.alloc (.cells #[.pointer (some ⟨p, 0, none⟩)] 88)) (.cells #[.int .i64 t] 2)
    simpa using this
  have c0 := cell_of_row w1 _ 0 _ 88 (0, 0) o0
  have c1 := cell_of_row w1 _ 0 _ 2 (0, 0) o1
  have M1 := M.kept (grown_of_below B1 none)
  have N := none_calls p b w1 M1.cell.2.1
  have hsum : S.n = ((sumR L S.R : Nat) : Int) := by
    rw [hI.sum]
    unfold sumR
    rw [← hk, List.map_map]
    rfl
  have but1 := (But.refl base p b w).grown (by omega) (grown_of_below B1 none)
  by_cases ht : t < 1
  · have e : dropP S t = (1, S) := by unfold dropP; rw [if_pos ht]
    rw [e]
    have ht' : t < 1 := ht
    go_enter Tryz.func54, Tryz.ntmps54
    go_upto_region 1 with (fail)
    rw [← hw1]
    clear hw1
    go_wp2_with fail
    refine N.mono ?_
    rintro e w' ⟨rfl, rfl⟩
    go_wp2
    go_ret
    exact ⟨rfl, ⟨⟨L, M1, hk, hbb⟩, hI, hn, h3, h4⟩, but1⟩
  · have e : dropP S t = (0, dropS S t) := by unfold dropP; rw [if_neg ht]
    rw [e]
    have hcell := M1.cells
    rw [hsum] at hcell
    have D := DeleteFunc44 base p b (w.heap.size + 1) w.heap.size most t L S.R w1 o1 o0 hcell M1.tab M1.rows (by omega) hlow hbb
    obtain ⟨m0, m1, m2⟩ := M1.cell
    go_enter Tryz.func54, Tryz.ntmps54
    go_upto_region 1 with (fail)
    rw [← hw1]
    clear hw1
    go_wp2_with fail
    refine N.mono ?_
    rintro e w' ⟨rfl, rfl⟩
    go_wp2_with fail
    refine D.mono ?_
    rintro e w2 ⟨rfl, but2, T2, cells2⟩
    go_wp2
    go_ret
    have hdl := dropS_le hI t
    have but12 : But base p b w w2 := ⟨⟨but2.below.os.trans but1.below.os, but2.below.tape.trans but1.below.tape, but2.below.output.trans but1.below.output, Nat.le_trans but1.below.size but2.below.size, fun k hk => (but2.below.block k hk).trans (but1.below.block k hk)⟩, Nat.le_trans but1.size but2.size, fun k o hk hb2 hw => but2.cells k o hk hb2 (but1.cells k o hk hb2 hw)⟩
    refine ⟨rfl, ⟨⟨L.filter (fun e => e.1.1 != t), ⟨?_, T2, hlow, ?_, ?_, ?_⟩, ?_, hbb⟩, dropS_inv hI t, by show (dropS S t).n ≤ most; omega, h3, h4⟩, but12⟩
    · rw [cells2]
      have : (dropS S t).n = ((sumR (L.filter (fun e => e.1.1 != t)) S.R : Nat) : Int) := by
        show ((((S.K.filter (fun q => q.1 != t)).map fun q => (dropR S.R t q).length).sum : Nat) : Int) = _
        rw [drop_sum, ← hk, List.filter_map, List.map_map]
        rfl
      rw [← this]
    · intro e he
      obtain ⟨h5, h6⟩ := List.mem_filter.1 he
      show RowR w2 base (mvS e.2) (dropR S.R t e.1)
      rw [dropR_other _ (by simpa using h6)]
      refine (M1.rows e h5).move fun g hg => ?_
      obtain ⟨_, _, cells, hc⟩ := (M1.rows e h5).typed g hg
      refine (but2.cells g _ (fun e2 => ?_) (fun e2 => by
        obtain ⟨es, clock, hm⟩ := M1.tab.isMap
        rw [← e2, hc] at hm
        cases hm) hc).trans hc.symm
      subst e2
      rw [hcell] at hc
      injection hc with hc
      injection hc with _ hc
      cases hc
    · intro q hq
      show dropR S.R t q = []
      by_cases h6 : q.1 = t
      · exact dropR_same _ h6
      · rw [dropR_other _ h6]
        rw [got_filter t q h6] at hq
        exact M1.off q hq
    · intro e he y hy
      replace hy : y ∈ dropR S.R t e.1 := hy
      obtain ⟨h5, h6⟩ := List.mem_filter.1 he
      rw [dropR_other _ (by simpa using h6)] at hy
      exact M1.good e h5 y hy
    · show (L.filter (fun e => e.1.1 != t)).map (·.1) = S.K.filter (fun q => q.1 != t)
      rw [← hk, List.filter_map]
      rfl
end Go.Proofs.YthaoedfalkebbaaGreat
