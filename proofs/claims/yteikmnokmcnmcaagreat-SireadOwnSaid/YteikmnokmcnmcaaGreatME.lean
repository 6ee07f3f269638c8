import Derived.Test.YteikmnokmcnmcaaGreatMD
namespace Go.Proofs.YteikmnokmcnmcaaGreat
open Go.RowKit Go.Maps Go.Sort Go.Lib Go.Proofs.YteikmnokmcnmcaaGreatW.PrintWords Go.Proofs.YteikmnokmcnmcaaGreatW.PrintLast Go.Proofs.YteikmnokmcnmcaaGreatW.PrintMore
set_option linter.unusedVariables false
set_option linter.unusedSimpArgs false
set_option linter.unusedSectionVars false
/-! ### Of -/
section
variable {α : Type} {enc : α → List Value} {k : Nat} {hn : ∀ x, (enc x).length = k} {h1c : ∀ x, ∀ u ∈ enc x, u.oneCell' = true}
/-- an append of a slice to a flat row -/
theorem flat_appS {P : Program} {w : World} {base e : Nat} {ok : Nat → Prop} {v : Value} {xs ys : List α} (h : (Kd.flat enc k hn h1c).R e w base ok v xs) (t ty : TypeId) (z : Value) (bytes : Nat) (ht : P.underlying t = some (.slice e)) (hinfo : (P.info? e).map (fun i => (i.zero, i.size, i.bytes)) = some (some z, k, bytes)) (hzs : z.cells.size = k) (hk : 0 < k) (hb0 : 0 < bytes)
    (A : Option Addr) (c : Nat) (hs : Src enc k w A ys) (hbytes : (xs.length + ys.length) * bytes ≤ 140737488355328) (hbase : base ≤ w.heap.size) (hfresh : ∀ k, w.heap.size ≤ k → ok k) :
    ∃ v' w', (Builtin.append_ #[t, t] ty #[v, .slice A ys.length c]).run P w = .ok v' w' ∧ (Kd.flat enc k hn h1c).R e w' base ok v' (xs ++ ys) ∧ w.grownBy w' v.ownBlock := by
  obtain ⟨i0, hi0, hzz⟩ := Option.map_eq_some_iff.1 hinfo
  simp only [Prod.mk.injEq] at hzz
  obtain ⟨hz0, hz1, hz2⟩ := hzz
  have hlen : xs.length + ys.length ≤ 140737488355328 := Nat.le_trans (Nat.le_mul_of_pos_right _ hb0) hbytes
  obtain ⟨news, hl, hr, hc⟩ := hs
  rcases Nat.eq_zero_or_pos ys.length with h0 | h0
  · have hy : ys = [] := List.eq_nil_of_length_eq_zero h0
    obtain ⟨B, cB, hv, hle, _⟩ := (Lo.ofR h).slice
    refine ⟨v, w, ?_, by rw [hy, List.append_nil]; exact h, ⟨rfl, rfl, rfl, Nat.le_refl _, fun _ _ _ => rfl⟩⟩
    rw [h0, hv]
    exact run_append_zero t ty e i0 ht hi0 B xs.length cB A c hle
  · obtain ⟨a, rfl, hcells⟩ := hc h0
    obtain ⟨h0', inner, h1, h2⟩ := h
    obtain ⟨v', w', hrun, ho, hg, _, hown⟩ := run_append_own_at (P := P) (w := w) base t ty e i0 z k bytes ht hi0 hz0 hz1 hz2 hzs hk v xs.length inner h1 a ys.length c news hl hcells (fun u hu => by
      obtain ⟨j, hj⟩ := List.mem_iff_getElem?.1 hu
      have hjl : j < ys.length * k := by rw [← hl]; exact (List.getElem?_eq_some_iff.1 hj).1
      have hd : j / k < ys.length := by rw [Nat.div_lt_iff_lt_mul hk]; exact hjl
      have hm := Nat.mod_lt j hk
      have e0 : j / k * k + j % k = j := Nat.div_add_mod' j k
      have h3 : (news.drop (j / k * k)).take k = enc ys[j / k] := hr.2 (j / k) _ (List.getElem?_eq_getElem hd)
      have h4 : ((news.drop (j / k * k)).take k)[j % k]? = news[j]? := by rw [List.getElem?_take, if_pos hm, List.getElem?_drop, e0]
      rw [h3, hj] at h4
      exact h1c _ u (List.mem_of_getElem? h4)) (by simp only [maxLen]; omega) hbytes hbase
    refine ⟨v', w', hrun, ⟨fun k hk => ?_, _, by rw [List.length_append]; exact ho, Kd.reps_append h2 hr⟩, hg⟩
    rcases hown with e1 | e1
    · exact h0' k (e1 ▸ hk)
    · rw [e1] at hk; injection hk with hk; exact hfresh k (by omega)
end
/-- a transaction's notes, place by place -/
def notesT (L : List (Pl × Sv)) (R : Pl → List Rd) (t : Int) : List Rd := (L.filter (fun e => e.1.1 == t)).flatMap (fun e => R e.1)
def sumR (L : List (Pl × Sv)) (R : Pl → List Rd) : Nat := (L.map (fun e => (R e.1).length)).sum
theorem notesT_len (R : Pl → List Rd) (t : Int) : ∀ L : List (Pl × Sv), (notesT L R t).length ≤ sumR L R
  | [] => by simp [notesT, sumR]
  | e :: L => by
    have ih := notesT_len R t L
    unfold notesT sumR at *
    rw [List.filter_cons]
    split
    · simp only [List.flatMap_cons, List.length_append, List.map_cons, List.sum_cons]; omega
    · simp only [List.map_cons, List.sum_cons]; omega
theorem sumR_perm {L L' : List (Pl × Sv)} (R : Pl → List Rd) (h : L.Perm L') : sumR L R = sumR L' R := (h.map _).sum_nat
theorem sumR_append (L L' : List (Pl × Sv)) (R : Pl → List Rd) : sumR (L ++ L') R = sumR L R + sumR L' R := by simp [sumR]
theorem notesT_perm {L L' : List (Pl × Sv)} (R : Pl → List Rd) (t : Int) (h : L.Perm L') : (notesT L R t).Perm (notesT L' R t) := (h.filter _).flatMap_right _
def OJ (w : World) (b r : Nat) (L : List (Pl × Sv)) (R : Pl → List Rd) (t : Int) (v : Value) (wr : World) : Prop :=
  ∃ vis rem : List (Pl × Sv), (vis ++ rem).Perm L ∧ RngN wr b r L.length L rem ∧ w.heap.size ≤ r ∧ dR.R 31 wr w.heap.size (fun k => r < k) v (notesT vis R t) ∧ Below w.heap.size w wr
theorem notesT_snoc (vis : List (Pl × Sv)) (a : Pl) (sv : Sv) (R : Pl → List Rd) (t : Int) : notesT (vis ++ [(a, sv)]) R t = notesT vis R t ++ (if a.1 == t then R a else []) := by
  unfold notesT
  rw [List.filter_append, List.flatMap_append]
  congr 1
  by_cases h : (a.1 == t) = true
  · simp [List.filter_cons, h]
  · simp [List.filter_cons, h]
set_option maxHeartbeats 8000000 in
set_option maxRecDepth 100000 in
theorem Of_calls (base p b : Nat) (most many : Int) (L : List (Pl × Sv)) (R : Pl → List Rd) (t : Int) (w : World) (h : Mr w base p b most many L R) (hL : L.length ≤ 65536) (hR : sumR L R ≤ 65536) :
    Calls Tryz.prog 12 #[.pointer (some ⟨p, 0, none⟩), .int .i64 t] w fun e w' => ∃ v, e = .returned v ∧ dR.R 31 w' w.heap.size (fun _ => True) v (srtC cmpRd (notesT L R t)) ∧ Below w.heap.size w w' := by
  obtain ⟨c0, c1, c2⟩ := h.cell
  have N := none_calls p b w c1
  have hblt : b < w.heap.size := h.tab.lt
  obtain ⟨w2, hrun, hRg, hg2, hs2⟩ := Tab.range (t := 55) keyP Tryz.underlying55 (h.tab : TabN w b L.length L)
  have hp2 : w.heap.size < w2.heap.size := by omega
  go_enter Tryz.func12, Tryz.ntmps12
  go_wp2_with fail
  refine N.mono ?_
  rintro e w' ⟨rfl, rfl⟩
  go_wp2_with fail
  go_loopw [5] (fun v wr => OJ w b w.heap.size L R t v wr) (fun _ wr => wr.rangeLeft b w.heap.size)
  case atStart =>
    exact ⟨[], L, List.Perm.refl _, hRg, Nat.le_refl _, Kd.R_nil _ _ _ _ _, (Below.refl _ w).grown hg2 (Nat.le_refl _) (by simp)⟩
  case round =>
    obtain ⟨vis, rem, hp, hr, hle, hv, hB⟩ := hrel
    have hsum := sumR_perm R hp
    rw [sumR_append] at hsum
    rcases hr.next keyP valS 0 with ⟨hnil, hrun1⟩ | ⟨a, sv, w3, hmem, hok, hrun1, hr3, hlt, hg3, hs3, hent⟩
    · subst hnil
      rw [List.append_nil] at hp
      have hlen := notesT_len R t vis
      have hbase0 := Kd.R_base hv
      have S := sortR_calls wr w.heap.size _ u5 _ hv (by omega)
      rw [srtC_congr ord_Rd (fun _ _ => cmpRd_eq) (notesT_perm R t hp)] at S
      go_wp2_with fail
      refine S.mono ?_
      rintro e w4 ⟨rfl, H4, G4⟩
      go_wp2
      go_ret
      exact ⟨_, rfl, Kd.R_mono H4 (fun _ _ => trivial), hB.grown G4 hB.size (fun k hk => hbase0 k hk)⟩
    · unfold mkP at hrun1 hent
      have hB3 : Below w.heap.size w w3 := hB.grown hg3 hB.size (fun k e => by injection e with e; omega)
      have hv3 : dR.R 31 w3 w.heap.size (fun k => w.heap.size < k) u5 (notesT vis R t) := Kd.R_grown hv hg3 (fun k hk e => by injection e with e; omega)
      obtain ⟨W, hW⟩ : ∃ W, W = w3.alloc (.cells #[.int .i64 a.1, .string a.2] 54) := ⟨_, rfl⟩
      have BA : Below w3.heap.size w3 W := by rw [hW]; exact (Below.refl _ w3).alloc (Nat.le_refl _) _
      have hrl : w.heap.size < wr.heap.size := hr.lt
      have hop : W.heap[wr.heap.size]? = some (.cells #[.int .i64 a.1, .string a.2] 54 (0, 0)) := by rw [hW, ← hs3]; exact heap_alloc_new w3 _
      have p0 := cell_of_row W _ 0 _ 54 (0, 0) hop
      have BW := below_then hB3 hB3.size BA
      have hmL : (a, sv) ∈ L := hp.mem_iff.1 (List.mem_append_right _ hmem)
      have hrow : RowR W base (mvS sv) (R a) := (h.rows _ hmL).grown (grown_of_below BW none) (by simp)
      obtain ⟨A, c, hmv, hlc, _⟩ := hrow.slice
      have hsrc := Lo.src hrow hmv
      rw [hmv] at hrun1 hent
      have hvW : dR.R 31 W w.heap.size (fun k => w.heap.size < k) u5 (notesT vis R t) := Kd.R_below hv3 BA
      have hrem : sumR [(a, sv)] R ≤ sumR rem R := by
        obtain ⟨l1, l2, e⟩ := List.append_of_mem hmem
        rw [e, sumR_append]
        simp [sumR]
        omega
      have hRa : (R a).length = sumR [(a, sv)] R := by simp [sumR]
      have hlen := notesT_len R t vis
      obtain ⟨v4, w4, hrun4, H4, G4⟩ := flat_appS hvW 40 40 _ 56 Tryz.underlying40 info23 rfl (by decide) (by decide) A c hsrc (by omega) BW.size (fun k hk => by have := BW.size; have := BA.size; omega)
      obtain ⟨hrW, elW⟩ := hr3.kept (grown_of_below BA none) (by simp) (by simp)
      have hbase0 := Kd.R_base hvW
      cases hyes : (a.1 == t) with
      | true =>
        have fin : OJ w b w.heap.size L R t v4 w4 ∧ w4.rangeLeft b w.heap.size < wr.rangeLeft b w.heap.size := by
          obtain ⟨hr7, el2⟩ := hrW.kept G4 (fun e => by have := hbase0 _ e.symm; omega) (fun e => by have := hvW.1 _ e.symm; omega)
          refine ⟨⟨vis ++ [(a, sv)], _, perm_next hr.apart hp hmem, hr7, Nat.le_refl _, ?_, BW.grown G4 BW.size (fun k hk => hbase0 k hk)⟩, by rw [el2, elW]; exact hlt⟩
          rw [notesT_snoc, hyes, if_pos rfl]
          exact H4
        replace fin := Aside0.mk fin
        replace h := Aside0.mk h
        go_upto_region 7 with (fail)
        rw [← hW]
        clear hW
        go_wp2_with (at_builtin; refine app_list rfl rfl rfl rfl hrun4 ?_)
        exact fin.out
      | false =>
        have fin : OJ w b w.heap.size L R t u5 W ∧ W.rangeLeft b w.heap.size < wr.rangeLeft b w.heap.size := by
          refine ⟨⟨vis ++ [(a, sv)], _, perm_next hr.apart hp hmem, hrW, Nat.le_refl _, ?_, BW⟩, by rw [elW]; exact hlt⟩
          rw [notesT_snoc, hyes, if_neg (by decide), List.append_nil]
          exact hvW
        replace fin := Aside0.mk fin
        replace h := Aside0.mk h
        go_upto_region 7 with (fail)
        rw [← hW]
        clear hW
        go_wp2
        exact fin.out
end Go.Proofs.YteikmnokmcnmcaaGreat
namespace Go.Proofs.YteikmnokmcnmcaaGreat
open Go.RowKit Go.Maps Go.Sort Go.Lib Go.Proofs.YteikmnokmcnmcaaGreatW.PrintWords Go.Proofs.YteikmnokmcnmcaaGreatW.PrintLast Go.Proofs.YteikmnokmcnmcaaGreatW.PrintMore
set_option linter.unusedVariables false
set_option linter.unusedSimpArgs false
set_option linter.unusedSectionVars false
/-! ### begun -/
theorem blk_fz {w : World} {g : Nat} {c : Array Value} {e : TypeId} (h : w.heap[g]? = some (.cells c e (0, 0))) (j : Nat) : w.frozen? ⟨g, j, none⟩ = false := by simp [World.frozen?, h]
set_option maxHeartbeats 1000000 in
set_option maxRecDepth 100000 in
theorem RNew_calls (most : Int) (w : World) : Calls Tryz.prog 18 #[.int .i64 most] w fun e w' => e = .returned (.tuple #[.agg #[.int .i64 most, .slice none 0 0], .bool (decide (1 ≤ most) && decide (most ≤ 65536))]) ∧ Below w.heap.size w w' := by
  obtain ⟨w1, hw1⟩ : ∃ w1, w1 = w.alloc (.cells #[.int .i64 0, .slice none 0 0] 26) := ⟨_, rfl⟩
  have B1 : Below w.heap.size w w1 := by rw [hw1]; exact (Below.refl _ w).alloc (Nat.le_refl _) _
  have o1 : w1.heap[w.heap.size]? = some (.cells #[.int .i64 0, .slice none 0 0] 26 (0, 0)) := by rw [hw1]; exact heap_alloc_new w _
  have c0 := cell_of_row w1 _ 0 _ 26 (0, 0) o1
  have c1 := cell_of_row w1 _ 1 _ 26 (0, 0) o1
  have f0 := blk_fz o1 0
  have f1 := blk_fz o1 1
  obtain ⟨W7, hW7⟩ : ∃ W7, W7 = (w1.setCell ⟨w.heap.size, 0, none⟩ (.int .i64 most)).setCell ⟨w.heap.size, 1, none⟩ (.slice none 0 0) := ⟨_, rfl⟩
  have o7 : W7.heap[w.heap.size]? = some (.cells #[.int .i64 most, .slice none 0 0] 26 (0, 0)) := by rw [hW7]; exact blk_set (blk_set o1 0 _) 1 _
  have e0 := cell_of_row W7 _ 0 _ 26 (0, 0) o7
  have e1 := cell_of_row W7 _ 1 _ 26 (0, 0) o7
  have B7 : Below w.heap.size w W7 := B1.grown (by rw [hW7]; exact trans_grown (grown_set _ _ 0 _) (grown_set _ _ 1 _)) B1.size (fun k hk => by injection hk with hk; omega)
  clear o1 o7
  have b1 : decide (most < 1) = !decide (1 ≤ most) := by by_cases h : most < 1 <;> simp [h] <;> omega
  cases hb : decide (1 ≤ most) with
  | true =>
    have hb' : 1 ≤ most := of_decide_eq_true hb
    go_enter Tryz.func18, Tryz.ntmps18
    go_upto_region 1 with (fail)
    rw [← hw1]
    clear hw1
    go_wp2_with fail
    rw [← hW7]
    refine bodyPost_ret (v := .tuple #[.agg #[.int .i64 most, .slice none 0 0], .bool (decide (most ≤ 65536))]) (by simp [results, Tryz.results18, go_sem, e0, e1]) rfl ⟨by simp, B7⟩
  | false =>
    have hb' : ¬ 1 ≤ most := of_decide_eq_false hb
    go_enter Tryz.func18, Tryz.ntmps18
    go_upto_region 1 with (fail)
    rw [← hw1]
    clear hw1
    go_wp2_with fail
    rw [← hW7]
    refine bodyPost_ret (v := .tuple #[.agg #[.int .i64 most, .slice none 0 0], .bool false]) (by simp [results, Tryz.results18, go_sem, e0, e1]) rfl ⟨by simp, B7⟩
end Go.Proofs.YteikmnokmcnmcaaGreat
namespace Go.Proofs.YteikmnokmcnmcaaGreat
open Go.RowKit Go.Maps Go.Sort Go.Lib Go.Proofs.YteikmnokmcnmcaaGreatW.PrintWords Go.Proofs.YteikmnokmcnmcaaGreatW.PrintLast Go.Proofs.YteikmnokmcnmcaaGreatW.PrintMore
set_option linter.unusedVariables false
set_option linter.unusedSimpArgs false
set_option linter.unusedSectionVars false
/-! ### begun -/
/-- a manager beside a change of a block that is no manager's and no row of notes -/
theorem Mr.far {w w' : World} {base p b q e : Nat} {most many : Int} {L : List (Pl × Sv)} {R : Pl → List Rd} (h : Mr w base p b most many L R) (hg : w.grownBy w' (some q)) (hq : ∃ c s, w.heap[q]? = some (.cells c e s)) (he : e ≠ 31) (hp : p ≠ q) : Mr w' base p b most many L R where
  cells := (hg.block p (Array.getElem?_eq_some_iff.1 h.cells).1 (by simpa using hp)).trans h.cells
  tab := h.tab.kept hg (by
    rintro e
    injection e with e
    subst e
    obtain ⟨es, clock, hb⟩ := h.tab.isMap
    obtain ⟨c, s, hq⟩ := hq
    rw [hb] at hq
    cases hq)
  low := h.low
  rows := fun e' he' => (h.rows e' he').grown hg (fun k hk e2 => by
    injection hk with hk
    subst hk
    obtain ⟨_, _, cells, hc⟩ := (h.rows e' he').typed _ e2
    obtain ⟨c, s, hq⟩ := hq
    rw [hq] at hc
    injection hc with hc
    injection hc with _ hc
    exact he hc)
  off := h.off
  good := h.good
theorem Mr.beside37 {w w' : World} {base p b q : Nat} {most many : Int} {L : List (Pl × Sv)} {R : Pl → List Rd} (h : Mr w base p b most many L R) (hg : w.grownBy w' (some q)) (hq : ∃ c s, w.heap[q]? = some (.cells c 26 s)) (hp : p ≠ q) : Mr w' base p b most many L R := h.far hg hq (by decide) hp
set_option maxHeartbeats 4000000 in
set_option maxRecDepth 100000 in
theorem begun_bad (most : Int) (w : World) (h : most < 1 ∨ 65536 < most) : Calls Tryz.prog 5 #[.int .i64 most] w fun e w' => e = .returned (.tuple #[.pointer none, .agg #[.int .i64 most, .slice none 0 0], .bool true]) ∧ Below w.heap.size w w' := by
  obtain ⟨w1, hw1⟩ : ∃ w1, w1 = w.alloc (.cells #[.int .i64 0, .slice none 0 0] 26) := ⟨_, rfl⟩
  have B1 : Below w.heap.size w w1 := by rw [hw1]; exact (Below.refl _ w).alloc (Nat.le_refl _) _
  have o1 : w1.heap[w.heap.size]? = some (.cells #[.int .i64 0, .slice none 0 0] 26 (0, 0)) := by rw [hw1]; exact heap_alloc_new w _
  have NC := New_bad most w1 h
  have RC := fun W => RNew_calls most W
  rw [(show (decide (1 ≤ most) && decide (most ≤ 65536)) = false by rcases h with h | h <;> simp <;> omega)] at RC
  go_enter Tryz.func5, Tryz.ntmps5
  go_upto_region 1 with (fail)
  rw [← hw1]
  clear hw1
  go_wp2_with fail
  refine NC.mono ?_
  rintro e w2 ⟨rfl, rfl⟩
  have D2 := Below.refl w1.heap.size w1
  have RC2 := RC w1
  clear RC NC
  go_wp2_with fail
  refine RC2.mono ?_
  rintro e w3 ⟨rfl, D3⟩
  obtain ⟨W4, hW4⟩ : ∃ W4, W4 = w3.alloc (.cells #[.int .i64 most, .slice none 0 0] 26) := ⟨_, rfl⟩
  have BA : Below w3.heap.size w3 W4 := by rw [hW4]; exact (Below.refl _ w3).alloc (Nat.le_refl _) _
  have o5 : W4.heap[w3.heap.size]? = some (.cells #[.int .i64 most, .slice none 0 0] 26 (0, 0)) := by rw [hW4]; exact heap_alloc_new w3 _
  have B2 := below_then B1 B1.size D2
  have B3 := below_then B2 B2.size D3
  have B4 := below_then B3 B3.size BA
  have o3 := (D3.block _ (Nat.lt_of_lt_of_le (Array.getElem?_eq_some_iff.1 o1).1 D2.size)).trans ((D2.block _ (Array.getElem?_eq_some_iff.1 o1).1).trans o1)
  have o4 := (BA.block _ (Array.getElem?_eq_some_iff.1 o3).1).trans o3
  have k0 := cell_of_row W4 _ 0 _ 26 (0, 0) o5
  have k1 := cell_of_row W4 _ 1 _ 26 (0, 0) o5
  have c0 := cell_of_row W4 _ 0 _ 26 (0, 0) o4
  have c1 := cell_of_row W4 _ 1 _ 26 (0, 0) o4
  have f0 := blk_fz o4 0
  have f1 := blk_fz o4 1
  have hlt : w.heap.size < w3.heap.size := (Array.getElem?_eq_some_iff.1 o3).1
  obtain ⟨W7, hW7⟩ : ∃ W7, W7 = ((W4.setCell ⟨w.heap.size, 0, none⟩ (.int .i64 most)).setCell ⟨w.heap.size, 1, none⟩ (.slice none 0 0)).drew := ⟨_, rfl⟩
  have G7 : W4.drew.grownBy W7 (some w.heap.size) := by rw [hW7]; exact trans_grown (grown_set W4.drew _ 0 _) (grown_set _ _ 1 _)
  have o7 : W7.heap[w.heap.size]? = some (.cells #[.int .i64 most, .slice none 0 0] 26 (0, 0)) := by rw [hW7]; exact blk_set (blk_set o4 0 _) 1 _
  have e0 := cell_of_row W7 _ 0 _ 26 (0, 0) o7
  have e1 := cell_of_row W7 _ 1 _ 26 (0, 0) o7
  have j0 : W7.cell? ⟨w3.heap.size, 0, none⟩ = some (.int .i64 most) := cell_of_row W7 _ 0 _ 26 (0, 0) ((G7.block _ (Array.getElem?_eq_some_iff.1 o5).1 (by simp; omega)).trans o5)
  have j1 : W7.cell? ⟨w3.heap.size, 1, none⟩ = some (.slice none 0 0) := cell_of_row W7 _ 1 _ 26 (0, 0) ((G7.block _ (Array.getElem?_eq_some_iff.1 o5).1 (by simp; omega)).trans o5)
  have B7 : Below w.heap.size w W7 := (B4.grown (drewG W4) B4.size (by simp)).grown G7 (Nat.le_trans B4.size (drewG W4).size) (fun k hk => by injection hk with hk; omega)
  rw [hW7] at j0 j1
  clear o1 o3 o4 o5 o7 D2 D3 BA B1 B2 B3 B4 G7
  replace B7 := Aside0.mk B7
  go_upto_region 3 with (fail)
  rw [← hW4]
  clear hW4
  go_wp2_with fail
  go_region_held3 (fun V => V.cell? ⟨w3.heap.size, 0, none⟩ = some (.int .i64 most) ∧ V.cell? ⟨w3.heap.size, 1, none⟩ = some (.slice none 0 0)) (first | exact ⟨k0, k1⟩ | exact ⟨j0, j1⟩) (fail)
  go_wp2_with fail
  rw [← hW7]
  refine bodyPost_ret (v := .tuple #[.pointer none, .agg #[.int .i64 most, .slice none 0 0], .bool true]) (by simp [results, Tryz.results5, go_sem, e0, e1]) rfl ⟨rfl, B7.out⟩
set_option maxHeartbeats 4000000 in
set_option maxRecDepth 100000 in
theorem begun_calls (most : Int) (base : Nat) (w : World) (hb : base ≤ w.heap.size) (h1 : 1 ≤ most) (h2 : most ≤ 65536) : Calls Tryz.prog 5 #[.int .i64 most] w fun e w' => ∃ p b, e = .returned (.tuple #[.pointer (some ⟨p, 0, none⟩), .agg #[.int .i64 most, .slice none 0 0], .bool true]) ∧ Mr w' base p b most 0 [] (fun _ => []) ∧ base ≤ b ∧ Below w.heap.size w w' := by
  obtain ⟨w1, hw1⟩ : ∃ w1, w1 = w.alloc (.cells #[.int .i64 0, .slice none 0 0] 26) := ⟨_, rfl⟩
  have B1 : Below w.heap.size w w1 := by rw [hw1]; exact (Below.refl _ w).alloc (Nat.le_refl _) _
  have o1 : w1.heap[w.heap.size]? = some (.cells #[.int .i64 0, .slice none 0 0] 26 (0, 0)) := by rw [hw1]; exact heap_alloc_new w _
  have NC := New_calls most base w1 (Nat.le_trans hb B1.size) h1 h2
  have RC := fun W => RNew_calls most W
  rw [(show (decide (1 ≤ most) && decide (most ≤ 65536)) = true by simp [h1, h2])] at RC
  go_enter Tryz.func5, Tryz.ntmps5
  go_upto_region 1 with (fail)
  rw [← hw1]
  clear hw1
  go_wp2_with fail
  refine NC.mono ?_
  rintro e w2 ⟨rfl, M2, D2⟩
  obtain ⟨p, hp⟩ : ∃ p, p = w1.heap.size + 1 := ⟨_, rfl⟩
  rw [← hp] at M2 ⊢
  clear hp
  have hne : p ≠ w.heap.size := fun e => by have := M2.cells; rw [e, (D2.block _ (Array.getElem?_eq_some_iff.1 o1).1).trans o1] at this; injection this with this; injection this with _ this; cases this
  have hbb : base ≤ w1.heap.size := Nat.le_trans hb B1.size
  have RC2 := RC w2
  clear RC NC
  go_wp2_with fail
  refine RC2.mono ?_
  rintro e w3 ⟨rfl, D3⟩
  obtain ⟨W4, hW4⟩ : ∃ W4, W4 = w3.alloc (.cells #[.int .i64 most, .slice none 0 0] 26) := ⟨_, rfl⟩
  have BA : Below w3.heap.size w3 W4 := by rw [hW4]; exact (Below.refl _ w3).alloc (Nat.le_refl _) _
  have o5 : W4.heap[w3.heap.size]? = some (.cells #[.int .i64 most, .slice none 0 0] 26 (0, 0)) := by rw [hW4]; exact heap_alloc_new w3 _
  have B2 := below_then B1 B1.size D2
  have B3 := below_then B2 B2.size D3
  have B4 := below_then B3 B3.size BA
  have o3 := (D3.block _ (Nat.lt_of_lt_of_le (Array.getElem?_eq_some_iff.1 o1).1 D2.size)).trans ((D2.block _ (Array.getElem?_eq_some_iff.1 o1).1).trans o1)
  have o4 := (BA.block _ (Array.getElem?_eq_some_iff.1 o3).1).trans o3
  have M3 := M2.kept (grown_of_below D3 none)
  have M4 := M3.kept (grown_of_below BA none)
  have k0 := cell_of_row W4 _ 0 _ 26 (0, 0) o5
  have k1 := cell_of_row W4 _ 1 _ 26 (0, 0) o5
  have c0 := cell_of_row W4 _ 0 _ 26 (0, 0) o4
  have c1 := cell_of_row W4 _ 1 _ 26 (0, 0) o4
  have f0 := blk_fz o4 0
  have f1 := blk_fz o4 1
  have hlt : w.heap.size < w3.heap.size := (Array.getElem?_eq_some_iff.1 o3).1
  obtain ⟨W7, hW7⟩ : ∃ W7, W7 = ((W4.setCell ⟨w.heap.size, 0, none⟩ (.int .i64 most)).setCell ⟨w.heap.size, 1, none⟩ (.slice none 0 0)).drew := ⟨_, rfl⟩
  have G7 : W4.drew.grownBy W7 (some w.heap.size) := by rw [hW7]; exact trans_grown (grown_set W4.drew _ 0 _) (grown_set _ _ 1 _)
  have o7 : W7.heap[w.heap.size]? = some (.cells #[.int .i64 most, .slice none 0 0] 26 (0, 0)) := by rw [hW7]; exact blk_set (blk_set o4 0 _) 1 _
  have e0 := cell_of_row W7 _ 0 _ 26 (0, 0) o7
  have e1 := cell_of_row W7 _ 1 _ 26 (0, 0) o7
  have j0 : W7.cell? ⟨w3.heap.size, 0, none⟩ = some (.int .i64 most) := cell_of_row W7 _ 0 _ 26 (0, 0) ((G7.block _ (Array.getElem?_eq_some_iff.1 o5).1 (by simp; omega)).trans o5)
  have j1 : W7.cell? ⟨w3.heap.size, 1, none⟩ = some (.slice none 0 0) := cell_of_row W7 _ 1 _ 26 (0, 0) ((G7.block _ (Array.getElem?_eq_some_iff.1 o5).1 (by simp; omega)).trans o5)
  have B7 : Below w.heap.size w W7 := (B4.grown (drewG W4) B4.size (by simp)).grown G7 (Nat.le_trans B4.size (drewG W4).size) (fun k hk => by injection hk with hk; omega)
  have hpb : p ≠ w.heap.size := hne
  have M7 := (M4.kept (drewG W4)).beside37 G7 ⟨_, _, o4⟩ hpb
  rw [hW7] at j0 j1
  clear o1 o3 o4 o5 o7 D2 D3 BA B1 B2 B3 B4 G7 M2 M3 M4
  replace M7 := Aside0.mk M7
  replace B7 := Aside0.mk B7
  go_upto_region 3 with (fail)
  rw [← hW4]
  clear hW4
  go_wp2_with fail
  go_region_held3 (fun V => V.cell? ⟨w3.heap.size, 0, none⟩ = some (.int .i64 most) ∧ V.cell? ⟨w3.heap.size, 1, none⟩ = some (.slice none 0 0)) (first | exact ⟨k0, k1⟩ | exact ⟨j0, j1⟩) (fail)
  go_wp2_with fail
  rw [← hW7]
  refine bodyPost_ret (v := .tuple #[.pointer (some ⟨p, 0, none⟩), .agg #[.int .i64 most, .slice none 0 0], .bool true]) (by simp [results, Tryz.results5, go_sem, e0, e1]) rfl ⟨p, _, rfl, M7.out, hbb, B7.out⟩
end Go.Proofs.YteikmnokmcnmcaaGreat
namespace Go.Proofs.YteikmnokmcnmcaaGreat
open Go.RowKit Go.Maps Go.Sort Go.Lib Go.Proofs.YteikmnokmcnmcaaGreatW.PrintWords Go.Proofs.YteikmnokmcnmcaaGreatW.PrintLast Go.Proofs.YteikmnokmcnmcaaGreatW.PrintMore
set_option linter.unusedVariables false
set_option linter.unusedSimpArgs false
set_option linter.unusedSectionVars false
/-! ### notes, plain -/
/-- the notes of a manager: its places, the notes of each, how many -/
structure St where
  K : List Pl
  R : Pl → List Rd
  n : Int
def LeanR (a b : Rd) : Prop := cov a b = false ∧ cov b a = false
/-- what the notes of a manager are -/
structure InvK (S : St) : Prop where
  nodup : S.K.Nodup
  off : ∀ q, q ∉ S.K → S.R q = []
  pos : ∀ q ∈ S.K, S.R q ≠ []
  sum : S.n = ((S.K.map fun q => (S.R q).length).sum : Nat)
  tab : ∀ q, ∀ y ∈ S.R q, y.t = q.2 ∧ mayB y = true ∧ y.OK
  lean : ∀ q, (S.R q).Pairwise LeanR
  size : ∀ q ∈ S.K, q.2.size ≤ reachBytes
  one : ∀ q ∈ S.K, 1 ≤ q.1
def inK (K : List Pl) (q : Pl) : Bool := K.any (fun p => decide (p = q))
theorem inK_iff {K : List Pl} {q : Pl} : inK K q = true ↔ q ∈ K := by
  unfold inK
  rw [List.any_eq_true]
  constructor
  · rintro ⟨p, hp, e⟩
    rw [← of_decide_eq_true e]; exact hp
  · exact fun h => ⟨q, h, decide_eq_true rfl⟩
def keysK (K : List Pl) (q : Pl) : List Pl := if inK K q = true then K else K ++ [q]
theorem keysN_K (L : List (Pl × Sv)) (q : Pl) : keysN L q = keysK (L.map (·.1)) q := by
  unfold keysN keysK
  by_cases h : q ∈ L.map (·.1)
  · obtain ⟨v, hv⟩ := got_some_of_mem h
    rw [if_pos (inK_iff.2 h), hv]; rfl
  · rw [if_neg (fun e => h (inK_iff.1 e))]
    cases hv : got L q with
    | none => rfl
    | some v => exact absurd (mem_of_got hv) h
theorem mem_keysK {K : List Pl} {q p : Pl} : p ∈ keysK K q ↔ p = q ∨ p ∈ K := by
  unfold keysK
  split
  · rename_i h
    rw [inK_iff] at h
    constructor
    · exact .inr
    · rintro (rfl | h2)
      · exact h
      · exact h2
  · simp [or_comm]
theorem put1_same (R : Pl → List Rd) (q : Pl) (l : List Rd) : put1 R q l q = l := by unfold put1; rw [if_pos rfl]
theorem put1_other (R : Pl → List Rd) {q p : Pl} (l : List Rd) (h : p ≠ q) : put1 R q l p = R p := by unfold put1; rw [if_neg h]
theorem sum_put_out (R : Pl → List Rd) (q : Pl) (l : List Rd) : ∀ K : List Pl, q ∉ K → (K.map fun p => (put1 R q l p).length).sum = (K.map fun p => (R p).length).sum
  | [], _ => rfl
  | p :: K, h => by
    simp only [List.mem_cons, not_or] at h
    simp only [List.map_cons, List.sum_cons]
    rw [put1_other R l (fun e => h.1 e.symm), sum_put_out R q l K h.2]
theorem sum_put (R : Pl → List Rd) (q : Pl) (l : List Rd) : ∀ K : List Pl, K.Nodup → q ∈ K → (K.map fun p => (put1 R q l p).length).sum + (R q).length = (K.map fun p => (R p).length).sum + l.length
  | [], _, h => by cases h
  | p :: K, hn, h => by
    rw [List.nodup_cons] at hn
    simp only [List.map_cons, List.sum_cons]
    by_cases e : p = q
    · subst e
      rw [put1_same, sum_put_out R p l K hn.1]
      omega
    · have hq : q ∈ K := by
        rcases List.mem_cons.1 h with h | h
        · exact absurd h.symm e
        · exact h
      rw [put1_other R l e]
      have := sum_put R q l K hn.2 hq
      omega
theorem len_le_sum (R : Pl → List Rd) (q : Pl) : ∀ K : List Pl, q ∈ K → (R q).length ≤ (K.map fun p => (R p).length).sum
  | [], h => by cases h
  | p :: K, h => by
    simp only [List.map_cons, List.sum_cons]
    rcases List.mem_cons.1 h with rfl | h
    · omega
    · have := len_le_sum R q K h; omega
theorem card_le_sum (R : Pl → List Rd) : ∀ K : List Pl, (∀ q ∈ K, R q ≠ []) → K.length ≤ (K.map fun p => (R p).length).sum
  | [], _ => by simp
  | p :: K, h => by
    simp only [List.map_cons, List.sum_cons, List.length_cons]
    have h1 := card_le_sum R K (fun q hq => h q (List.mem_cons_of_mem _ hq))
    have h2 : 0 < (R p).length := List.length_pos_iff.2 (h p List.mem_cons_self)
    omega
theorem InvK.len {S : St} (h : InvK S) (q : Pl) : ((S.R q).length : Int) ≤ S.n := by
  rw [h.sum]
  by_cases hq : q ∈ S.K
  · have := len_le_sum S.R q S.K hq; omega
  · rw [h.off q hq]; simp
theorem InvK.card {S : St} (h : InvK S) : (S.K.length : Int) ≤ S.n := by
  rw [h.sum]
  have := card_le_sum S.R S.K h.pos
  omega
theorem whole_may (t : ByteArray) : mayB (whole t) = true := by
  unfold mayB whole
  simp only [if_true]
  kernel_rfl
/-- a place's notes, put in the place of others -/
theorem InvK.put {S : St} (h : InvK S) (q : Pl) (l : List Rd) (hl : l ≠ []) (ht : ∀ y ∈ l, y.t = q.2 ∧ mayB y = true ∧ y.OK) (hlean : l.Pairwise LeanR) (hs : q.2.size ≤ reachBytes) (h1 : 1 ≤ q.1) : InvK ⟨keysK S.K q, put1 S.R q l, S.n - (S.R q).length + l.length⟩ where
  nodup := by
    show (keysK S.K q).Nodup
    unfold keysK
    split
    · exact h.nodup
    · rename_i hq
      rw [inK_iff] at hq
      rw [List.nodup_append]
      refine ⟨h.nodup, by simp, ?_⟩
      intro a ha b hb
      rw [List.mem_singleton.1 hb]
      rintro rfl
      exact hq ha
  off p hp := by
    rw [mem_keysK, not_or] at hp
    show put1 S.R q l p = []
    rw [put1_other _ _ hp.1]
    exact h.off p hp.2
  pos p hp := by
    show put1 S.R q l p ≠ []
    by_cases e : p = q
    · subst e; rw [put1_same]; exact hl
    · rw [put1_other _ _ e]
      exact h.pos p ((mem_keysK.1 hp).resolve_left e)
  sum := by
    show S.n - (S.R q).length + l.length = (((keysK S.K q).map fun p => (put1 S.R q l p).length).sum : Nat)
    rw [h.sum]
    unfold keysK
    split
    · rename_i hq
      rw [inK_iff] at hq
      have := sum_put S.R q l S.K h.nodup hq
      omega
    · rename_i hq
      rw [inK_iff] at hq
      rw [h.off q hq, List.map_append, List.sum_append, sum_put_out _ _ _ _ hq]
      simp [put1_same]
  tab p y hy := by
    replace hy : y ∈ put1 S.R q l p := hy
    by_cases e : p = q
    · subst e; rw [put1_same] at hy; exact ht y hy
    · rw [put1_other _ _ e] at hy; exact h.tab p y hy
  lean p := by
    show (put1 S.R q l p).Pairwise LeanR
    by_cases e : p = q
    · subst e; rw [put1_same]; exact hlean
    · rw [put1_other _ _ e]; exact h.lean p
  size p hp := by
    rcases mem_keysK.1 hp with rfl | hp
    · exact hs
    · exact h.size p hp
  one p hp := by
    rcases mem_keysK.1 hp with rfl | hp
    · exact h1
    · exact h.one p hp
theorem left_lean {l : List Rd} {x : Rd} (h : l.Pairwise LeanR) (hc : l.any (fun y => cov y x) = false) : (left l x).Pairwise LeanR := by
  unfold left
  rw [List.pairwise_append]
  refine ⟨h.filter _, by simp, fun a ha b hb => ?_⟩
  rw [List.mem_singleton.1 hb]
  rw [List.mem_filter] at ha
  refine ⟨?_, by simpa using ha.2⟩
  have := List.any_eq_false.1 hc a ha.1
  simpa using this
theorem InvK.note {S : St} (h : InvK S) {t : Int} {x : Rd} (ht : 1 ≤ t) (hx : x.OK) (hm : mayB x = true) (hc : (S.R (t, x.t)).any (fun y => cov y x) = false) : InvK ⟨keysK S.K (t, x.t), put1 S.R (t, x.t) (left (S.R (t, x.t)) x), S.n - (S.R (t, x.t)).length + (left (S.R (t, x.t)) x).length⟩ := by
  refine h.put (t, x.t) _ (by unfold left; simp) (fun y hy => ?_) (left_lean (h.lean _) hc) hx.t ht
  unfold left at hy
  rcases List.mem_append.1 hy with hy | hy
  · exact h.tab _ y (List.mem_filter.1 hy).1
  · rw [List.mem_singleton.1 hy]; exact ⟨rfl, hm, hx⟩
theorem pick_inK {K : List Pl} {R : Pl → List Rd} (h : 1 < (pick K R).2) : (pick K R).1 ∈ K ∧ (pick K R).2 = (R (pick K R).1).length := by
  rcases crs_spec (fun q => (R q).length) (srtC cmpPl K) (pl0, 1) with e | ⟨q, hq, e, _⟩
  · unfold pick at h
    rw [e] at h
    exact absurd h (by simp)
  · unfold pick
    rw [e]
    exact ⟨(srtC_perm _).mem_iff.1 hq, rfl⟩
theorem whole_ok {t : ByteArray} (h : t.size ≤ reachBytes) : (whole t).OK := ⟨h, by show (Lit.int .i64 3).wf = true; decide, by show (0 : Nat) ≤ reachBytes; decide, by show (0 : Nat) ≤ reachBytes; decide⟩
theorem InvK.whole {S : St} (h : InvK S) (hp : 1 < (pick S.K S.R).2) : InvK ⟨S.K, put1 S.R (pick S.K S.R).1 [whole (pick S.K S.R).1.2], S.n - (((pick S.K S.R).2 : Int) - 1)⟩ := by
  obtain ⟨h1, h2⟩ := pick_inK hp
  have := h.put (pick S.K S.R).1 [YteikmnokmcnmcaaGreat.whole (pick S.K S.R).1.2] (by simp) (fun y hy => by rw [List.mem_singleton.1 hy]; exact ⟨rfl, whole_may _, whole_ok (h.size _ h1)⟩) (by simp) (h.size _ h1) (h.one _ h1)
  have e : keysK S.K (pick S.K S.R).1 = S.K := by unfold keysK; rw [if_pos (inK_iff.2 h1)]
  rw [e] at this
  have e2 : S.n - (((pick S.K S.R).2 : Int) - 1) = S.n - ((S.R (pick S.K S.R).1).length : Int) + (([YteikmnokmcnmcaaGreat.whole (pick S.K S.R).1.2].length : Nat) : Int) := by rw [h2]; simp; omega
  rw [e2]
  exact this
/-- whatever the coarsening keeps, where the notes are what they are -/
theorem coarse_keeps {most : Int} {K : List Pl} (P : (Pl → List Rd) → Prop) (hP : ∀ R q, P R → q ∈ K → P (put1 R q [whole q.2])) : ∀ (k : Nat) (R : Pl → List Rd) (n : Int) (R' : Pl → List Rd) (n' : Int), (n - most).toNat ≤ k → InvK ⟨K, R, n⟩ → P R → coarse K most k R n = some (R', n') → InvK ⟨K, R', n'⟩ ∧ P R' ∧ n' ≤ most
  | 0, R, n, R', n', hk, hI, hR, h => by
    injection h with h
    injection h with h1 h2
    subst h1 h2
    exact ⟨hI, hR, by omega⟩
  | k + 1, R, n, R', n', hk, hI, hR, h => by
    have e2 : coarse K most (k + 1) R n = if n ≤ most then some (R, n) else if 1 < (pick K R).2 then coarse K most k (put1 R (pick K R).1 [whole (pick K R).1.2]) (n - (((pick K R).2 : Int) - 1)) else none := rfl
    rw [e2] at h
    by_cases h1 : n ≤ most
    · rw [if_pos h1] at h
      injection h with h
      injection h with h3 h4
      subst h3 h4
      exact ⟨hI, hR, h1⟩
    · rw [if_neg h1] at h
      by_cases h2 : 1 < (pick K R).2
      · rw [if_pos h2] at h
        exact coarse_keeps P hP k (put1 R (pick K R).1 [whole (pick K R).1.2]) (n - (((pick K R).2 : Int) - 1)) R' n' (by omega) (hI.whole h2) (hP _ _ hR (pick_inK h2).1) h
      · rw [if_neg h2] at h
        cases h
/-- Note, plain -/
def noteP (S : St) (most t : Int) (x : Rd) : Int × St :=
  if t < 1 ∨ mayB x = false then (1, S)
  else if (S.R (t, x.t)).any (fun y => cov y x) = true then (0, S)
  else match coarseF (keysK S.K (t, x.t)) most (put1 S.R (t, x.t) (left (S.R (t, x.t)) x)) (S.n - (S.R (t, x.t)).length + (left (S.R (t, x.t)) x).length) with
    | none => (4, S)
    | some (R', n') => (0, ⟨keysK S.K (t, x.t), R', n'⟩)
theorem noteP_inv {S : St} (h : InvK S) {most t : Int} {x : Rd} (hx : x.OK) (hn : S.n ≤ most) : InvK (noteP S most t x).2 ∧ (noteP S most t x).2.n ≤ most := by
  unfold noteP
  split
  · exact ⟨h, hn⟩
  · rename_i h1
    simp only [not_or, Int.not_lt, Bool.not_eq_false] at h1
    split
    · exact ⟨h, hn⟩
    · rename_i h2
      have hI := h.note h1.1 hx h1.2 (by simpa using h2)
      split
      · exact ⟨h, hn⟩
      · rename_i R' n' he
        have := coarse_keeps (most := most) (fun _ => True) (fun _ _ _ _ => trivial) _ _ _ R' n' (Nat.le_refl _) hI trivial he
        exact ⟨this.1, this.2.2⟩
end Go.Proofs.YteikmnokmcnmcaaGreat
namespace Go.Proofs.YteikmnokmcnmcaaGreat
open Go.RowKit Go.Maps Go.Sort Go.Lib Go.Proofs.YteikmnokmcnmcaaGreatW.PrintWords Go.Proofs.YteikmnokmcnmcaaGreatW.PrintLast Go.Proofs.YteikmnokmcnmcaaGreatW.PrintMore
set_option linter.unusedVariables false
set_option linter.unusedSimpArgs false
set_option linter.unusedSectionVars false
/-! ### a manager's functions over its plain state -/
structure MrS (w : World) (base p : Nat) (most : Int) (S : St) : Prop where
  ex : ∃ b L, Mr w base p b most S.n L S.R ∧ L.map (·.1) = S.K ∧ base ≤ b
  inv : InvK S
  le : S.n ≤ most
  top : most ≤ 65536
  bot : 1 ≤ most
theorem MrS.kept {w w' : World} {base p : Nat} {most : Int} {S : St} (h : MrS w base p most S) (hg : w.grownBy w' none) : MrS w' base p most S := by
  obtain ⟨⟨b, L, M, hk, hbb⟩, r1, r2, r3, r4⟩ := h
  exact ⟨⟨b, L, M.kept hg, hk, hbb⟩, r1, r2, r3, r4⟩
theorem MrS.far {w w' : World} {base p q e : Nat} {most : Int} {S : St} (h : MrS w base p most S) (hg : w.grownBy w' (some q)) (hq : ∃ c s, w.heap[q]? = some (.cells c e s)) (he : e ≠ 31) (hp : p ≠ q) : MrS w' base p most S := by
  obtain ⟨⟨b, L, M, hk, hbb⟩, r1, r2, r3, r4⟩ := h
  exact ⟨⟨b, L, M.far hg hq he hp, hk, hbb⟩, r1, r2, r3, r4⟩
theorem MrS.lt {w : World} {base p : Nat} {most : Int} {S : St} (h : MrS w base p most S) : p < w.heap.size := by
  obtain ⟨⟨b, L, M, hk, hbb⟩, r⟩ := h
  exact (Array.getElem?_eq_some_iff.1 M.cells).1
theorem MrS.low {w : World} {base p : Nat} {most : Int} {S : St} (h : MrS w base p most S) : base ≤ p := by
  obtain ⟨⟨b, L, M, hk, hbb⟩, r⟩ := h
  exact M.low
theorem MrS.is55 {w : World} {base p : Nat} {most : Int} {S : St} (h : MrS w base p most S) : ∃ c s, w.heap[p]? = some (.cells c 57 s) := by
  obtain ⟨⟨b, L, M, hk, hbb⟩, r⟩ := h
  exact ⟨_, _, M.cells⟩
def St0 : St := ⟨[], fun _ => [], 0⟩
theorem InvK.empty : InvK St0 := ⟨List.nodup_nil, fun _ _ => rfl, by simp [St0], by simp [St0], by simp [St0], by simp [St0], by simp [St0], by simp [St0]⟩
theorem begun_S (most : Int) (base : Nat) (w : World) (hb : base ≤ w.heap.size) (h1 : 1 ≤ most) (h2 : most ≤ 65536) : Calls Tryz.prog 5 #[.int .i64 most] w fun e w' => ∃ p, e = .returned (.tuple #[.pointer (some ⟨p, 0, none⟩), .agg #[.int .i64 most, .slice none 0 0], .bool true]) ∧ MrS w' base p most St0 ∧ Below w.heap.size w w' := by
  refine (begun_calls most base w hb h1 h2).mono ?_
  rintro e w' ⟨p, b, rfl, M, hbb, B⟩
  exact ⟨p, rfl, ⟨⟨b, [], M, rfl, hbb⟩, InvK.empty, by simp [St0]; omega, h2, h1⟩, B⟩
theorem noteF_P (L : List (Pl × Sv)) (S : St) (most t : Int) (x : Rd) (hk : L.map (·.1) = S.K) :
    noteF L S.R most S.n t x = coarseF (keysK S.K (t, x.t)) most (put1 S.R (t, x.t) (left (S.R (t, x.t)) x)) (S.n - (S.R (t, x.t)).length + (left (S.R (t, x.t)) x).length) := by
  unfold noteF
  rw [keysN_K, hk]
theorem Note_S (base p : Nat) (most : Int) (S : St) (t : Int) (x : Rd) (w : World) (h : MrS w base p most S) (hx : x.OK) (hwf : (Lit.int .i64 t).wf = true) :
    Calls Tryz.prog 7 #[.pointer (some ⟨p, 0, none⟩), .int .i64 t, .agg #[.string x.t, .int .i64 x.k, .string x.f, .string x.u]] w fun e w' => e = .returned (.int .i64 (noteP S most t x).1) ∧ MrS w' base p most (noteP S most t x).2 ∧ w.grownBy w' (some p) := by
  obtain ⟨⟨b, L, M, hk, hbb⟩, hI, hn, h3, h4⟩ := h
  have hinv := noteP_inv hI (t := t) hx hn
  have hlow := M.low
  have hplt : p < w.heap.size := (Array.getElem?_eq_some_iff.1 M.cells).1
  by_cases hb : t < 1 ∨ mayB x = false
  · have e : noteP S most t x = (1, S) := by unfold noteP; rw [if_pos hb]
    rw [e]
    refine (Note_bad base p b most S.n L S.R t x w M hx hb).mono ?_
    rintro e w' ⟨rfl, B⟩
    exact ⟨rfl, ⟨⟨b, L, M.kept (grown_of_below B none), hk, hbb⟩, hI, hn, h3, h4⟩, grown_of_below B _⟩
  · have hb' := hb
    simp only [not_or, Int.not_lt, Bool.not_eq_false] at hb'
    have hlen := hI.len
    have hlen' : ∀ q, (S.R q).length ≤ 65536 := fun q => by have := hlen q; omega
    by_cases hc : (S.R (t, x.t)).any (fun y => cov y x) = true
    · have e : noteP S most t x = (0, S) := by unfold noteP; rw [if_neg hb, if_pos hc]
      rw [e]
      refine (Note_held base p b most S.n L S.R t x w M hx hb'.1 hwf hb'.2 (hlen' _) hc).mono ?_
      rintro e w' ⟨rfl, B⟩
      exact ⟨rfl, ⟨⟨b, L, M.kept (grown_of_below B none), hk, hbb⟩, hI, hn, h3, h4⟩, grown_of_below B _⟩
    · have hc' : (S.R (t, x.t)).any (fun y => cov y x) = false := by simpa using hc
      have hL : L.length ≤ 65536 := by
        have h1 : L.length = S.K.length := by rw [← hk, List.length_map]
        have := hI.card
        omega
      have F := Note_full base p b most S.n L S.R t x w M hx hb'.1 hwf hb'.2 hlen' hL (hlen _) (by omega) (by omega) hc' (by omega) (fun e he => hI.size _ (by rw [← hk]; exact List.mem_map.2 ⟨e, he, rfl⟩))
      rw [noteF_P L S most t x hk] at F
      refine F.mono ?_
      rintro e w' (⟨hr, rfl, B⟩ | ⟨R', n', b', L', hr, hbb', rfl, M', hk', G⟩)
      · have e : noteP S most t x = (4, S) := by unfold noteP; rw [if_neg hb, if_neg hc, hr]
        rw [e]
        exact ⟨rfl, ⟨⟨b, L, M.kept (grown_of_below B none), hk, hbb⟩, hI, hn, h3, h4⟩, grown_of_below B _⟩
      · have e : noteP S most t x = (0, ⟨keysK S.K (t, x.t), R', n'⟩) := by unfold noteP; rw [if_neg hb, if_neg hc, hr]
        rw [e] at hinv ⊢
        refine ⟨rfl, ⟨⟨b', L', M', ?_, hbb'⟩, hinv.1, hinv.2, h3, h4⟩, G⟩
        rw [hk', keysN_K, hk]
/-- a transaction's notes -/
def ofP (S : St) (t : Int) : List Rd := (S.K.filter (fun q => q.1 == t)).flatMap S.R
theorem notesT_P (L : List (Pl × Sv)) (S : St) (t : Int) (hk : L.map (·.1) = S.K) : notesT L S.R t = ofP S t := by
  unfold notesT ofP
  rw [← hk, List.filter_map, List.flatMap_map]
  rfl
theorem Of_S (base p : Nat) (most : Int) (S : St) (t : Int) (w : World) (h : MrS w base p most S) :
    Calls Tryz.prog 12 #[.pointer (some ⟨p, 0, none⟩), .int .i64 t] w fun e w' => ∃ v, e = .returned v ∧ dR.R 31 w' w.heap.size (fun _ => True) v (srtC cmpRd (ofP S t)) ∧ Below w.heap.size w w' := by
  obtain ⟨⟨b, L, M, hk, hbb⟩, hI, hn, h3, h4⟩ := h
  have hL : L.length ≤ 65536 := by
    have h1 : L.length = S.K.length := by rw [← hk, List.length_map]
    have := hI.card
    omega
  have hs : sumR L S.R ≤ 65536 := by
    have h1 : sumR L S.R = (S.K.map fun q => (S.R q).length).sum := by unfold sumR; rw [← hk, List.map_map]; rfl
    have := hI.sum
    omega
  have O := Of_calls base p b most S.n L S.R t w M hL hs
  rw [notesT_P L S t hk] at O
  exact O
theorem Len_S (base p : Nat) (most : Int) (S : St) (w : World) (h : MrS w base p most S) :
    Calls Tryz.prog 19 #[.pointer (some ⟨p, 0, none⟩)] w fun e w' => e = .returned (.int .i64 S.n) ∧ w = w' := by
  obtain ⟨⟨b, L, M, hk, hbb⟩, hI, hn, h3, h4⟩ := h
  exact Len_calls base p b most S.n L S.R w M
/-- who has read a key -/
def readP (S : St) (tab key : ByteArray) : List Int := rise ((S.K.filter (fun q => (q.2.toList == tab.toList) && (S.R q).any (fun y => holdB y key))).map (·.1))
theorem readersOf_P (L : List (Pl × Sv)) (S : St) (tab key : ByteArray) (hk : L.map (·.1) = S.K) : readersOf L S.R tab key = readP S tab key := by
  unfold readersOf readP
  rw [← hk, List.filter_map, List.map_map]
  rfl
theorem Readers_S (base p : Nat) (most : Int) (S : St) (tab key : ByteArray) (w : World) (h : MrS w base p most S) :
    Calls Tryz.prog 10 #[.pointer (some ⟨p, 0, none⟩), .string tab, .string key] w fun e w' => ∃ v, e = .returned v ∧ dI.R 2 w' w.heap.size (fun _ => True) v (readP S tab key) ∧ Below w.heap.size w w' := by
  obtain ⟨⟨b, L, M, hk, hbb⟩, hI, hn, h3, h4⟩ := h
  have hL : L.length ≤ 65536 := by
    have h1 : L.length = S.K.length := by rw [← hk, List.length_map]
    have := hI.card
    omega
  have O := Readers_calls base p b most S.n L S.R tab key w M hL (fun q => by have := hI.len q; omega)
  rw [readersOf_P L S tab key hk] at O
  exact O
end Go.Proofs.YteikmnokmcnmcaaGreat
namespace Go.Proofs.YteikmnokmcnmcaaGreat
open Go.ChangeShapes Go.WideShapes Go.ChangeAt Go.RowKit Go.Proofs.YteikmnokmcnmcaaGreatW.PrintWords Go.Proofs.YteikmnokmcnmcaaGreatW.PrintLast Go.Proofs.YteikmnokmcnmcaaGreatW.PrintMore
set_option linter.unusedVariables false
set_option linter.unusedSimpArgs false
set_option linter.unusedSectionVars false
/-! ### SireadLean, plain; scripts -/
def LeanB (a b : Rd) : Prop := covB a b = false ∧ covB b a = false
theorem covB_other {a b : Rd} (h : a.t ≠ b.t) : covB a b = false := by
  unfold covB
  have : (a.t.toList == b.t.toList) = false := by
    rw [beq_eq_false_iff_ne]
    exact fun e => h (toList_inj e)
  simp [this]
theorem covB_not {a b : Rd} (h : cov a b = false) : covB a b = false := by
  unfold covB
  simp [h]
theorem ofP_lean {S : St} (h : InvK S) (t : Int) : (ofP S t).Pairwise LeanB := by
  unfold ofP
  rw [List.pairwise_flatMap]
  refine ⟨fun q hq => (h.lean q).imp fun hab => ⟨covB_not hab.1, covB_not hab.2⟩, ?_⟩
  have hn : (S.K.filter (fun q => q.1 == t)).Pairwise (fun a b => a ≠ b) := h.nodup.filter _
  refine hn.imp_of_mem fun {a b} ha hb hab x hx y hy => ?_
  have ha' : a.1 = t := by simpa using (List.mem_filter.1 ha).2
  have hb' : b.1 = t := by simpa using (List.mem_filter.1 hb).2
  have hne : x.t ≠ y.t := by
    rw [(h.tab a x hx).1, (h.tab b y hy).1]
    intro e
    exact hab (Prod.ext (ha'.trans hb'.symm) e)
  exact ⟨covB_other hne, covB_other (fun e => hne e.symm)⟩
theorem sorted_lean {S : St} (h : InvK S) (t : Int) : (srtC cmpRd (ofP S t)).Pairwise LeanB :=
  ((srtC_perm (c := cmpRd) (ofP S t)).pairwise_iff (fun {a b} hab => ⟨hab.2, hab.1⟩)).2 (ofP_lean h t)
theorem lean_at {l : List Rd} (h : l.Pairwise LeanB) {i k : Nat} (hi : i < l.length) (hk : k < l.length) (hne : i ≠ k) : covB l[i] l[k] = false := by
  rw [List.pairwise_iff_getElem] at h
  rcases Nat.lt_or_gt_of_ne hne with h1 | h1
  · exact (h i k hi hk h1).1
  · exact (h k i hk hi h1).2
theorem ofP_ok {S : St} (h : InvK S) (t : Int) : ∀ y ∈ srtC cmpRd (ofP S t), y.OK := by
  intro y hy
  have := (srtC_perm (c := cmpRd) (ofP S t)).mem_iff.1 hy
  unfold ofP at this
  obtain ⟨q, _, hq⟩ := List.mem_flatMap.1 this
  exact (h.tab q y hq).2.2
theorem flatMap_filter_len (R : Pl → List Rd) (c : Pl → Bool) : ∀ K : List Pl, ((K.filter c).flatMap R).length ≤ (K.map fun q => (R q).length).sum
  | [] => by simp
  | q :: K => by
    have ih := flatMap_filter_len R c K
    rw [List.filter_cons]
    split
    · simp only [List.flatMap_cons, List.length_append, List.map_cons, List.sum_cons]; omega
    · simp only [List.map_cons, List.sum_cons]; omega
theorem ofP_len {S : St} (h : InvK S) (t : Int) : ((ofP S t).length : Int) ≤ S.n := by
  rw [h.sum]
  have := flatMap_filter_len S.R (fun q => q.1 == t) S.K
  unfold ofP
  omega
theorem noteP_n {S : St} (h : InvK S) {most t : Int} {x : Rd} (hx : x.OK) (hn : S.n ≤ most) (hm : 1 ≤ most) (ht : 1 ≤ t) (hmay : mayB x = true) : 1 ≤ (noteP S most t x).2.n := by
  have hb : ¬ (t < 1 ∨ mayB x = false) := by simp [hmay]; omega
  unfold noteP
  rw [if_neg hb]
  split
  · rename_i hc
    show 1 ≤ S.n
    have := h.len (t, x.t)
    obtain ⟨y, hy, _⟩ := List.any_eq_true.1 hc
    have := List.length_pos_of_mem hy
    omega
  · rename_i hc
    split
    · rename_i he
      show 1 ≤ S.n
      rw [coarseF_eq] at he
      split at he
      · cases he
      · rename_i hgt
        have h1 := h.len (t, x.t)
        rcases Nat.eq_zero_or_pos (S.R (t, x.t)).length with h0 | h0
        · have e : S.R (t, x.t) = [] := List.eq_nil_of_length_eq_zero h0
          rw [e] at hgt
          have : (left [] x).length = 1 := rfl
          rw [this] at hgt
          simp only [List.length_nil] at hgt
          omega
        · omega
    · rename_i R' n' he
      have hI := h.note ht hx hmay (by simpa using hc)
      have := coarse_keeps (most := most) (fun _ => True) (fun _ _ _ _ => trivial) _ _ _ R' n' (Nat.le_refl _) hI trivial he
      have hc2 := this.1.card
      have hmem : (t, x.t) ∈ keysK S.K (t, x.t) := mem_keysK.2 (.inl rfl)
      have := List.length_pos_of_mem hmem
      show 1 ≤ n'
      simp only at hc2
      omega
/-! scripts -/
structure Scr where
  A : Option Addr
  c : Nat
  xs : List Sop
def Scr.val (z : Scr) : Value := .slice z.A z.xs.length z.c
structure Scr.OK (z : Scr) (w : World) : Prop where
  reads : dOp.C w z.A z.xs.length z.xs
  ops : ∀ x ∈ z.xs, x.OK
  len : z.xs.length * 88 ≤ reachBytes
section
variable {H : Type} {enc : TypeId × Value → H} {w : World} {base : Nat} {spare : Nat → Bool} {held : Bool}
set_option maxRecDepth 100000 in
theorem open_script {ts : List TypeId} {ds : List (DataW H)} (hsz : (DataW.weightsEach Tryz.prog ts ds).all (· ≤ reachBytes) = true) {j : Nat} {r : Reach} {b0 : Nat} {v : Value} {d : DataW H} {p : List MemPlace} (ht : ts[j]? = some 22) (hd : ds[j]? = some d)
    (hv : Value.okWide Tryz.prog w r b0 22 v) (h : DataW.Trod enc Tryz.prog w base spare held 22 v d p) : ∃ z : Scr, v = z.val ∧ z.OK w := by
  obtain ⟨a, n, c, rfl⟩ := okWide_slice Tryz.underlying22 hv
  obtain ⟨fuel, hf⟩ := h
  obtain ⟨A, c', xs, e, h1, h2, h3, h4, h5⟩ := opens_C (d := dOp) Tryz.underlying22 (by kernel_rfl) opens_op hf (light_of hsz ht hd)
  simp [Value.cells] at e
  obtain ⟨rfl, rfl, rfl⟩ := e
  refine ⟨⟨a, c, xs⟩, rfl, h3, h5, ?_⟩
  have hb : Tryz.prog.bytesOf 33 = 88 := by kernel_rfl
  rw [hb] at h4
  exact h4
end
def op0 : Sop := ⟨0, 0, ⟨⟨#[]⟩, 0, ⟨#[]⟩, ⟨#[]⟩⟩, ⟨#[]⟩⟩
/-- an operation of a script, as it is read -/
theorem op_at {W : World} {A : Option Addr} {xs : List Sop} (h : dOp.C W A xs.length xs) (k : Nat) (hk : k < xs.length) :
    ∃ ad, A = some ad ∧ W.cell? (ad.add (k * 7)) = some (.int .i64 xs[k].kind) ∧ W.cell? ⟨(ad.add (k * 7)).block, (ad.add (k * 7)).off + 1, none⟩ = some (.int .i64 xs[k].txn) ∧ W.cell? ⟨(ad.add (k * 7)).block, (ad.add (k * 7)).off + 2, none⟩ = some (.string xs[k].x.t) ∧
      W.cell? ⟨(ad.add (k * 7)).block, (ad.add (k * 7)).off + 3, none⟩ = some (.int .i64 xs[k].x.k) ∧ W.cell? ⟨(ad.add (k * 7)).block, (ad.add (k * 7)).off + 4, none⟩ = some (.string xs[k].x.f) ∧ W.cell? ⟨(ad.add (k * 7)).block, (ad.add (k * 7)).off + 5, none⟩ = some (.string xs[k].x.u) ∧
      W.cell? ⟨(ad.add (k * 7)).block, (ad.add (k * 7)).off + 6, none⟩ = some (.string xs[k].key) := by
  obtain ⟨ad, cs, rfl, hcl, hcs, hcc⟩ := Kd.C_get h op0 (k : Int) (by omega) (by omega)
  have e : xs.getD (k : Int).toNat op0 = xs[k] := by rw [Int.toNat_natCast, List.getD_eq_getElem?_getD, List.getElem?_eq_getElem hk]; rfl
  rw [e] at hcs
  obtain rfl : cs = encO xs[k] := hcs
  refine ⟨ad, rfl, hcc 0 _ rfl, ?_, ?_, ?_, ?_, ?_, ?_⟩ <;> rw [← add_field _ _ _ (by omega)]
  · exact hcc 1 _ rfl
  · exact hcc 2 _ rfl
  · exact hcc 3 _ rfl
  · exact hcc 4 _ rfl
  · exact hcc 5 _ rfl
  · exact hcc 6 _ rfl
abbrev boxO (o : Sop) : Obj := .cells #[.int .i64 o.kind, .int .i64 o.txn, .string o.x.t, .int .i64 o.x.k, .string o.x.f, .string o.x.u, .string o.key] 33 (0, 0)
theorem op_cells {W : World} {g : Nat} {o : Sop} (h : W.heap[g]? = some (boxO o)) :
    W.cell? ⟨g, 0, none⟩ = some (.int .i64 o.kind) ∧ W.cell? ⟨g, 1, none⟩ = some (.int .i64 o.txn) ∧ W.cell? ⟨g, 2, none⟩ = some (.string o.x.t) ∧ W.cell? ⟨g, 3, none⟩ = some (.int .i64 o.x.k) ∧ W.cell? ⟨g, 4, none⟩ = some (.string o.x.f) ∧ W.cell? ⟨g, 5, none⟩ = some (.string o.x.u) ∧ W.cell? ⟨g, 6, none⟩ = some (.string o.key) :=
  ⟨cell_of_row W g 0 _ 33 (0, 0) h, cell_of_row W g 1 _ 33 (0, 0) h, cell_of_row W g 2 _ 33 (0, 0) h, cell_of_row W g 3 _ 33 (0, 0) h, cell_of_row W g 4 _ 33 (0, 0) h, cell_of_row W g 5 _ 33 (0, 0) h, cell_of_row W g 6 _ 33 (0, 0) h⟩
end Go.Proofs.YteikmnokmcnmcaaGreat
