import Derived.Test.YteikmnokmcnmcaaGreatMI
import Derived.Laws.StructEq
namespace Go.Proofs.YteikmnokmcnmcaaGreat
open Go.RowKit Go.Maps Go.Sort Go.Lib Go.Proofs.YteikmnokmcnmcaaGreatW.PrintWords Go.Proofs.YteikmnokmcnmcaaGreatW.PrintLast Go.Proofs.YteikmnokmcnmcaaGreatW.PrintMore
set_option linter.unusedVariables false
set_option linter.unusedSimpArgs false
set_option linter.unusedSectionVars false
/-! ### the document's Note -/
def keepN (t : Int) (x : Rd) (a : Nt) : Bool := !((a.1 == t) && covB x a.2)
/-- the first loop: no note so far covers the new one; what is kept -/
def NJr (w : World) (base q : Nat) (most : Int) (N : List Nt) (t : Int) (x : Rd) (v7 v8 : Value) (wr : World) : Prop :=
  ∃ j : Nat, j ≤ N.length ∧ v8 = .int .i64 (j : Int) ∧ dN.R 66 wr (w.heap.size + 1) (fun _ => True) v7 ((N.take j).filter (keepN t x)) ∧ heldN (N.take j) t x = false ∧ wr.heap[w.heap.size]? = some (boxR x) ∧ Below w.heap.size w wr
/-- the second loop: made coarse until there is room -/
def MJr (w : World) (base q : Nat) (most : Int) (N : List Nt) (K : List Pl) (R0 : Pl → List Rd) (n0 : Int) (v7 : Value) (wr : World) : Prop :=
  ∃ (M : List Nt) (R : Pl → List Rd) (n : Int), dN.R 66 wr (w.heap.size + 1) (fun _ => True) v7 M ∧ Rel ⟨K, R, n⟩ M ∧ InvK ⟨K, R, n⟩ ∧ coarseF K most R n = coarseF K most R0 n0 ∧ M.length ≤ 65537 ∧ w.heap.size + 1 ≤ wr.heap.size ∧ Below w.heap.size w wr
def lenOf : Value → Nat
  | .slice _ n _ => n
  | _ => 0
/-- what the document's Note does -/
def RNotePost (S : St) (most t : Int) (x : Rd) (base q : Nat) (w : World) (e : Ending) (w' : World) : Prop :=
  ∃ N', e = .returned (.int .i64 (noteP S most t x).1) ∧ RM w' base q most N' ∧ Rel (noteP S most t x).2 N' ∧ w.grownBy w' (some q)
theorem RM.lt {w : World} {base q : Nat} {most : Int} {N : List Nt} (h : RM w base q most N) : q < w.heap.size := by
  obtain ⟨u, hc, _⟩ := h.cells
  exact (Array.getElem?_eq_some_iff.1 hc).1
theorem nt_cells {W : World} {b : Nat} {a : Nt} (h : W.heap[b]? = some (.cells #[.int .i64 a.1, .string a.2.t, .int .i64 a.2.k, .string a.2.f, .string a.2.u] 66 (0, 0))) :
    W.cell? ⟨b, 0, none⟩ = some (.int .i64 a.1) ∧ W.cell? ⟨b, 1, none⟩ = some (.string a.2.t) ∧ W.cell? ⟨b, 2, none⟩ = some (.int .i64 a.2.k) ∧ W.cell? ⟨b, 3, none⟩ = some (.string a.2.f) ∧ W.cell? ⟨b, 4, none⟩ = some (.string a.2.u) :=
  ⟨cell_of_row W b 0 _ 66 (0, 0) h, cell_of_row W b 1 _ 66 (0, 0) h, cell_of_row W b 2 _ 66 (0, 0) h, cell_of_row W b 3 _ 66 (0, 0) h, cell_of_row W b 4 _ 66 (0, 0) h⟩
theorem heldN_snoc (N : List Nt) (a : Nt) (t : Int) (x : Rd) : heldN (N ++ [a]) t x = (heldN N t x || ((a.1 == t) && covB a.2 x)) := by unfold heldN; simp [List.any_append]
theorem heldN_of_take {N : List Nt} {j : Nat} {t : Int} {x : Rd} (hj : j < N.length) (h : ((N[j].1 == t) && covB N[j].2 x) = true) : heldN N t x = true := by
  unfold heldN
  rw [List.any_eq_true]
  exact ⟨N[j], List.getElem_mem hj, h⟩
set_option maxHeartbeats 8000000 in
set_option maxRecDepth 100000 in
theorem RNote_calls (base q : Nat) (most : Int) (S : St) (N : List Nt) (t : Int) (x : Rd) (w : World) (h : RM w base q most N) (hI : InvK S) (hR : Rel S N) (hn : S.n ≤ most) (h3 : most ≤ 65536) (h4 : 1 ≤ most) (hx : x.OK) (hb : base ≤ w.heap.size) :
    Calls Tryz.prog 8 #[.pointer (some ⟨q, 0, none⟩), .int .i64 t, mkR x] w fun e w' => RNotePost S most t x base q w e w' := by
  obtain ⟨w1, hw1⟩ : ∃ w1, w1 = w.alloc (.cells #[.string x.t, .int .i64 x.k, .string x.f, .string x.u] 31) := ⟨_, rfl⟩
  have B1 : Below w.heap.size w w1 := by rw [hw1]; exact boxed w x
  have ob : w1.heap[w.heap.size]? = some (boxR x) := by rw [hw1]; exact heap_alloc_new w _
  have hsz : w1.heap.size = w.heap.size + 1 := by rw [hw1]; simp
  obtain ⟨b0, b1, b2, b3⟩ := rd_cells ob
  have hq := h.lt
  by_cases ht : t < 1
  · have e : noteP S most t x = (1, S) := by unfold noteP; rw [if_pos (.inl ht)]
    have fin : RNotePost S most t x base q w (.returned (.int .i64 1)) w1 := ⟨N, by rw [e], h.below B1, by rw [e]; exact hR, grown_of_below B1 _⟩
    clear hR hI h
    replace fin := Aside0.mk fin
    replace e := Aside0.mk e
    replace hsz := Aside0.mk hsz
    go_enter Tryz.func8, Tryz.ntmps8
    go_upto_region 1 with (fail)
    rw [← hw1]
    clear hw1
    go_wp2
    go_ret
    exact fin.out
  have MY := fun W => May_calls x W
  cases hm : mayB x with
  | false =>
    have e : noteP S most t x = (1, S) := by unfold noteP; rw [if_pos (.inr hm)]
    have fin : ∀ W, Below w1.heap.size w1 W → RNotePost S most t x base q w (.returned (.int .i64 1)) W := fun W B => ⟨N, by rw [e], (h.below B1).below B, by rw [e]; exact hR, grown_of_below (below_then B1 B1.size B) _⟩
    rw [hm] at MY
    clear hR hI h
    replace fin := Aside0.mk fin
    replace e := Aside0.mk e
    replace hsz := Aside0.mk hsz
    go_enter Tryz.func8, Tryz.ntmps8
    go_upto_region 1 with (fail)
    rw [← hw1]
    clear hw1
    go_wp2_with fail
    refine (MY _).mono ?_
    rintro e W ⟨rfl, B⟩
    have F := fin.out W B
    replace F := Aside0.mk F
    go_wp2
    go_ret
    exact F.out
  | true =>
    rw [hm] at MY
    have h0 : ¬ (t < 1 ∨ mayB x = false) := by rw [hm]; simp; omega
    have hpass : ∀ a ∈ N, a.2.OK := fun a ha => (hI.tab _ _ (hR.note_mem ha)).2.2
    have hNl : N.length ≤ 65536 := by have := hR.size; omega
    have heq : heldN N t x = (S.R (t, x.t)).any (fun y => cov y x) := hR.held hI t x hm
    have hM0 := Aside0.mk h
    -- what is answered where a note covers it
    have finH : heldN N t x = true → ∀ W, Below w.heap.size w W → RNotePost S most t x base q w (.returned (.int .i64 0)) W := fun hh W B => by
      have e : noteP S most t x = (0, S) := by unfold noteP; rw [if_neg h0, if_pos (heq ▸ hh)]
      exact ⟨N, by rw [e], h.below B, by rw [e]; exact hR, grown_of_below B _⟩
    go_enter Tryz.func8, Tryz.ntmps8
    go_upto_region 1 with (fail)
    rw [← hw1]
    clear hw1
    have d1 : decide (t < 1) = false := decide_eq_false ht
    replace h0 := Aside0.mk h0
    replace hpass := Aside0.mk hpass
    replace heq := Aside0.mk heq
    replace finH := Aside0.mk finH
    replace hR := Aside0.mk hR
    replace hI := Aside0.mk hI
    replace hsz := Aside0.mk hsz
    replace hm := Aside0.mk hm
    go_wp2_with fail
    refine (MY _).mono ?_
    rintro e W ⟨rfl, B⟩
    have B2 := below_then B1 B1.size B
    have J0 : NJr w base q most N t x (.slice none 0 0) (.int .i64 0) W := ⟨0, Nat.zero_le _, rfl, Kd.R_nil _ _ _ _ _, rfl, blk_below ob B, B2⟩
    have hgrow : w.heap.size + 1 ≤ W.heap.size := by have := B.size; have := hsz.out; omega
    clear b0 b1 b2 b3 ob h
    go_wp2_with fail
    go_loopw [7, 8] (fun v7 v8 wr => NJr w base q most N t x v7 v8 wr) (fun _ v8 _ => N.length - (intOf v8).toNat)
    case atStart => exact J0
    case round =>
      clear J0
      obtain ⟨j, hj, rfl, hv, hnh, ob, hB⟩ := hrel
      have hM := hM0.out.below hB
      obtain ⟨u, hc, hrow⟩ := hM.cells
      have hrN := Lo.ofR hrow
      obtain ⟨A, c, rfl, hlc, hA⟩ := hrN.slice
      have c1 := cell_of_row wr q 1 _ 26 (0, 0) hc
      have hbs : w.heap.size + 1 ≤ wr.heap.size := by have := (Array.getElem?_eq_some_iff.1 ob).1; omega
      by_cases hlt : j < N.length
      · obtain ⟨g, rfl, _⟩ := hA (by omega)
        have htk : N.take (j + 1) = N.take j ++ [N[j]] := List.take_succ_eq_append_getElem hlt
        obtain ⟨q0, q1, q2, q3, q4⟩ := RowN.at hrN j N[j] (List.getElem?_eq_getElem hlt)
        have hok := hpass.out _ (List.getElem_mem hlt)
        have hheld := heldN_of_take (t := t) (x := x) hlt
        generalize N[j] = a at q0 q1 q2 q3 q4 htk hok hheld
        have hfl := List.length_filter_le (keepN t x) (N.take j)
        have htl : (N.take j).length = j := by rw [List.length_take]; omega
        -- the note in a block of its own
        obtain ⟨W2, hW2⟩ : ∃ W2, W2 = wr.alloc (.cells #[.int .i64 a.1, .string a.2.t, .int .i64 a.2.k, .string a.2.f, .string a.2.u] 66) := ⟨_, rfl⟩
        have BA : Below wr.heap.size wr W2 := by rw [hW2]; exact (Below.refl _ wr).alloc (Nat.le_refl _) _
        have oa : W2.heap[wr.heap.size]? = some (.cells #[.int .i64 a.1, .string a.2.t, .int .i64 a.2.k, .string a.2.f, .string a.2.u] 66 (0, 0)) := by rw [hW2]; exact heap_alloc_new wr _
        have keep : ∀ W, Below wr.heap.size wr W → keepN t x a = false → ((a.1 == t) && covB a.2 x) = false → NJr w base q most N t x u7 (.int .i64 ((j : Int) + 1)) W := fun W BW hk hnc => by
          refine ⟨j + 1, by omega, by simp, ?_, ?_, blk_below ob BW, below_then hB hB.size BW⟩
          · rw [htk, List.filter_append]
            simpa [hk] using Kd.R_below hv BW
          · rw [htk, heldN_snoc, hnh, hnc]; rfl
        have more : ∀ W, Below wr.heap.size wr W → keepN t x a = true → ((a.1 == t) && covB a.2 x) = false → ∃ v' w', (Builtin.append_ #[24, 24] 24 #[u7, .slice (some ⟨W.heap.size, 0, none⟩) 1 1]).run Tryz.prog (W.alloc (.cells #[.int .i64 a.1, .string a.2.t, .int .i64 a.2.k, .string a.2.f, .string a.2.u] 66)) = .ok v' w' ∧ NJr w base q most N t x v' (.int .i64 ((j : Int) + 1)) w' := fun W BW hk hnc => by
          have hvW := Kd.R_below hv BW
          obtain ⟨v', w', hrun, hv', hg'⟩ := appN hvW a (by omega) (Nat.le_trans hbs BW.size)
          have hbase := Kd.R_base hvW
          have B3 := (below_then hB hB.size BW).grown hg' (Nat.le_trans hB.size BW.size) (fun k hk => by have := hbase k hk; omega)
          refine ⟨v', w', hrun, j + 1, by omega, by simp, ?_, ?_, ?_, B3⟩
          · rw [htk, List.filter_append]
            simpa [hk] using hv'
          · rw [htk, heldN_snoc, hnh, hnc]; rfl
          · refine (hg'.block _ (Array.getElem?_eq_some_iff.1 (blk_below ob BW)).1 (fun e => ?_)).trans (blk_below ob BW)
            have := hbase _ e.symm
            omega
        have RC := fun W => RCovers_calls a.2 x hok hx W
        have RC2 := fun W => RCovers_calls x a.2 hx hok W
        have OX := fun W (BW : Below W2.heap.size W2 W) => And.intro (rd_cells (blk_below (blk_below ob BA) BW)) (nt_cells (blk_below oa BW))
        obtain ⟨⟨x0, x1, x2, x3⟩, a0, a1, a2, a3, a4⟩ := OX W2 (Below.refl _ _)
        obtain ⟨bn, hbn⟩ : ∃ bn, bn = wr.heap.size := ⟨_, rfl⟩
        go_upto_region 8 with (fail)
        rw [← hW2]
        clear hW2
        cases hat : a.1 == t with
        | false =>
          have hat' : (a.1 != t) = true := by simpa using hat
          obtain ⟨v', w', hrun, fin⟩ := more W2 BA (by unfold keepN; rw [hat]; rfl) (by rw [hat]; rfl)
          clear keep more hv hM hrow hrN hc htk ob q0 q1 q2 q3 q4
          replace fin := Aside0.mk fin
          replace OX := Aside0.mk OX
          clear RC RC2
          go_wp2_with (at_builtin; refine app_list rfl rfl rfl rfl hrun ?_)
          refine ⟨fin.out, ?_⟩
          simp [intOf]
          omega
        | true =>
          have hat' : (a.1 != t) = false := by simpa using hat
          cases hcv : covB a.2 x with
          | true =>
            rw [hcv] at RC
            have hh := hheld (by rw [hat, hcv]; rfl)
            clear keep more hv hM hrow hrN hc htk ob q0 q1 q2 q3 q4 RC2
            replace OX := Aside0.mk OX
            replace hh := Aside0.mk hh
            go_wp2_with fail
            refine (RC _).mono ?_
            rintro e W3 ⟨rfl, B3⟩
            have F := finH.out hh.out W3 (below_then hB hB.size (below_then BA BA.size B3))
            replace F := Aside0.mk F
            go_wp2
            go_ret
            exact F.out
          | false =>
            rw [hcv] at RC
            have hnc : ((a.1 == t) && covB a.2 x) = false := by rw [hcv]; simp
            cases hcw : covB x a.2 with
            | true =>
              rw [hcw] at RC2
              have fin := fun W BW => keep W BW (by unfold keepN; rw [hat, hcw]; rfl) hnc
              clear keep more hv hM hrow hrN hc htk ob q0 q1 q2 q3 q4
              replace fin := Aside0.mk fin
              replace OX := Aside0.mk OX
              replace hnc := Aside0.mk hnc
              go_wp2_with fail
              refine (RC _).mono ?_
              rintro e W3 ⟨rfl, B3⟩
              obtain ⟨⟨z0, z1, z2, z3⟩, y0, y1, y2, y3, y4⟩ := OX.out W3 B3
              clear x0 x1 x2 x3 a0 a1 a2 a3 a4
              go_wp2_with fail
              refine (RC2 _).mono ?_
              rintro e W4 ⟨rfl, B4⟩
              have F := fin.out W4 (below_then (below_then BA BA.size B3) (Nat.le_trans BA.size B3.size) B4)
              replace F := Aside0.mk F
              go_wp2
              refine ⟨F.out, ?_⟩
              simp [intOf]
              omega
            | false =>
              rw [hcw] at RC2
              have fin := fun W BW => more W BW (by unfold keepN; rw [hcw]; simp) hnc
              clear keep more hv hM hrow hrN hc htk ob q0 q1 q2 q3 q4
              replace fin := Aside0.mk fin
              replace hnc := Aside0.mk hnc
              replace OX := Aside0.mk OX
              go_wp2_with fail
              refine (RC _).mono ?_
              rintro e W3 ⟨rfl, B3⟩
              obtain ⟨⟨z0, z1, z2, z3⟩, y0, y1, y2, y3, y4⟩ := OX.out W3 B3
              clear x0 x1 x2 x3 a0 a1 a2 a3 a4
              go_wp2_with fail
              refine (RC2 _).mono ?_
              rintro e W4 ⟨rfl, B4⟩
              obtain ⟨⟨z0', z1', z2', z3'⟩, y0', y1', y2', y3', y4'⟩ := OX.out W4 (below_then B3 B3.size B4)
              obtain ⟨v', w', hrun, F⟩ := fin.out W4 (below_then (below_then BA BA.size B3) (Nat.le_trans BA.size B3.size) B4)
              clear z0 z1 z2 z3 y0 y1 y2 y3 y4
              replace F := Aside0.mk F
              go_wp2_with (at_builtin; refine app_list rfl rfl rfl rfl hrun ?_)
              refine ⟨F.out, ?_⟩
              simp [intOf]
              omega
      · have hje : j = N.length := by omega
        have hge : ¬ (j : Int) < (N.length : Int) := by omega
        rw [hje, List.take_length] at hv hnh
        replace hje := Aside0.mk hje
        obtain ⟨x0, x1, x2, x3⟩ := rd_cells ob
        obtain ⟨v', w', hrun, hv', hg'⟩ := appN hv (t, x) (by have := List.length_filter_le (keepN t x) N; omega) hbs
        have hbase := Kd.R_base hv
        have B3 := hB.grown hg' hB.size (fun k hk => by have := hbase k hk; omega)
        have hrun' : (Builtin.append_ #[24, 24] 24 #[u7, .slice (some ⟨wr.heap.size, 0, none⟩) 1 1]).run Tryz.prog (wr.alloc (.cells #[.int .i64 t, .string x.t, .int .i64 x.k, .string x.f, .string x.u] 66)) = .ok v' w' := hrun
        have hL := hR.out.left hI.out t x hm.out
        have hI2 := hI.out.note (by have := h0.out; omega) hx hm.out (by rw [← heq.out]; exact hnh)
        have hlen : (leftN N t x).length ≤ 65537 := by
          unfold leftN
          rw [List.length_append, List.length_singleton]
          have := List.length_filter_le (fun a : Nt => !((a.1 == t) && covB x a.2)) N
          omega
        have J1 : MJr w base q most N (keysK S.K (t, x.t)) (put1 S.R (t, x.t) (left (S.R (t, x.t)) x)) (S.n - (S.R (t, x.t)).length + (left (S.R (t, x.t)) x).length) v' w' := ⟨leftN N t x, _, _, hv', hL, hI2, rfl, hlen, Nat.le_trans hbs hg'.size, B3⟩
        have eN : ∀ r, coarseF (keysK S.K (t, x.t)) most (put1 S.R (t, x.t) (left (S.R (t, x.t)) x)) (S.n - (S.R (t, x.t)).length + (left (S.R (t, x.t)) x).length) = r → noteP S most t x = (match r with | none => (4, S) | some (R', n') => (0, ⟨keysK S.K (t, x.t), R', n'⟩)) := by
          rintro r rfl
          unfold noteP
          rw [if_neg h0.out, if_neg (by rw [← heq.out, hnh]; simp)]
          split <;> rename_i he <;> rw [he]
        generalize (keysK S.K (t, x.t)) = K at J1 eN
        generalize (put1 S.R (t, x.t) (left (S.R (t, x.t)) x)) = R0 at J1 eN
        generalize (S.n - ((S.R (t, x.t)).length : Int) + ((left (S.R (t, x.t)) x).length : Int)) = n0 at J1 eN
        clear hrun hv hg' hL hI2 hlen hM hrow hrN hc ob hbase hnh
        replace eN := Aside0.mk eN
        go_wp2_with (at_builtin; refine app_list rfl rfl rfl rfl hrun' ?_)
        go_loopw [7] (fun v7 wr => MJr w base q most N K R0 n0 v7 wr) (fun v7 _ => lenOf v7)
        case atStart => exact J1
        case round =>
          clear J1
          obtain ⟨M, R, n, hv, hRel, hInv, hco, hMl, hbs, hB⟩ := hrel
          have hM := hM0.out.below hB
          obtain ⟨u, hc, hrow⟩ := hM.cells
          obtain ⟨A0, c00, rfl, _, _⟩ := (Lo.ofR hrow).slice
          have c0 := cell_of_row wr q 0 _ 26 (0, 0) hc
          have c1 := cell_of_row wr q 1 _ 26 (0, 0) hc
          have hrM := Lo.ofR hv
          obtain ⟨Am, cm, rfl, hlm, hAm⟩ := hrM.slice
          have hsizeM := hRel.size
          by_cases hgt : most < (M.length : Int)
          · have CO := fun W (BW : Below wr.heap.size wr W) => RCoarsest_calls (w.heap.size + 1) (.slice Am M.length cm) M W (hrM.grown (grown_of_below BW none) (by simp)) hMl
            have step : ∀ b m, CS M M.length b m → (b = -1 ∧ noteP S most t x = (4, S)) ∨ ∃ (k : Nat) (hk : k < M.length), b = (k : Int) ∧ (coarseN M M[k].1 M[k].2.t).length < M.length ∧ ∀ W v B0, Below wr.heap.size wr W → wr.heap.size ≤ B0 → dN.R 66 W B0 (fun _ => True) v (coarseN M M[k].1 M[k].2.t) → MJr w base q most N K R0 n0 v W := by
              intro b m hcs
              have hnle : ¬ n ≤ most := by have : n = (M.length : Int) := hsizeM; omega
              rcases pick_of_CS hInv hRel hcs with ⟨rfl, hno⟩ | ⟨k, hk, rfl, hgt1, hpk⟩
              · exact .inl ⟨rfl, eN.out none (by rw [← hco, coarseF_eq, if_neg hnle, if_neg hno])⟩
              · obtain ⟨h1, h2⟩ := pick_inK (K := K) (R := R) hgt1
                have hW := hRel.whole (plN M[k]) (m := (pick K R).2) (by rw [h2, hpk])
                have hI3 := hInv.whole hgt1
                have e3 : coarseF K most R n = coarseF K most (put1 R (pick K R).1 [whole (pick K R).1.2]) (n - (((pick K R).2 : Int) - 1)) := by rw [coarseF_eq, if_neg hnle, if_pos hgt1]
                simp only [hpk] at hI3 e3
                have hlt : (coarseN M M[k].1 M[k].2.t).length < M.length := by
                  have h5 : n - (((pick K R).2 : Int) - 1) = ((coarseN M M[k].1 M[k].2.t).length : Nat) := hW.size
                  have : n = (M.length : Int) := hsizeM
                  have : 1 < (pick K R).2 := hgt1
                  omega
                exact .inr ⟨k, hk, rfl, hlt, fun W v B0 BW hB0 hvv => ⟨_, _, _, Kd.R_lower hvv (Nat.le_trans hbs hB0), hW, hI3, by rw [← e3]; exact hco, by omega, Nat.le_trans hbs BW.size, below_then hB hB.size BW⟩⟩
            have fail4 : noteP S most t x = (4, S) → ∀ W, Below wr.heap.size wr W → RNotePost S most t x base q w (.returned (.int .i64 4)) W := fun e W BW => ⟨N, by rw [e], hM.below BW, by rw [e]; exact hR.out, grown_of_below (below_then hB hB.size BW) _⟩
            have rowW := fun W (BW : Below wr.heap.size wr W) => hrM.grown (grown_of_below BW none) (by simp)
            have RCo := CO wr (Below.refl _ _)
            have hgt' : most < (M.length : Int) := hgt
            clear hrow hco eN CO hM hRel hInv hv hrM
            replace hsizeM := Aside0.mk hsizeM
            replace step := Aside0.mk step
            replace fail4 := Aside0.mk fail4
            replace rowW := Aside0.mk rowW
            go_wp2_with fail
            refine RCo.mono ?_
            rintro e W3 ⟨b, m, rfl, hcs, B3⟩
            rcases step.out b m hcs with ⟨rfl, h4'⟩ | ⟨k, hk, rfl, hdec, hnext⟩
            · have F := fail4.out h4' W3 B3
              clear hcs RCo
              replace F := Aside0.mk F
              replace h4' := Aside0.mk h4'
              go_wp2
              go_ret
              exact F.out
            · obtain ⟨g, rfl, _⟩ := hAm (by omega)
              have hr3 := rowW.out W3 B3
              obtain ⟨q0, q1, q2, q3, q4⟩ := RowN.at hr3 k M[k] (List.getElem?_eq_getElem hk)
              have CA := fun n => coarse_calls (w.heap.size + 1) (.slice (some ⟨g, 0, none⟩) M.length cm) M M[k].1 M[k].2.t (W3.drewN n) (hr3.grown (drewNG W3 n) (by simp)) hMl
              generalize hcN : coarseN M M[k].1 M[k].2.t = C at CA hdec hnext
              generalize M[k] = y at q0 q1 q2 q3 q4 CA hcN
              clear hcs RCo hr3 hcN
              replace hnext := Aside0.mk hnext
              replace hdec := Aside0.mk hdec
              go_wp2_with fail
              go_region_held3 (fun V => V.cell? ⟨g, k * 5, none⟩ = some (.int .i64 y.1) ∧ V.cell? ⟨g, k * 5 + 1, none⟩ = some (.string y.2.t)) (first | exact ⟨q0, q1⟩ | exact ⟨K9 _ _ q0, K9 _ _ q1⟩)
                ((go_at_call 34; refine (CA _).mono ?_; rintro e W' ⟨v', rfl, hv', B'⟩; have K9 : ∀ q v, W3.cell? q = some v → W'.cell? q = some v := fun q v hv => (B'.cell (World.block_lt_of_cell? _ _ hv)).trans hv))
              have BD : Below W3.heap.size W3 (W3.drewN 1) := (Below.refl _ W3).grown (drewNG W3 1) (Nat.le_refl _) (by simp)
              have BB := below_then B3 B3.size (below_then BD BD.size B')
              obtain ⟨A', c', rfl, _, _⟩ := (Lo.ofR hv').slice
              have F := hnext.out W' _ _ BB (Nat.le_trans B3.size BD.size) hv'
              have hd := hdec.out
              replace F := Aside0.mk F
              go_wp2
              refine ⟨F.out, ?_⟩
              simp [lenOf]
              omega
          · have hle : n ≤ most := by have : n = (M.length : Int) := hsizeM; omega
            have hres : noteP S most t x = (0, ⟨K, R, n⟩) := eN.out (some (R, n)) (by rw [← hco, coarseF_eq, if_pos hle])
            have hge : ¬ (most < (M.length : Int)) := hgt
            have fz := blk_fz hc 1
            clear hrow hM hco eN
            replace hv := Aside0.mk hv
            replace hRel := Aside0.mk hRel
            replace hInv := Aside0.mk hInv
            replace hres := Aside0.mk hres
            replace hsizeM := Aside0.mk hsizeM
            go_wp2
            go_ret
            have hbse := Kd.R_base hv.out
            refine ⟨M, by rw [hres.out]; rfl, ⟨_, blk_set hc 1 _, ?_⟩, by rw [hres.out]; exact hRel.out, trans_grown (grown_of_below hB _) (grown_set wr q 1 _)⟩
            refine Kd.R_lower (Kd.R_mono (Kd.R_grown (Kd.R_bound hv.out) (grown_set wr q 1 _) (fun k hk e => ?_)) (fun _ _ => trivial)) (by omega)
            injection e with e
            have := hk.2.1
            omega
end Go.Proofs.YteikmnokmcnmcaaGreat
namespace Go.Proofs.YteikmnokmcnmcaaGreat
open Go.RowKit Go.Maps Go.Sort Go.Lib Go.Proofs.YteikmnokmcnmcaaGreatW.PrintWords Go.Proofs.YteikmnokmcnmcaaGreatW.PrintLast Go.Proofs.YteikmnokmcnmcaaGreatW.PrintMore
set_option linter.unusedVariables false
set_option linter.unusedSimpArgs false
set_option linter.unusedSectionVars false
/-! ### Equal of notes, alike; asks -/
theorem neRd (y : Rd) (w : World) : (binOp .neq 31 (mkR y) (mkR y)).run Tryz.prog w = .ok (.bool false) w := by
  have u9 := Tryz.underlying9
  have a9 := Tryz.isAgg9
  have z9 := Tryz.sizeOf9
  have u3 := Tryz.underlying3
  have a3 := Tryz.isAgg3
  have z3 := Tryz.sizeOf3
  have hS : Tryz.prog.underlying 31 = some (.struct (Tryz.prog.fieldsOf 31)) := by kernel_rfl
  have hp : Tryz.prog.stoodInHeld 31 = false := by kernel_rfl
  rw [run_neq_struct, show (10000 : Nat) = 9999 + 1 from rfl, run_equalIn_agg w 9999 31 _ _ hS hp]
  simp only [Program.fieldsOf, Tryz.underlying31]
  go_simp
def EJr (w : World) (b1 b2 : Nat) (v1 v2 : Value) (xs : List Rd) (iv : Value) (wr : World) : Prop := ∃ j : Nat, j ≤ xs.length ∧ iv = .int .i64 j ∧ RowR wr b1 v1 xs ∧ RowR wr b2 v2 xs ∧ Below w.heap.size w wr
set_option maxHeartbeats 4000000 in
set_option maxRecDepth 100000 in
theorem EqualR_calls (b1 b2 : Nat) (v1 v2 : Value) (xs : List Rd) (w : World) (h1 : RowR w b1 v1 xs) (h2 : RowR w b2 v2 xs) (hl : xs.length ≤ 9223372036854775806) :
    Calls Tryz.prog 44 #[v1, v2] w fun e w' => e = .returned (.bool true) ∧ Below w.heap.size w w' := by
  obtain ⟨A, c, rfl, hc, hA⟩ := h1.slice
  obtain ⟨B, d, rfl, hd, hB⟩ := h2.slice
  go_enter Tryz.func44, Tryz.ntmps44
  go_wp2_with fail
  go_loopw [5, 13] (fun _ iv wr => EJr w b1 b2 (.slice A xs.length c) (.slice B xs.length d) xs iv wr) (fun _ iv _ => xs.length - (intOf iv).toNat)
  case atStart => exact ⟨0, Nat.zero_le _, rfl, h1, h2, Below.refl _ _⟩
  case round =>
    clear h1 h2
    obtain ⟨j, hj, rfl, h1, h2, hb⟩ := hrel
    by_cases hjl : j < xs.length
    · obtain ⟨g, rfl, _⟩ := hA (by omega)
      obtain ⟨k, rfl, _⟩ := hB (by omega)
      obtain ⟨y0, y1, y2, y3⟩ := RowR.at h1 j xs[j] (List.getElem?_eq_getElem hjl)
      obtain ⟨z0, z1, z2, z3⟩ := RowR.at h2 j xs[j] (List.getElem?_eq_getElem hjl)
      generalize xs[j] = x at y0 y1 y2 y3 z0 z1 z2 z3
      have fin : EJr w b1 b2 (.slice (some ⟨g, 0, none⟩) xs.length c) (.slice (some ⟨k, 0, none⟩) xs.length d) xs (.int .i64 ((j : Int) + 1)) wr.drew := ⟨j + 1, by omega, by simp, h1.grown (drewG wr) (by simp), h2.grown (drewG wr) (by simp), hb.grown (drewG wr) hb.size (by simp)⟩
      have ne := neRd x
      clear h1 h2 hb
      replace fin := Aside0.mk fin
      go_wp2_with fail
      go_region_held3 (fun W => W.cell? ⟨g, j * 4, none⟩ = some (.string x.t) ∧ W.cell? ⟨g, j * 4 + 1, none⟩ = some (.int .i64 x.k) ∧ W.cell? ⟨g, j * 4 + 2, none⟩ = some (.string x.f) ∧ W.cell? ⟨g, j * 4 + 3, none⟩ = some (.string x.u) ∧
        W.cell? ⟨k, j * 4, none⟩ = some (.string x.t) ∧ W.cell? ⟨k, j * 4 + 1, none⟩ = some (.int .i64 x.k) ∧ W.cell? ⟨k, j * 4 + 2, none⟩ = some (.string x.f) ∧ W.cell? ⟨k, j * 4 + 3, none⟩ = some (.string x.u)) (exact ⟨y0, y1, y2, y3, z0, z1, z2, z3⟩) (fail)
      go_wp2
      refine ⟨fin.out, ?_⟩
      simp [intOf]
      omega
    · obtain rfl : j = xs.length := by omega
      clear h1 h2
      go_wp2
      go_ret
      exact ⟨rfl, hb⟩
/-- program and document, side by side -/
structure Both (w : World) (base p q : Nat) (most : Int) (S : St) (N : List Nt) : Prop where
  m : MrS w base p most S
  d : RM w base q most N
  rel : Rel S N
  ne : p ≠ q
  is26 : ∃ c s, w.heap[q]? = some (.cells c 26 s)
theorem Both.below {w w' : World} {base p q : Nat} {most : Int} {S : St} {N : List Nt} (h : Both w base p q most S N) (B : Below w.heap.size w w') : Both w' base p q most S N := by
  obtain ⟨c, s, hc⟩ := h.is26
  exact ⟨h.m.kept (grown_of_below B none), h.d.below B, h.rel, h.ne, c, s, blk_below hc B⟩
theorem Both.len {w : World} {base p q : Nat} {most : Int} {S : St} {N : List Nt} (h : Both w base p q most S N) : N.length ≤ 65536 := by
  have := h.rel.size
  have := h.m.le
  have := h.m.top
  omega
theorem readP_len {S : St} (hI : InvK S) (tab key : ByteArray) : ((readP S tab key).length : Int) ≤ S.n := by
  have h1 := rise_length ((S.K.filter (fun q => (q.2.toList == tab.toList) && (S.R q).any (fun y => holdB y key))).map (·.1))
  rw [List.length_map] at h1
  have h2 := List.length_filter_le (fun q => (q.2.toList == tab.toList) && (S.R q).any (fun y => holdB y key)) S.K
  have := hI.card
  unfold readP
  omega
theorem ROf_S (base q : Nat) (most : Int) (S : St) (N : List Nt) (t : Int) (w : World) (h : RM w base q most N) (hl : N.length ≤ 65536) (hI : InvK S) (hR : Rel S N) :
    Calls Tryz.prog 45 #[.pointer (some ⟨q, 0, none⟩), .int .i64 t] w fun e w' => ∃ v, e = .returned v ∧ dR.R 31 w' w.heap.size (fun _ => True) v (srtC cmpRd (ofP S t)) ∧ Below w.heap.size w w' := by
  refine (ROf_calls base q most N t w h hl).mono ?_
  rintro e w' ⟨v, ys, rfl, hv, hin, B⟩
  exact ⟨v, rfl, by rw [hin.done (hR.of hI t)]; exact hv, B⟩
theorem RRead_S (base q : Nat) (most : Int) (S : St) (N : List Nt) (tab key : ByteArray) (w : World) (h : RM w base q most N) (hl : N.length ≤ 65536) (hI : InvK S) (hR : Rel S N) :
    Calls Tryz.prog 43 #[.pointer (some ⟨q, 0, none⟩), .string tab, .string key] w fun e w' => ∃ v, e = .returned v ∧ dI.R 2 w' w.heap.size (fun _ => True) v (readP S tab key) ∧ Below w.heap.size w w' := by
  rw [← hR.readers hI]
  exact RReaders_calls base q most N tab key w h hl
theorem RTxns_S (base q : Nat) (most : Int) (S : St) (N : List Nt) (w : World) (h : RM w base q most N) (hl : N.length ≤ 65536) (hI : InvK S) (hR : Rel S N) :
    Calls Tryz.prog 16 #[.pointer (some ⟨q, 0, none⟩)] w fun e w' => ∃ v, e = .returned v ∧ dI.R 2 w' w.heap.size (fun _ => True) v (rise (S.K.map (·.1))) ∧ Below w.heap.size w w' := by
  rw [← hR.txns hI]
  exact RTxns_calls base q most N w h hl
theorem drewB (w : World) (n : Nat) : Below w.heap.size w (w.drewN n) := (Below.refl _ w).grown (drewNG w n) (Nat.le_refl _) (by simp)
theorem ofP_len2 {S : St} (h : InvK S) {most : Int} (hn : S.n ≤ most) (hm : most ≤ 65536) (t : Int) : (srtC cmpRd (ofP S t)).length ≤ 9223372036854775806 := by
  rw [srtC_length]
  have := ofP_len h t
  omega
set_option maxHeartbeats 8000000 in
set_option maxRecDepth 100000 in
theorem asks_calls (base p q : Nat) (most : Int) (S : St) (N : List Nt) (o : Sop) (w : World) (h : Both w base p q most S N) :
    Calls Tryz.prog 13 #[.pointer (some ⟨p, 0, none⟩), .pointer (some ⟨q, 0, none⟩), mkO o] w fun e w' => e = .returned (.bool true) ∧ Below w.heap.size w w' := by
  obtain ⟨w1, hw1⟩ : ∃ w1, w1 = w.alloc (.cells #[.int .i64 o.kind, .int .i64 o.txn, .string o.x.t, .int .i64 o.x.k, .string o.x.f, .string o.x.u, .string o.key] 33) := ⟨_, rfl⟩
  have B1 : Below w.heap.size w w1 := by rw [hw1]; exact (Below.refl _ w).alloc (Nat.le_refl _) _
  have ob : w1.heap[w.heap.size]? = some (boxO o) := by rw [hw1]; exact heap_alloc_new w _
  have h1 := h.below B1
  have hNl := h.len
  have hI := h.m.inv
  have hR := h.rel
  clear h
  obtain ⟨s0, s1, s2, s3, s4, s5, s6⟩ := op_cells ob
  obtain ⟨bx, hbx⟩ : ∃ bx, bx = w.heap.size := ⟨_, rfl⟩
  have BD := fun n => drewB w1 n
  by_cases k2 : o.kind = 2
  · have e0 : (o.kind == 2) = true := by simpa using k2
    have RA := fun W (B : Below w1.heap.size w1 W) => Readers_S base p most S o.x.t o.key W (h1.below B).m
    have RB := fun W (B : Below w1.heap.size w1 W) => RRead_S base q most S N o.x.t o.key W (h1.below B).d hNl hI hR
    have hrl := readP_len hI o.x.t o.key
    have hle2 := h1.m.le
    have htop := h1.m.top
    have EQ := fun W b1 b2 v1 v2 (r1 : RowI W b1 v1 (readP S o.x.t o.key)) (r2 : RowI W b2 v2 (readP S o.x.t o.key)) => Equal_calls b1 b2 v1 v2 _ W r1 r2 (by omega)
    generalize readP S o.x.t o.key = rs at RA RB EQ
    clear hrl hle2 htop h1 hI hR ob
    replace k2 := Aside0.mk k2
    replace hNl := Aside0.mk hNl
    go_enter Tryz.func13, Tryz.ntmps13
    go_upto_region 1 with (fail)
    rw [← hw1, ← hbx]
    rw [← hbx] at s0 s1 s2 s3 s4 s5 s6
    clear hw1
    replace hbx := Aside0.mk hbx
    go_wp2_with fail
    go_region_held3 (fun V => V.cell? ⟨bx, 2, none⟩ = some (.string o.x.t) ∧ V.cell? ⟨bx, 6, none⟩ = some (.string o.key)) (first | exact ⟨s2, s6⟩ | exact ⟨K9 _ _ s2, K9 _ _ s6⟩ | exact ⟨K8 _ _ s2, K8 _ _ s6⟩ | exact ⟨K7 _ _ s2, K7 _ _ s6⟩)
      (first
        | (go_at_call 20; have H9 := Lo.ofR (Kd.R_below Hr Bs); have H8 := Lo.ofR Hs; refine (EQ _ _ _ _ _ H9 H8).mono ?_; rintro e W' ⟨rfl, B'⟩; have K7 : ∀ q v, w1.cell? q = some v → W'.cell? q = some v := fun q v hv => ((below_then (below_then B9 B9.size Bs) (below_then B9 B9.size Bs).size B').cell (World.block_lt_of_cell? _ _ hv)).trans hv)
        | (go_at_call 43; have B9 := below_then (BD _) (BD _).size Br; refine (RB _ B9).mono ?_; rintro e Ws ⟨vs, rfl, Hs, Bs⟩; have K8 : ∀ q v, w1.cell? q = some v → Ws.cell? q = some v := fun q v hv => ((below_then B9 B9.size Bs).cell (World.block_lt_of_cell? _ _ hv)).trans hv)
        | (go_at_call 10; refine (RA _ (BD _)).mono ?_; rintro e Wr ⟨vr, rfl, Hr, Br⟩; have K9 : ∀ q v, w1.cell? q = some v → Wr.cell? q = some v := fun q v hv => (Br.cell (World.block_lt_of_cell? _ _ hv)).trans hv))
    go_wp2
    go_ret
    have B10 := below_then (BD 1) (BD 1).size Br
    have B11 := below_then B10 B10.size Bs
    have B12 := below_then B11 B11.size B'
    exact ⟨rfl, below_then B1 B1.size B12⟩
  by_cases k3 : o.kind = 3
  · have e2 : (o.kind == 2) = false := by simpa using k2
    have e0 : (o.kind == 3) = true := by simpa using k3
    have RA := fun W (B : Below w1.heap.size w1 W) => Of_S base p most S o.txn W (h1.below B).m
    have RB := fun W (B : Below w1.heap.size w1 W) => ROf_S base q most S N o.txn W (h1.below B).d hNl hI hR
    have hol := ofP_len2 hI h1.m.le h1.m.top o.txn
    have EQ := fun W b1 b2 v1 v2 (r1 : RowR W b1 v1 (srtC cmpRd (ofP S o.txn))) (r2 : RowR W b2 v2 (srtC cmpRd (ofP S o.txn))) => EqualR_calls b1 b2 v1 v2 _ W r1 r2 hol
    generalize srtC cmpRd (ofP S o.txn) = rs at RA RB EQ
    clear hol h1 hI hR ob
    replace k2 := Aside0.mk k2
    replace k3 := Aside0.mk k3
    replace hNl := Aside0.mk hNl
    go_enter Tryz.func13, Tryz.ntmps13
    go_upto_region 1 with (fail)
    rw [← hw1, ← hbx]
    rw [← hbx] at s0 s1 s2 s3 s4 s5 s6
    clear hw1
    replace hbx := Aside0.mk hbx
    go_wp2_with fail
    go_region_held3 (fun V => V.cell? ⟨bx, 1, none⟩ = some (.int .i64 o.txn)) (first | exact s1 | exact K9 _ _ s1 | exact K8 _ _ s1 | exact K7 _ _ s1)
      (first
        | (go_at_call 44; have H9 := Lo.ofR (Kd.R_below Hr Bs); have H8 := Lo.ofR Hs; refine (EQ _ _ _ _ _ H9 H8).mono ?_; rintro e W' ⟨rfl, B'⟩; have K7 : ∀ q v, w1.cell? q = some v → W'.cell? q = some v := fun q v hv => ((below_then (below_then B9 B9.size Bs) (below_then B9 B9.size Bs).size B').cell (World.block_lt_of_cell? _ _ hv)).trans hv)
        | (go_at_call 45; have B9 := below_then (BD _) (BD _).size Br; refine (RB _ B9).mono ?_; rintro e Ws ⟨vs, rfl, Hs, Bs⟩; have K8 : ∀ q v, w1.cell? q = some v → Ws.cell? q = some v := fun q v hv => ((below_then B9 B9.size Bs).cell (World.block_lt_of_cell? _ _ hv)).trans hv)
        | (go_at_call 12; refine (RA _ (BD _)).mono ?_; rintro e Wr ⟨vr, rfl, Hr, Br⟩; have K9 : ∀ q v, w1.cell? q = some v → Wr.cell? q = some v := fun q v hv => (Br.cell (World.block_lt_of_cell? _ _ hv)).trans hv))
    go_wp2
    go_ret
    have B10 := below_then (BD 1) (BD 1).size Br
    have B11 := below_then B10 B10.size Bs
    have B12 := below_then B11 B11.size B'
    exact ⟨rfl, below_then B1 B1.size B12⟩
  by_cases k4 : o.kind = 4
  · have e2 : (o.kind == 2) = false := by simpa using k2
    have e3 : (o.kind == 3) = false := by simpa using k3
    have e0 : (o.kind == 4) = true := by simpa using k4
    have RA := Txns_S base p most S w1 h1.m
    have RB := fun W (B : Below w1.heap.size w1 W) => RTxns_S base q most S N W (h1.below B).d hNl hI hR
    have hrl : (rise (S.K.map (·.1))).length ≤ 9223372036854775806 := by
      have h5 := rise_length (S.K.map (·.1))
      rw [List.length_map] at h5
      have := hI.card
      have := h1.m.le
      have := h1.m.top
      omega
    have EQ := fun W b1 b2 v1 v2 (r1 : RowI W b1 v1 (rise (S.K.map (·.1)))) (r2 : RowI W b2 v2 (rise (S.K.map (·.1)))) => Equal_calls b1 b2 v1 v2 _ W r1 r2 hrl
    generalize rise (S.K.map (·.1)) = rs at RA RB EQ
    clear hrl h1 hI hR ob
    replace k2 := Aside0.mk k2
    replace k3 := Aside0.mk k3
    replace k4 := Aside0.mk k4
    replace hNl := Aside0.mk hNl
    go_enter Tryz.func13, Tryz.ntmps13
    go_upto_region 1 with (fail)
    rw [← hw1, ← hbx]
    rw [← hbx] at s0 s1 s2 s3 s4 s5 s6
    clear hw1
    replace hbx := Aside0.mk hbx
    go_wp2_with fail
    refine RA.mono ?_
    rintro e Wr ⟨vr, rfl, Hr, Br⟩
    have RB2 := RB Wr Br
    clear RB
    go_wp2_with fail
    refine RB2.mono ?_
    rintro e Ws ⟨vs, rfl, Hs, Bs⟩
    have EQ2 := EQ Ws _ _ _ _ (Lo.ofR (Kd.R_below Hr Bs)) (Lo.ofR Hs)
    clear EQ
    go_wp2_with fail
    refine EQ2.mono ?_
    rintro e W' ⟨rfl, B'⟩
    go_wp2
    go_ret
    have B11 := below_then Br Br.size Bs
    have B12 := below_then B11 B11.size B'
    exact ⟨rfl, below_then B1 B1.size B12⟩
  · have e2 : (o.kind == 2) = false := by simpa using k2
    have e3 : (o.kind == 3) = false := by simpa using k3
    have e4 : (o.kind == 4) = false := by simpa using k4
    have RA := Len_S base p most S w1 h1.m
    have RB := RLen_calls base q most N w1 h1.d
    rw [hR.size] at RA
    clear h1 hI hR ob
    replace k2 := Aside0.mk k2
    replace k3 := Aside0.mk k3
    replace k4 := Aside0.mk k4
    replace hNl := Aside0.mk hNl
    go_enter Tryz.func13, Tryz.ntmps13
    go_upto_region 1 with (fail)
    rw [← hw1, ← hbx]
    rw [← hbx] at s0 s1 s2 s3 s4 s5 s6
    clear hw1
    replace hbx := Aside0.mk hbx
    go_wp2_with fail
    refine RA.mono ?_
    rintro e W' ⟨rfl, rfl⟩
    go_wp2_with fail
    refine RB.mono ?_
    rintro e W' ⟨rfl, rfl⟩
    go_wp2
    go_ret
    exact ⟨rfl, B1⟩
end Go.Proofs.YteikmnokmcnmcaaGreat
