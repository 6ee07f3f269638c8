import Derived.Test.YteikmnokmcnmcaaGreatMK
namespace Go.Proofs.YteikmnokmcnmcaaGreat
open Go.RowKit Go.Maps Go.Sort Go.Lib Go.Proofs.YteikmnokmcnmcaaGreatW.PrintWords Go.Proofs.YteikmnokmcnmcaaGreatW.PrintLast Go.Proofs.YteikmnokmcnmcaaGreatW.PrintMore
set_option linter.unusedVariables false
set_option linter.unusedSimpArgs false
set_option linter.unusedSectionVars false
/-! ### scribble -/
theorem RowI.put {w : World} {base g n c : Nat} {xs : List Int} (h : RowI w base (.slice (some ⟨g, 0, none⟩) n c) xs) (i : Nat) (hi : i < xs.length) (x : Int) : RowI (w.setCell ⟨g, i, none⟩ (.int .i64 x)) base (.slice (some ⟨g, 0, none⟩) n c) (xs.set i x) := by
  obtain ⟨inner, ⟨hl, hr⟩, hp⟩ := h
  refine ⟨inner.set i (.int .i64 x), ⟨by simp [hl], ?_⟩, ⟨by simp [hp.1], fun j y hy => ?_⟩⟩
  · rcases hr with ⟨h1, _⟩ | ⟨g', cap, cur, hv, hb, hh, hnc, hcm, hcs, ht⟩
    · cases h1
    · injection hv with e1 e2 e3
      injection e1 with e1
      injection e1 with e1
      subst e1
      subst e3
      refine .inr ⟨g, c, _, by rw [List.length_set, e2], hb, blk_set hh _ _, by rw [List.length_set]; exact hnc, hcm, by simpa using hcs, ?_⟩
      rw [← ht, List.length_set]
      simp only [Array.toList_setIfInBounds, List.take_set]
  · have hlen := hp.1
    rw [List.getElem?_set] at hy
    show ((inner.set i (.int .i64 x)).drop (j * 1)).take 1 = encI y
    by_cases e : i = j
    · subst e
      rw [if_pos rfl, if_pos hi] at hy
      injection hy with hy
      subst hy
      rw [Nat.mul_one]
      exact cells1 (by rw [List.getElem?_set, if_pos rfl, if_pos (by omega)])
    · rw [if_neg e] at hy
      have h2 : (inner.drop (j * 1)).take 1 = encI y := hp.2 j y hy
      rw [← h2]
      apply List.ext_getElem?
      intro t
      rw [List.getElem?_take, List.getElem?_take, List.getElem?_drop, List.getElem?_drop, List.getElem?_set]
      by_cases ht : t < 1
      · rw [if_pos ht, if_pos ht, if_neg (by omega)]
      · rw [if_neg ht, if_neg ht]
theorem RowI.frozen {w : World} {base g n c : Nat} {xs : List Int} (h : RowI w base (.slice (some ⟨g, 0, none⟩) n c) xs) (j : Nat) : w.frozen? ⟨g, j, none⟩ = false := by
  obtain ⟨_, _, cells, hc⟩ := h.typed g rfl
  exact blk_frozen hc _
theorem appLI {W : World} {base : Nat} {v : Value} {xs : List Int} (h : RowI W base v xs) (n : Int) (hl : xs.length ≤ 1000000) (hb : base ≤ W.heap.size) :
    ∃ v' w', (Builtin.append_ #[37, 37] 37 #[v, .slice (some ⟨W.heap.size, 0, none⟩) 1 1]).run Tryz.prog (W.alloc (.cells #[.int .i64 n] 2)) = .ok v' w' ∧ RowI w' base v' (xs ++ [n]) ∧ W.grownBy w' v.ownBlock :=
  Lo.append h (fun _ => rfl) encI_one 37 37 _ 8 Tryz.underlying37 info2 rfl (by decide) (by decide) n (by omega) hb
def ScJ (w : World) (base : Nat) (v : Value) (n : Nat) (vi : Value) (wr : World) : Prop := ∃ (j : Nat) (ys : List Int), vi = .int .i64 (j : Int) ∧ j ≤ n ∧ ys.length = n ∧ RowI wr base v ys ∧ base ≤ wr.heap.size ∧ Below base w wr
set_option maxHeartbeats 4000000 in
set_option maxRecDepth 100000 in
theorem scribble_calls (base : Nat) (v : Value) (xs : List Int) (w : World) (h : RowI w base v xs) (hl : xs.length ≤ 65536) (hb : base ≤ w.heap.size) :
    Calls Tryz.prog 9 #[v] w fun e w' => e = .returned (.tuple #[]) ∧ Below base w w' := by
  obtain ⟨A, c, rfl, hc, hA⟩ := h.slice
  have J0 : ScJ w base (.slice A xs.length c) xs.length (.int .i64 0) w := ⟨0, xs, rfl, Nat.zero_le _, rfl, h, hb, Below.refl _ _⟩
  clear h
  go_enter Tryz.func9, Tryz.ntmps9
  go_wp2_with fail
  go_loopw [5] (fun vi wr => ScJ w base (.slice A xs.length c) xs.length vi wr) (fun vi _ => xs.length - (intOf vi).toNat)
  case atStart => exact J0
  case round =>
    clear J0
    obtain ⟨j, ys, rfl, hj, hyl, hr, hbw, hB⟩ := hrel
    by_cases hjl : j < xs.length
    · obtain ⟨g, rfl, hg⟩ := hA (by omega)
      have y0 := RowI.at hr j (ys[j]'(by omega)) (List.getElem?_eq_getElem (by omega))
      have f0 := hr.frozen j
      have fin : ScJ w base (.slice (some ⟨g, 0, none⟩) xs.length c) xs.length (.int .i64 ((j : Int) + 1)) (wr.setCell ⟨g, j, none⟩ (.int .i64 (-9))) := ⟨j + 1, ys.set j (-9), by simp, by omega, by simp [hyl], RowI.put hr j (by omega) (-9), by simpa using hbw, hB.grown (grown_set wr g j _) hbw (fun k e => by injection e with e; omega)⟩
      generalize ys[j]'(by omega) = y at y0
      clear hr
      replace hyl := Aside0.mk hyl
      replace fin := Aside0.mk fin
      go_wp2
      refine ⟨fin.out, ?_⟩
      simp [intOf]
      omega
    · have hge : ¬ (j : Int) < (xs.length : Int) := by omega
      have hje : j = xs.length := by omega
      replace hje := Aside0.mk hje
      obtain ⟨v', w', hrun, hr', hg'⟩ := appLI hr (-9) (by omega) hbw
      have hown := fun b hb' => (hr.typed b hb').1
      have hB' := hB.grown hg' hbw hown
      have hlen : (ys ++ [-9]).length = xs.length + 1 := by simp [hyl]
      obtain ⟨A', c', rfl, hc', hA'⟩ := hr'.slice
      obtain ⟨g', rfl, hgb⟩ := hA' (by omega)
      have y0 := RowI.at hr' xs.length (-9) (by rw [List.getElem?_append_right (by omega)]; simp [hyl])
      have f0 := hr'.frozen xs.length
      rw [hlen] at hrun
      have hbw' : base ≤ w'.heap.size := Nat.le_trans hbw hg'.size
      have fin : Below base w (w'.setCell ⟨g', xs.length, none⟩ (.int .i64 (-10))) := hB'.grown (grown_set w' g' _ _) hbw' (fun k e => by injection e with e; omega)
      clear hr hr' hlen hg' hc' hA'
      replace hyl := Aside0.mk hyl
      replace fin := Aside0.mk fin
      go_wp2_with (at_builtin; refine app_list rfl rfl rfl rfl hrun ?_)
      go_end0
      exact ⟨rfl, fin.out⟩
end Go.Proofs.YteikmnokmcnmcaaGreat
namespace Go.Proofs.YteikmnokmcnmcaaGreat
open Go.RowKit Go.Maps Go.Sort Go.Lib Go.Proofs.YteikmnokmcnmcaaGreatW.PrintWords Go.Proofs.YteikmnokmcnmcaaGreatW.PrintLast Go.Proofs.YteikmnokmcnmcaaGreatW.PrintMore
set_option linter.unusedVariables false
set_option linter.unusedSimpArgs false
set_option linter.unusedSectionVars false
/-! ### SireadOwn -/
theorem appLR {W : World} {base : Nat} {v : Value} {xs : List Rd} (h : RowR W base v xs) (x : Rd) (hl : xs.length ≤ 1000000) (hb : base ≤ W.heap.size) :
    ∃ v' w', (Builtin.append_ #[40, 40] 40 #[v, .slice (some ⟨W.heap.size, 0, none⟩) 1 1]).run Tryz.prog (W.alloc (.cells #[.string x.t, .int .i64 x.k, .string x.f, .string x.u] 31)) = .ok v' w' ∧ RowR w' base v' (xs ++ [x]) ∧ W.grownBy w' v.ownBlock :=
  Lo.append h (fun _ => rfl) cellsR_one 40 40 _ 56 Tryz.underlying40 info23 rfl (by decide) (by decide) x (by omega) hb
def KO (w : World) (p q : Nat) (most : Int) (bx : Nat) (o : Sop) (W : World) : Prop := ∃ (S : St) (N : List Nt), Both W w.heap.size p q most S N ∧ W.heap[bx]? = some (boxO o) ∧ Below w.heap.size w W
def SpJ (w : World) (base : Nat) (v : Value) (n : Nat) (vi : Value) (wr : World) : Prop := ∃ (j : Nat) (ys : List Rd), vi = .int .i64 (j : Int) ∧ j ≤ n ∧ ys.length = n ∧ RowR wr base v ys ∧ base ≤ wr.heap.size ∧ Below base w wr
set_option maxHeartbeats 16000000 in
set_option maxRecDepth 100000 in
theorem SireadOwn_calls (most : Int) (z : Scr) (w : World) (hz : z.OK w) :
    Calls Tryz.prog 3 #[.int .i64 most, z.val] w fun e w' => e = .returned (.bool true) ∧ Below w.heap.size w w' := by
  obtain ⟨A, c, xs⟩ := z
  obtain ⟨hC, hx, hxl⟩ := hz
  unfold Scr.val
  dsimp only at hC hx hxl ⊢
  have hrb : reachBytes = 140737488351232 := rfl
  have LV := fun W => live_calls W
  by_cases hin : 1 ≤ most ∧ most ≤ 65536
  · have BG := begun_S most w.heap.size w (Nat.le_refl _) hin.1 hin.2
    go_enter Tryz.func3, Tryz.ntmps3
    go_wp2_with fail
    refine BG.mono ?_
    rintro e w1 ⟨p, rfl, M1, B1⟩
    obtain ⟨W2, hW2⟩ : ∃ W2, W2 = w1.alloc (.cells #[.int .i64 most, .slice none 0 0] 26) := ⟨_, rfl⟩
    have B2 : Below w1.heap.size w1 W2 := by rw [hW2]; exact (Below.refl _ w1).alloc (Nat.le_refl _) _
    have oq : W2.heap[w1.heap.size]? = some (.cells #[.int .i64 most, .slice none 0 0] 26 (0, 0)) := by rw [hW2]; exact heap_alloc_new w1 _
    obtain ⟨q, hq⟩ : ∃ q, q = w1.heap.size := ⟨_, rfl⟩
    have hqlow : w.heap.size ≤ q := by rw [hq]; exact B1.size
    have hpq : p ≠ q := by have := M1.lt; omega
    have B12 := below_then B1 B1.size B2
    have M2 := M1.kept (grown_of_below B2 none)
    have E2 : Both W2 w.heap.size p q most St0 [] := ⟨M2, ⟨_, hq ▸ oq, Kd.R_nil _ _ _ _ _⟩, Rel.empty, hpq, _, _, hq ▸ oq⟩
    have LV2 := LV W2
    clear LV BG hin M2 oq
    go_upto_region 2 with (fail)
    rw [← hW2, ← hq]
    clear hW2 hq
    go_wp2_with fail
    refine LV2.mono ?_
    rintro e W3 ⟨rfl, B3⟩
    have hJ0 : PJ1 w p q most xs.length (.int .i64 0) W3 := ⟨0, St0, [], rfl, Nat.zero_le _, E2.below B3, below_then B12 B12.size B3⟩
    have hn := hC.2.1
    have hplow : w.heap.size ≤ p := M1.low
    clear M1 B1 B2 B12 B3 LV2 E2
    replace hC := Aside0.mk hC
    replace hx := Aside0.mk hx
    replace hrb := Aside0.mk hrb
    go_wp2_with fail
    go_loopw [34] (fun vi wr => PJ1 w p q most xs.length vi wr) (fun vi _ => xs.length - (intOf vi).toNat)
    case atStart => exact hJ0
    case round =>
      clear hJ0
      obtain ⟨i, S, N, rfl, hi, E, B⟩ := hrel
      have C := Kd.C_below hC.out B
      by_cases hlt : i < xs.length
      · obtain ⟨ad, rfl, q0, q1, q2, q3, q4, q5, q6⟩ := op_at C i hlt
        have hxo := hx.out _ (List.getElem_mem hlt)
        generalize xs[i] = o at q0 q1 q2 q3 q4 q5 q6 hxo
        obtain ⟨W4, hW4⟩ : ∃ W4, W4 = wr.alloc (.cells #[.int .i64 o.kind, .int .i64 o.txn, .string o.x.t, .int .i64 o.x.k, .string o.x.f, .string o.x.u, .string o.key] 33) := ⟨_, rfl⟩
        have B4 : Below wr.heap.size wr W4 := by rw [hW4]; exact (Below.refl _ wr).alloc (Nat.le_refl _) _
        have ob4 : W4.heap[wr.heap.size]? = some (boxO o) := by rw [hW4]; exact heap_alloc_new wr _
        obtain ⟨bx, hbx⟩ : ∃ bx, bx = wr.heap.size := ⟨_, rfl⟩
        have E4 := E.below B4
        have B14 := below_then B B.size B4
        go_upto_region 7 with (fail)
        rw [← hW4, ← hbx]
        have hpb : bx ≠ p := by have := E.m.lt; omega
        have hqb : bx ≠ q := by have := E.d.lt; omega
        rw [← hbx] at ob4
        clear hW4 q0 q1 q2 q3 q4 q5 q6 B4 hbx E C B
        obtain ⟨r0, r1, r2, r3, r4, r5, r6⟩ := op_cells ob4
        go_upto_if 40 with (fail)
        go_cut [] (fun wx => KO w p q most bx o wx)
        case first =>
          by_cases k0 : o.kind = 0
          · have e0 : (o.kind == 0) = true := by simpa using k0
            have N1 := Note_S w.heap.size p most S o.txn o.x W4 E4.m hxo.x hxo.txn
            have N2 := fun W5 (G : W4.grownBy W5 (some p)) => RNote_calls w.heap.size q most S N o.txn o.x W5 (E4.d.far2 (fun e => hpq e.symm) E4.m.is55 (far_of_grown G)) E4.m.inv E4.rel E4.m.le E4.m.top E4.m.bot hxo.x (Nat.le_trans B14.size G.size)
            have ob5 : ∀ W5, W4.grownBy W5 (some p) → W5.heap[bx]? = some (boxO o) := fun W5 G => far_of_grown G bx _ _ _ hpb ob4
            have fin : ∀ W5 W6 N', MrS W5 w.heap.size p most (noteP S most o.txn o.x).2 → W4.grownBy W5 (some p) → RM W6 w.heap.size q most N' → Rel (noteP S most o.txn o.x).2 N' → W5.grownBy W6 (some q) → KO w p q most bx o W6 := by
              intro W5 W6 N' M5 G5 D6 R6 G6
              have d5 := E4.d.far2 (fun e => hpq e.symm) E4.m.is55 (far_of_grown G5)
              have B5 : Below w.heap.size w W5 := B14.grown G5 B14.size (fun k hk => by injection hk with hk; omega)
              have B6 : Below w.heap.size w W6 := B5.grown G6 B5.size (fun k hk => by injection hk with hk; omega)
              exact ⟨_, N', ⟨M5.far G6 d5.is26 (by decide) hpq, D6, R6, hpq, D6.is26⟩, far_of_grown G6 bx _ _ _ hqb (ob5 W5 G5), B6⟩
            replace k0 := Aside0.mk k0
            replace fin := Aside0.mk fin
            clear ob4 E4
            go_wp2_with fail
            refine N1.mono ?_
            rintro e W5 ⟨rfl, M5, G5⟩
            obtain ⟨t0, t1, t2, t3, t4, t5, t6⟩ := op_cells (ob5 _ G5)
            have N3 := N2 W5 G5
            clear N2 ob5
            go_wp2_with fail
            refine N3.mono ?_
            rintro e W6 ⟨N', rfl, D6, R6, G6⟩
            have F := fin.out _ _ _ M5 G5 D6 R6 G6
            clear M5 G5 D6 R6 G6
            replace F := Aside0.mk F
            go_wp2
            go_meet
            exact F.out
          · have e0 : (o.kind == 0) = false := by simpa using k0
            have F : KO w p q most bx o W4 := ⟨S, N, E4, ob4, B14⟩
            replace F := Aside0.mk F
            replace k0 := Aside0.mk k0
            clear ob4 E4
            go_wp2
            go_meet
            exact F.out
        case rest =>
          clear E4 ob4 B14 r0 r1 r2 r3 r4 r5 r6
          obtain ⟨S', N', E, ob, B⟩ := hcut
          obtain ⟨r0, r1, r2, r3, r4, r5, r6⟩ := op_cells ob
          have hI := E.m.inv
          have hle := E.m.le
          have htop := E.m.top
          have hcard := hI.card
          have hrl := readP_len hI o.x.t o.key
          have hrl2 := rise_length (S'.K.map (·.1))
          rw [List.length_map] at hrl2
          have hol : (srtC cmpRd (ofP S' o.txn)).length ≤ 65536 := by
            rw [srtC_length]
            have := ofP_len hI o.txn
            omega
          have RA := Readers_S w.heap.size p most S' o.x.t o.key wc E.m
          have TA := fun W (BW : Below wc.heap.size wc W) => Txns_S w.heap.size p most S' W (E.m.kept (grown_of_below BW none))
          have OA := fun W (BW : Below wc.heap.size wc W) => Of_S w.heap.size p most S' o.txn W (E.m.kept (grown_of_below BW none))
          have AS := fun W (BW : Below wc.heap.size wc W) (o' : Sop) => asks_calls w.heap.size p q most S' N' o' W (E.below BW)
          have oc := fun W (BW : Below wc.heap.size wc W) => op_cells (blk_below ob BW)
          have fin : ∀ W, Below wc.heap.size wc W → PJ1 w p q most xs.length (.int .i64 ((i : Int) + 1)) W := fun W BW => ⟨i + 1, S', N', by simp, by omega, E.below BW, below_then B B.size BW⟩
          have SC1 := fun W v (h : RowI W wc.heap.size v (readP S' o.x.t o.key)) (hb : wc.heap.size ≤ W.heap.size) => scribble_calls wc.heap.size v _ W h (by omega) hb
          have SC2 := fun b W v (h : RowI W b v (rise (S'.K.map (·.1)))) (hb : b ≤ W.heap.size) => scribble_calls b v _ W h (by omega) hb
          generalize readP S' o.x.t o.key = rs1 at RA SC1
          generalize rise (S'.K.map (·.1)) = rs2 at TA SC2
          generalize srtC cmpRd (ofP S' o.txn) = rs3 at OA hol
          clear hI hle htop hcard hrl hrl2 E ob B
          replace fin := Aside0.mk fin
          replace oc := Aside0.mk oc
          replace AS := Aside0.mk AS
          go_wp2_with fail
          refine RA.mono ?_
          rintro e W5 ⟨v5, rfl, H5, B5⟩
          have S5 := SC1 W5 v5 (Lo.ofR H5) B5.size
          clear RA SC1 H5 r0 r1 r2 r3 r4 r5 r6
          go_wp2_with fail
          refine S5.mono ?_
          rintro e W6 ⟨rfl, B6⟩
          have BW6 := B5.trans B6
          have T6 := TA W6 BW6
          clear S5 B5 B6 TA
          go_wp2_with fail
          refine T6.mono ?_
          rintro e W7 ⟨v7, rfl, H7, B7⟩
          have S7 := SC2 _ W7 v7 (Lo.ofR H7) B7.size
          clear T6 H7 SC2
          go_wp2_with fail
          refine S7.mono ?_
          rintro e W8 ⟨rfl, B8⟩
          have BW8 := below_then BW6 BW6.size (B7.trans B8)
          have O8 := OA W8 BW8
          obtain ⟨t0, t1, t2, t3, t4, t5, t6⟩ := oc.out W8 BW8
          clear S7 B7 B8 BW6 OA
          go_wp2_with fail
          refine O8.mono ?_
          rintro e W9 ⟨v9, rfl, H9, B9⟩
          have hr9 := Lo.ofR H9
          obtain ⟨Ao, co, rfl, hlo, hAo⟩ := hr9.slice
          have J9 : SpJ W8 W8.heap.size (.slice Ao rs3.length co) rs3.length (.int .i64 0) W9 := ⟨0, rs3, rfl, Nat.zero_le _, rfl, hr9, B9.size, B9⟩
          clear H9 hr9 O8 B9 t0 t1 t2 t3 t4 t5 t6
          go_wp2_with fail
          go_loopw [69] (fun vi W => SpJ W8 W8.heap.size (.slice Ao rs3.length co) rs3.length vi W) (fun vi _ => rs3.length - (intOf vi).toNat)
          case atStart => exact J9
          case round =>
            clear J9
            obtain ⟨j, ys, rfl, hj, hyl, hr, hbw, hB⟩ := hrel
            by_cases hjl : j < rs3.length
            · obtain ⟨g, rfl, hg⟩ := hAo (by omega)
              obtain ⟨y0, y1, y2, y3⟩ := RowR.at hr j (ys[j]'(by omega)) (List.getElem?_eq_getElem (by omega))
              have f0 := hr.frozen (j * 4)
              have f1 := hr.frozen (j * 4 + 1)
              have f2 := hr.frozen (j * 4 + 2)
              have f3 := hr.frozen (j * 4 + 3)
              have fin2 : ∀ x, SpJ W8 W8.heap.size (.slice (some ⟨g, 0, none⟩) rs3.length co) rs3.length (.int .i64 ((j : Int) + 1)) (put4 wr g j x) := fun x => ⟨j + 1, ys.set j x, by simp, by omega, by simp [hyl], RowR.put hr j (by omega) x, Nat.le_trans hbw (put4_grown wr g j x).size, hB.grown (put4_grown wr g j x) hbw (fun k e => by injection e with e; omega)⟩
              generalize ys[j]'(by omega) = y at y0 y1 y2 y3
              clear hr
              replace hyl := Aside0.mk hyl
              replace fin2 := Aside0.mk fin2
              go_wp2
              refine ⟨fin2.out ⟨⟨#[63]⟩, -9, ⟨#[]⟩, ⟨#[]⟩⟩, ?_⟩
              simp [intOf]
              omega
            · have hge : ¬ (j : Int) < (rs3.length : Int) := by omega
              have hje : j = rs3.length := by omega
              replace hje := Aside0.mk hje
              obtain ⟨v', w', hrun, hr', hg'⟩ := appLR hr ⟨⟨#[]⟩, -9, ⟨#[]⟩, ⟨#[]⟩⟩ (by omega) hbw
              have hown := fun b hb' => (hr.typed b hb').1
              have hB' := hB.grown hg' hbw hown
              have hlen : (ys ++ [(⟨⟨#[]⟩, -9, ⟨#[]⟩, ⟨#[]⟩⟩ : Rd)]).length = rs3.length + 1 := by simp [hyl]
              obtain ⟨A', c', rfl, hc', hA'⟩ := hr'.slice
              obtain ⟨g', rfl, hgb⟩ := hA' (by omega)
              obtain ⟨y0, y1, y2, y3⟩ := RowR.at hr' rs3.length ⟨⟨#[]⟩, -9, ⟨#[]⟩, ⟨#[]⟩⟩ (by rw [List.getElem?_append_right (by omega)]; simp [hyl])
              have f1 := hr'.frozen (rs3.length * 4 + 1)
              rw [hlen] at hrun
              have hbw' : W8.heap.size ≤ w'.heap.size := Nat.le_trans hbw hg'.size
              obtain ⟨W9, hW9⟩ : ∃ W9, W9 = w'.setCell ⟨g', rs3.length * 4 + 1, none⟩ (.int .i64 (-10)) := ⟨_, rfl⟩
              have BW9 : Below wc.heap.size wc W9 := by
                rw [hW9]
                have h1 : Below W8.heap.size W8 (w'.setCell ⟨g', rs3.length * 4 + 1, none⟩ (.int .i64 (-10))) := hB'.grown (grown_set w' g' _ _) hbw' (fun k e => by injection e with e; omega)
                exact below_then BW8 BW8.size h1
              clear hr hr' hlen hg' hc' hA' hB hB'
              replace hyl := Aside0.mk hyl
              obtain ⟨t0, t1, t2, t3, t4, t5, t6⟩ := oc.out W9 BW9
              have A1 := AS.out W9 BW9 ⟨3, o.txn, ⟨⟨#[]⟩, 0, ⟨#[]⟩, ⟨#[]⟩⟩, ⟨#[]⟩⟩
              go_upto_region 20 with (at_builtin; refine app_list rfl rfl rfl rfl hrun ?_)
              rw [← hW9]
              clear hW9 hrun y0 y1 y2 y3 f1
              go_wp2_with fail
              refine A1.mono ?_
              rintro e W10 ⟨rfl, B10⟩
              have BW10 := below_then BW9 BW9.size B10
              obtain ⟨z0, z1, z2, z3, z4, z5, z6⟩ := oc.out W10 BW10
              have A2 := AS.out W10 BW10 ⟨2, 0, o.x, o.key⟩
              clear t0 t1 t2 t3 t4 t5 t6 A1 B10 BW9
              go_wp2_with fail
              refine A2.mono ?_
              rintro e W11 ⟨rfl, B11⟩
              have BW11 := below_then BW10 BW10.size B11
              have A3 := AS.out W11 BW11 ⟨4, 0, ⟨⟨#[]⟩, 0, ⟨#[]⟩, ⟨#[]⟩⟩, ⟨#[]⟩⟩
              clear z0 z1 z2 z3 z4 z5 z6 A2 B11 BW10
              go_wp2_with fail
              refine A3.mono ?_
              rintro e W12 ⟨rfl, B12⟩
              have F := fin.out W12 (below_then BW11 BW11.size B12)
              replace F := Aside0.mk F
              go_wp2
              refine ⟨F.out, ?_⟩
              simp [intOf]
              omega
      · have hge : ¬ (i : Int) < (xs.length : Int) := by omega
        have hie : i = xs.length := by omega
        replace hie := Aside0.mk hie
        clear C E
        go_wp2
        go_ret
        exact ⟨rfl, B⟩
  · have BG := begun_bad most w (by omega)
    go_enter Tryz.func3, Tryz.ntmps3
    go_wp2_with fail
    refine BG.mono ?_
    rintro e w1 ⟨rfl, B1⟩
    obtain ⟨W2, hW2⟩ : ∃ W2, W2 = w1.alloc (.cells #[.int .i64 most, .slice none 0 0] 26) := ⟨_, rfl⟩
    have B2 : Below w1.heap.size w1 W2 := by rw [hW2]; exact (Below.refl _ w1).alloc (Nat.le_refl _) _
    have B12 := below_then B1 B1.size B2
    have LV2 := LV W2
    clear LV BG
    go_upto_region 2 with (fail)
    rw [← hW2]
    clear hW2
    go_wp2_with fail
    refine LV2.mono ?_
    rintro e W3 ⟨rfl, B3⟩
    go_wp2
    go_ret
    exact ⟨rfl, below_then B12 B12.size B3⟩
end Go.Proofs.YteikmnokmcnmcaaGreat
