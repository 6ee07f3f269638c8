import Derived.Test.YtedcnpaomphffaaML
namespace Go.Proofs.Ytedcnpaomphffaa
open Go.RowKit Go.Maps Go.Sort Go.Lib Go.Shelf Go.Proofs.YtedcnpaomphffaaW.PrintWords Go.Proofs.YtedcnpaomphffaaW.PrintLast Go.Proofs.YtedcnpaomphffaaW.PrintMore
set_option linter.unusedVariables false
set_option linter.unusedSimpArgs false
set_option linter.unusedSectionVars false
/-! ### Round -/
def SeC2 (wo : World) (g : List Dp) (names : List Int) (f : Int) (L : List Int) (na : Int) (m' m : Nat) (v13 v14 : Value) (wx : World) : Prop := ∃ a' : Nat, v14 = .int .i64 (a' : Int) ∧ a' < names.length ∧ RowI wx wo.heap.size v13 (L ++ [na]) ∧ Below wo.heap.size wo wx ∧ (L.length + 1 < m → IsNext g names f m' na (nm names a'))
set_option maxHeartbeats 16000000 in
set_option maxRecDepth 100000 in
theorem Round_calls (z : HV) (w : World) (hz : z.OK w) : Calls Try.prog 9 #[mkH z] w (RoPost w z.h) := by
  obtain ⟨w1, hw1, B1, hz1, b0, b1⟩ := hv_box z w hz
  obtain ⟨bx, hbx⟩ : ∃ bx, bx = w.heap.size := ⟨_, rfl⟩
  have RD := read_calls z w1 hz1
  have WB := fun W base hb b2 b3 L2 L3 (B : Below w1.heap.size w1 W) hok H => web_calls z W (hz1.below B) hok (base0 := base) (hb := hb) (b2 := b2) (b3 := b3) (L2 := L2) (L3 := L3) H
  obtain ⟨A1, c1, A2, c2, h⟩ := z
  dsimp only [mkH] at *
  clear hz hz1
  replace WB := Aside0.mk WB
  go_enter Try.func9, Try.ntmps9
  go_upto_region 1 with (fail)
  rw [← hw1, ← hbx]
  rw [← hbx] at b0 b1
  clear hw1
  replace hbx := Aside0.mk hbx
  go_wp2_with fail
  refine RD.mono ?_
  rintro e w2 (⟨hno, rfl, B2⟩ | ⟨hok, base, hb, b2, b3, L2, L3, rfl, H, B2, _⟩)
  · have K : RoPost w h (.returned (.tuple #[.slice none 0 0, .int .i64 110])) w2 := ⟨_, [], by rw [chk_no hno], Lo.nil _ _, below_then B1 B1.size B2, fun _ => rfl, fun ok => absurd ok hno⟩
    clear RD WB
    replace K := Aside0.mk K
    replace hno := Aside0.mk hno
    go_wp2
    go_ret2
    exact K.out
  · have D := WB.out w2 _ _ _ _ _ _ B2 hok H
    have e0 : chk h = 0 := chk_ok hok
    have hgm := graph_ends hok
    have hrn := rise_nodup_len hok.nd
    have hnl : (rise h.C).length ≤ 4096 := by rw [hrn]; exact hok.lc
    have hnn := rise_nodup h.C
    have d0 := (B2.cell (World.block_lt_of_cell? _ _ b0)).trans b0
    have d1 := (B2.cell (World.block_lt_of_cell? _ _ b1)).trans b1
    have hPost : ∀ v W3 wr L, Below w1.heap.size w1 W3 → RowI wr W3.heap.size v L → Below W3.heap.size W3 wr → RoundOf (graphP h) (rise h.C) L → RoPost w h (.returned (.tuple #[v, .int .i64 0])) wr := fun v W3 wr L BB hL B hr => ⟨v, L, by rw [e0], Lo.lower hL (Nat.le_trans B1.size BB.size), below_then B1 B1.size (below_then BB BB.size B), fun hno => absurd hok hno, fun _ => hr⟩
    unfold WebPost at D
    generalize graphP h = g at *
    generalize rise h.C = names at *
    replace e0 := Aside0.mk e0
    replace hok := Aside0.mk hok
    replace hrn := Aside0.mk hrn
    replace hnn := Aside0.mk hnn
    replace hgm := Aside0.mk hgm
    replace hPost := Aside0.mk hPost
    clear RD WB H
    go_wp2_with fail
    refine D.mono ?_
    rintro e w3 ⟨pw, bn, bi, At, ct, ss, cs, rfl, W3, hpw, B3⟩
    have BB3 := below_then B2 B2.size B3
    have SE := serial_calls w3 W3 hnl hnn.out hgm.out
    clear D d0 d1
    by_cases hser : (greedy g names names.length []).isSome = true
    · have P : ∀ wr, Below w3.heap.size w3 wr → RoPost w h (.returned (.tuple #[.slice none 0 0, .int .i64 0])) wr := fun wr B => hPost.out _ w3 wr [] BB3 (Lo.nil _ _) B (no_round hnn.out hgm.out hser)
      rw [hser] at SE
      clear W3 hPost
      replace P := Aside0.mk P
      replace hser := Aside0.mk hser
      go_wp2_with fail
      refine SE.mono ?_
      rintro e w4 ⟨rfl, B4⟩
      have P4 := P.out w4 B4
      clear P SE
      replace P4 := Aside0.mk P4
      go_wp2
      go_ret2
      exact P4.out
    · have hser' : (greedy g names names.length []).isSome = false := by simpa using hser
      rw [hser'] at SE
      have hW : ∀ W, Below w3.heap.size w3 W → WbC W pw bn bi At ct g names ss cs := fun W B => W3.below B
      clear W3 hser hser'
      replace hW := Aside0.mk hW
      go_wp2_with fail
      refine SE.mono ?_
      rintro e w4 ⟨rfl, B4⟩
      have J4 : RnJ w3 g names (.int .i64 0) (.int .i64 0) (.slice none 0 0) (.int .i64 0) w4 := ⟨0, 0, rfl, Nat.zero_le _, rfl, Int.le_refl _, by omega, B4, .inl ⟨rfl, rfl, rfl, .inl ⟨rfl, rfl, fun k hk h => by omega⟩⟩⟩
      have c0 := (hW.out w4 B4).c0
      clear SE B4
      go_wp2_with fail
      clear c0
      go_loopw [7, 8, 9, 35] (fun v7 v8 v9 v35 wr => RnJ w3 g names v7 v8 v9 v35 wr) (fun _ _ _ v35 _ => names.length - (intOf v35).toNat)
      case atStart => exact J4
      case round =>
        clear J4
        obtain ⟨i, b, rfl, hi, rfl, hb0, hb1, B, hst⟩ := hrel
        by_cases hlt : i < names.length
        · have FA := far_calls wr (hW.out wr B) hnl hnn.out hgm.out i hlt
          go_wp2_with fail
          refine FA.mono ?_
          rintro e w5 ⟨gd, ds, rfl, hrow, hF, B5⟩
          have B5' := below_then B B.size B5
          have hdC : dI.C w5 (some ⟨gd, 0, none⟩) names.length ds := by
            have := C_of_lo (enc := encI) (k := 1) (hn := fun _ => rfl) (h1 := encI_one) (A := some ⟨gd, 0, none⟩) (c := names.length) (xs := ds) (by rw [hF.1]; exact hrow) (by rw [hF.1]; omega)
            rw [hF.1] at this
            exact this
          have LO := long_calls w5 (hW.out w5 B5') hnl hgm.out i hlt gd names.length ds hdC hF
          clear FA hrow
          replace hF := Aside0.mk hF
          replace hdC := Aside0.mk hdC
          replace hst := Aside0.mk hst
          go_wp2_with fail
          refine LO.mono ?_
          rintro e w6 ⟨n, rfl, hthr, hn0, hn1, rfl⟩
          clear LO
          have hst5 : (b = 0 ∧ u7 = .int .i64 0 ∧ u9 = .slice none 0 0 ∧ BestR g names i 0 0) ∨ (∃ (k gd : Nat) (ds : List Int), k < names.length ∧ u7 = .int .i64 (k : Int) ∧ u9 = .slice (some ⟨gd, 0, none⟩) names.length names.length ∧ 0 < b ∧ BestR g names i b (nm names k) ∧ dI.C w5 (some ⟨gd, 0, none⟩) names.length ds ∧ Far g names ds (nm names k)) := by
            rcases hst.out with h1 | ⟨k, gd, ds, h1, h2, h3, h4, h5, h6, h7⟩
            · exact .inl h1
            · exact .inr ⟨k, gd, ds, h1, h2, h3, h4, h5, Kd.C_below h6 B5, h7⟩
          have hbr : ∃ f, BestR g names i b f ∧ (b = 0 → f = 0) := by
            rcases hst.out with ⟨rfl, _, _, h1⟩ | ⟨k, gd, ds, h1, h2, h3, h4, h5, h6, h7⟩
            · exact ⟨0, h1, fun _ => rfl⟩
            · exact ⟨_, h5, fun e => by omega⟩
          have hthr' := hthr
          rw [nm_eq hlt] at hthr'
          have SK : (n = 0 ∨ (b ≠ 0 ∧ b ≤ n)) → RnJ w3 g names u7 (.int .i64 b) u9 (.int .i64 ((i : Int) + 1)) w5 := fun hs => ⟨i + 1, b, by simp, hlt, rfl, hb0, hb1, B5', by
            rcases hst5 with ⟨rfl, h2, h3, h4⟩ | ⟨k, gd, ds, h1, h2, h3, h4, h5, h6, h7⟩
            · exact .inl ⟨rfl, h2, h3, h4.skip hlt hthr' hs⟩
            · exact .inr ⟨k, gd, ds, h1, h2, h3, h4, h5.skip hlt hthr' hs, h6, h7⟩⟩
          have TK : 0 < n → (b = 0 ∨ n < b) → RnJ w3 g names (.int .i64 (i : Int)) (.int .i64 n) (.slice (some ⟨gd, 0, none⟩) names.length names.length) (.int .i64 ((i : Int) + 1)) w5 := fun h0 hs => ⟨i + 1, n, by simp, hlt, rfl, hn0, hn1, B5', .inr ⟨i, gd, ds, hlt, rfl, rfl, h0, by
            obtain ⟨f, hf, _⟩ := hbr
            have := hf.take hlt hthr' h0 hs
            rwa [← nm_eq hlt] at this, hdC.out, hF.out⟩⟩
          clear hst hst5 hbr hthr hthr' hF hdC
          by_cases h0 : 0 < n
          · by_cases hbz : b = 0
            · have hbz' : (b == 0) = true := by simpa using hbz
              have N := TK h0 (.inl hbz)
              clear SK TK
              replace hbz := Aside0.mk hbz
              replace N := Aside0.mk N
              go_wp2
              refine ⟨N.out, ?_⟩
              simp [intOf]
              omega
            · have hbz' : (b == 0) = false := by simpa using hbz
              by_cases hlt2 : n < b
              · have N := TK h0 (.inr hlt2)
                clear SK TK
                replace hbz := Aside0.mk hbz
                replace N := Aside0.mk N
                go_wp2
                refine ⟨N.out, ?_⟩
                simp [intOf]
                omega
              · have N := SK (.inr ⟨hbz, by omega⟩)
                clear SK TK
                replace hbz := Aside0.mk hbz
                replace N := Aside0.mk N
                go_wp2
                refine ⟨N.out, ?_⟩
                simp [intOf]
                omega
          · have N := SK (.inl (by omega))
            clear SK TK
            replace N := Aside0.mk N
            go_wp2
            refine ⟨N.out, ?_⟩
            simp [intOf]
            omega
        · obtain rfl : i = names.length := by omega
          have BBr := below_then BB3 BB3.size B
          rcases hst with ⟨rfl, rfl, rfl, hbest⟩ | ⟨k, gd, ds, hk, rfl, rfl, hbp, hbest, hdC, hF⟩
          · have P := hPost.out (.slice none 0 0) wr wr [] BBr (Lo.nil _ _) (Below.refl _ _) ⟨0, 0, hbest, .inl ⟨rfl, rfl⟩⟩
            clear hbest
            replace P := Aside0.mk P
            go_wp2_with fail
            refine wp_loop_rounds 1 ?_
            rw [rounds_succ]
            go_wp2
            go_ret2
            exact P.out
          · obtain ⟨wo, rfl⟩ : ∃ wo : World, wo = wr := ⟨_, rfl⟩
            obtain ⟨m, rfl⟩ : ∃ m : Nat, b = (m : Int) := ⟨b.toNat, by omega⟩
            have hthr : IsThr g (nm names k) (m : Int) := by
              rcases hbest with ⟨e1, _⟩ | ⟨k', hk', _, e2, _, h3, _⟩
              · omega
              · rw [e2]; exact h3
            have P0 : PaJ wo g names (nm names k) m (.slice none 0 0) (.int .i64 (k : Int)) (.int .i64 (m : Int)) wo := ⟨[], k, rfl, hk, by simp, Nat.zero_le _, Lo.nil _ _, Below.refl _ _, .inl ⟨rfl, rfl⟩⟩
            have hm1 : 1 ≤ m := by omega
            have hm2 : m ≤ 4097 := by omega
            have hWB : ∀ W, Below wo.heap.size wo W → WbC W pw bn bi At ct g names ss cs := fun W B' => hW.out W (below_then B B.size B')
            have hdB : ∀ W, Below wo.heap.size wo W → dI.C W (some ⟨gd, 0, none⟩) names.length ds := fun W B' => Kd.C_below hdC B'
            have hRo : ∀ L, PathR g names (nm names k) m L → L.length = m → RoundOf g names L := fun L hp hl => ⟨(m : Int), nm names k, hbest, .inr ⟨hbp, by omega, by rw [Int.toNat_natCast]; exact hp⟩⟩
            clear hbest hdC B
            replace hthr := Aside0.mk hthr
            replace hF := Aside0.mk hF
            replace hWB := Aside0.mk hWB
            replace hdB := Aside0.mk hdB
            replace hRo := Aside0.mk hRo
            go_wp2_with fail
            go_loopw [13, 14, 15] (fun v13 v14 v15 w' => PaJ wo g names (nm names k) m v13 v14 v15 w') (fun _ _ v15 _ => (intOf v15).toNat)
            case atStart => exact P0
            case round =>
              clear P0
              obtain ⟨L, a, rfl, ha, rfl, hLl, hrow, BL, hpa⟩ := hrel
              by_cases hlt : L.length < m
              · obtain ⟨m', hm'⟩ : ∃ m', m - L.length = m' + 1 := ⟨m - L.length - 1, by omega⟩
                have em : ((m - L.length : Nat) : Int) = (m' : Int) + 1 := by rw [hm']; simp
                rw [em]
                have PA := PaJ.snoc hlt hpa
                have V := hWB.out wr BL
                have c0 := V.c0
                obtain ⟨ad, eAd, q0⟩ := CI_at V.txn a ha
                obtain ⟨v', w', hrun, hr', hg'⟩ := rowI_app hrow (nm names a) (by omega) BL.size
                rw [← nm_eq ha] at q0
                have B' : Below wo.heap.size wo w' := BL.grown hg' BL.size (fun k hk => (hrow.typed k hk).1)
                have V' := hWB.out w' B'
                have has : a < ss.length := by rw [V.sl]; exact ha
                have c1 := V'.c1
                have q1 := V'.next a has
                obtain ⟨Ar, cr, hmr, hCr⟩ := V'.rows a has
                rw [hmr] at q1
                have hdw := hdB.out w' B'
                have hal := adj_len g names a
                have ha' : (a : Int) < (names.length : Int) := by omega
                have ha0 : (0 : Int) ≤ (a : Int) := by omega
                have hFl := hF.out.1
                have NF : ∀ e (he : e < (adj g names a).length), dv ds (adj g names a)[e] = (m' : Int) → (∀ k ∈ (adj g names a).take e, dv ds k ≠ (m' : Int)) → IsNext g names (nm names k) m' (nm names a) (nm names (adj g names a)[e]) := fun e he h1 h2 => next_first hF.out he h1 h2
                have LA : (L ++ [nm names a])[(L ++ [nm names a]).length - 1]? = some (nm names a) := by simp
                have NX : (∀ k ∈ adj g names a, dv ds k ≠ (m' : Int)) → ¬ L.length + 1 < m := fun hno hl => by
                  obtain ⟨q, hq, h1, h2⟩ := PA.more hgm.out hthr.out (by simp; omega) LA
                  have hqa : q ∈ adj g names a := mem_adj.2 ⟨hq, by rw [nm_eq hq]; exact h1⟩
                  have hqd : q < ds.length := by rw [hFl]; exact hq
                  refine hno q hqa ?_
                  rw [dv_eq hqd, far_iff hF.out hq hqd]
                  have : m - (L ++ [nm names a]).length = m' := by simp; omega
                  rw [← this]
                  exact h2
                have hm3 : m' = m - (L.length + 1) := by omega
                have hm4 : (m' : Int) ≤ 4097 := by omega
                subst eAd
                clear V V' hmr hrow BL hg' hpa em
                generalize nm names a = na at *
                replace LA := Aside0.mk LA
                replace NX := Aside0.mk NX
                replace NF := Aside0.mk NF
                replace PA := Aside0.mk PA
                replace hr' := Aside0.mk hr'
                replace hm' := Aside0.mk hm'
                replace hm3 := Aside0.mk hm3
                replace hFl := Aside0.mk hFl
                go_upto_block 3 with (fail)
                go_cut [13, 14] (fun v13 v14 wx => SeC2 wo g names (nm names k) L na m' m v13 v14 wx)
                case first =>
                  have J5 : SeJ w' g names ds a m' (.int .i64 (a : Int)) (.int .i64 0) w' := ⟨0, rfl, rfl, Nat.zero_le _, fun k hk => by simp at hk, rfl⟩
                  go_upto_region 23 with (at_builtin; refine app_list rfl rfl rfl rfl hrun ?_)
                  clear hrun q0 c0
                  go_wp2_with fail
                  clear c1 q1
                  go_loopw [14, 84] (fun v14 v84 wr => SeJ w' g names ds a m' v14 v84 wr) (fun _ v84 _ => (adj g names a).length - (intOf v84).toNat)
                  case atStart => exact J5
                  case round =>
                    clear J5
                    obtain ⟨e, rfl, rfl, he, hno, rfl⟩ := hrel
                    by_cases hle : e < (adj g names a).length
                    · have hule : e < (upI (adj g names a)).length := by rw [upI_len]; exact hle
                      obtain ⟨ad3, rfl, q0⟩ := CI_at hCr e hule
                      rw [upI_at] at q0
                      have hjn := (mem_adj.1 (List.getElem_mem hle)).1
                      have hjd : (adj g names a)[e] < ds.length := by rw [hFl.out]; exact hjn
                      obtain ⟨ad4, e4, q2⟩ := CI_at (xs := ds) (by rw [hFl.out]; exact hdw) _ hjd
                      injection e4 with e4
                      subst e4
                      rw [add_plain] at q2
                      have edv := dv_eq hjd
                      have htk : (adj g names a).take (e + 1) = (adj g names a).take e ++ [(adj g names a)[e]] := List.take_succ_eq_append_getElem hle
                      have NF2 := NF.out e hle
                      by_cases hx : ds[(adj g names a)[e]] = (m' : Int)
                      · have N : SeC2 wo g names (nm names k) L na m' m v' (.int .i64 ((adj g names a)[e] : Int)) wr := ⟨_, rfl, hjn, hr'.out, B', fun _ => NF2 (by rw [edv]; exact hx) hno⟩
                        have hx' : (ds[(adj g names a)[e]] == (m' : Int)) = true := by simpa using hx
                        generalize ds[(adj g names a)[e]] = x at *
                        generalize (adj g names a)[e] = j at *
                        have hjn' : (j : Int) < (names.length : Int) := by omega
                        clear hno htk NF2 edv hule
                        replace hx := Aside0.mk hx
                        replace N := Aside0.mk N
                        go_wp2
                        go_meet
                        exact N.out
                      · have N : SeJ wr g names ds a m' (.int .i64 (a : Int)) (.int .i64 ((e : Int) + 1)) wr := ⟨e + 1, by simp, rfl, hle, fun k hk => by
                          rw [htk] at hk
                          rcases List.mem_append.1 hk with hk | hk
                          · exact hno k hk
                          · rw [List.mem_singleton.1 hk, edv]; exact hx, rfl⟩
                        have hx' : (ds[(adj g names a)[e]] == (m' : Int)) = false := by simpa using hx
                        generalize ds[(adj g names a)[e]] = x at *
                        generalize (adj g names a)[e] = j at *
                        have hjn' : (j : Int) < (names.length : Int) := by omega
                        clear hno htk NF2 edv hule
                        replace hx := Aside0.mk hx
                        replace N := Aside0.mk N
                        go_wp2
                        refine ⟨N.out, ?_⟩
                        simp [intOf]
                        omega
                    · obtain rfl : e = (adj g names a).length := by omega
                      rw [List.take_length] at hno
                      have N : SeC2 wo g names (nm names k) L na m' m v' (.int .i64 (a : Int)) wr := ⟨a, rfl, ha, hr'.out, B', fun hl => absurd hl (NX.out hno)⟩
                      clear hno
                      replace N := Aside0.mk N
                      go_wp2
                      go_meet
                      exact N.out
                case rest =>
                  clear hrun q0 c0 c1 q1 hCr hdw
                  obtain ⟨a', rfl, ha2, hr2, B2', hnx⟩ := hcut
                  have N : PaJ wo g names (nm names k) m u13 (.int .i64 (a' : Int)) (.int .i64 (m' : Int)) wc := ⟨L ++ [na], a', rfl, ha2, by rw [hm3.out]; simp, by simp; omega, hr2, B2', .inr ⟨PA.out, fun hl => ⟨na, LA.out, by
                    have e1 : m - (L ++ [na]).length = m' := by rw [hm3.out]; simp
                    rw [e1]
                    exact hnx (by simp at hl; omega)⟩⟩⟩
                  clear hr2 B2' hnx hr'
                  replace N := Aside0.mk N
                  go_wp2
                  refine ⟨N.out, ?_⟩
                  simp [intOf]
              · obtain rfl : L.length = m := by omega
                have hne : PathR g names (nm names k) L.length L := by
                  rcases hpa with ⟨rfl, _⟩ | ⟨h1, _⟩
                  · simp at hm1
                  · exact h1
                have P := hPost.out _ wo wr L BBr hrow BL (hRo.out L hne rfl)
                clear hrow BL hpa hne
                replace P := Aside0.mk P
                rw [Nat.sub_self]
                go_wp2
                go_ret2
                exact P.out
end Go.Proofs.Ytedcnpaomphffaa
namespace Go.Proofs.Ytedcnpaomphffaa
open Go.RowKit Go.Maps Go.Sort Go.Lib Go.Shelf Go.Proofs.YtedcnpaomphffaaW.PrintWords Go.Proofs.YtedcnpaomphffaaW.PrintLast Go.Proofs.YtedcnpaomphffaaW.PrintMore
set_option linter.unusedVariables false
set_option linter.unusedSimpArgs false
set_option linter.unusedSectionVars false
/-! ### Pivots -/
/-- a table that counts just those of S, none beyond m -/
def CntS (L : List (Int × Int)) (S : Int → Prop) (m : Nat) : Prop := ∀ t, (S t → ∃ v : Int, got L t = some v ∧ 1 ≤ v ∧ v ≤ m) ∧ (¬ S t → got L t = none)
theorem CntS.start : CntS [] (fun _ => False) 0 := fun t => ⟨fun h => h.elim, fun _ => by simp [got]⟩
theorem CntS.mono {L : List (Int × Int)} {S S' : Int → Prop} {m m' : Nat} (h : CntS L S m) (e : ∀ t, S t ↔ S' t) (hm : m ≤ m') : CntS L S' m' := fun t => ⟨fun hs => by
  obtain ⟨v, h1, h2, h3⟩ := (h t).1 ((e t).2 hs)
  exact ⟨v, h1, h2, by omega⟩, fun hs => (h t).2 (fun k => hs ((e t).1 k))⟩
theorem CntS.val {L : List (Int × Int)} {S : Int → Prop} {m : Nat} (h : CntS L S m) (t : Int) : 0 ≤ (got L t).getD 0 ∧ (got L t).getD 0 ≤ m ∧ (0 < (got L t).getD 0 ↔ S t) := by
  by_cases hs : S t
  · obtain ⟨v, h1, h2, h3⟩ := (h t).1 hs
    rw [h1, Option.getD_some]
    exact ⟨by omega, h3, ⟨fun _ => hs, fun _ => by omega⟩⟩
  · rw [(h t).2 hs, Option.getD_none]
    exact ⟨Int.le_refl _, by omega, ⟨fun h => by omega, fun h => absurd h hs⟩⟩
theorem CntS.inc {L : List (Int × Int)} {S S' : Int → Prop} {m : Nat} (ht : L.Pairwise (fun p p' => p.1 ≠ p'.1)) (h : CntS L S m) {x : Int} (e : ∀ t, S' t ↔ (t = x ∨ S t)) : CntS (upd L x ((got L x).getD 0 + 1)) S' (m + 1) := fun t => by
  obtain ⟨v1, v2, _⟩ := h.val x
  rw [got_upd ht]
  by_cases et : t = x
  · rw [if_pos et]
    exact ⟨fun _ => ⟨_, rfl, by omega, by omega⟩, fun hn => absurd ((e t).2 (.inl et)) hn⟩
  · rw [if_neg et]
    refine ⟨fun hs => ?_, fun hs => (h t).2 (fun k => hs ((e t).2 (.inr k)))⟩
    obtain ⟨v, h1, h2, h3⟩ := (h t).1 (((e t).1 hs).resolve_left et)
    exact ⟨v, h1, h2, by omega⟩
def inV (vis : List (Dp × Int)) (t : Int) : Prop := ∃ e ∈ vis, e.1.k = 3 ∧ e.1.t = t
def outV (vis : List (Dp × Int)) (t : Int) : Prop := ∃ e ∈ vis, e.1.k = 3 ∧ e.1.f = t
def P1J (w : World) (r b bi bo : Nat) (L : List (Dp × Int)) (wr : World) : Prop :=
  ∃ (vis rem : List (Dp × Int)) (Li Lo : List (Int × Int)), (vis ++ rem).Perm L ∧ RngD wr b r L.length L rem ∧ TabP wr bi Li.length Li ∧ TabP wr bo Lo.length Lo ∧ CntS Li (inV vis) vis.length ∧ CntS Lo (outV vis) vis.length ∧ Li.length ≤ vis.length ∧ Lo.length ≤ vis.length ∧ Below w.heap.size w wr
def P2J (w : World) (r bi bo base : Nat) (Li Lo : List (Int × Int)) (v9 : Value) (wr : World) : Prop :=
  ∃ (vis rem : List (Int × Int)), (vis ++ rem).Perm Li ∧ RngP wr bi r Li.length Li rem ∧ TabP wr bo Lo.length Lo ∧ dI.R 3 wr base (fun _ => True) v9 ((vis.map Prod.fst).filter (fun t => decide (0 < (got Lo t).getD 0))) ∧ Below w.heap.size w wr
theorem piv_sorted {g : List Dp} {names : List Int} {Li Lo vis : List (Int × Int)} {L : List (Dp × Int)} (hn : names.Pairwise (· < ·)) (hg : ∀ d ∈ g, d.f ∈ names ∧ d.t ∈ names) (hL : ∀ d, (∃ v, (d, v) ∈ L) ↔ d ∈ g) (ht : Li.Pairwise (fun p p' => p.1 ≠ p'.1)) (hi : CntS Li (inV L) L.length) (ho : CntS Lo (outV L) L.length) (hp : vis.Perm Li) :
    (((vis.map Prod.fst).filter (fun t => decide (0 < (got Lo t).getD 0))).mergeSort fun x y => decide (x ≤ y)) = pivP g names := by
  have hnd : ((vis.map Prod.fst).filter (fun t => decide (0 < (got Lo t).getD 0))).Nodup := by
    have h0 : (vis.map Prod.fst).Nodup := by
      rw [(hp.map Prod.fst).nodup_iff, List.nodup_iff_pairwise_ne, List.pairwise_map]
      exact ht
    exact h0.filter _
  rw [sort_nodup hnd]
  have hin : ∀ t, inV L t ↔ inB g t = true := fun t => by
    unfold inV inB
    rw [List.any_eq_true]
    constructor
    · rintro ⟨e, he, h1, h2⟩
      exact ⟨e.1, (hL e.1).1 ⟨e.2, he⟩, by simp [h1, h2]⟩
    · rintro ⟨d, hd, h⟩
      obtain ⟨v, hv⟩ := (hL d).2 hd
      simp only [Bool.and_eq_true, beq_iff_eq] at h
      exact ⟨(d, v), hv, h.1, h.2⟩
  have hout : ∀ t, outV L t ↔ outB g t = true := fun t => by
    unfold outV outB
    rw [List.any_eq_true]
    constructor
    · rintro ⟨e, he, h1, h2⟩
      exact ⟨e.1, (hL e.1).1 ⟨e.2, he⟩, by simp [h1, h2]⟩
    · rintro ⟨d, hd, h⟩
      obtain ⟨v, hv⟩ := (hL d).2 hd
      simp only [Bool.and_eq_true, beq_iff_eq] at h
      exact ⟨(d, v), hv, h.1, h.2⟩
  refine (rise_eq (hn.sublist List.filter_sublist) fun t => ?_).symm
  rw [List.mem_filter, List.mem_filter, Bool.and_eq_true, ← hin, ← hout, decide_eq_true_iff, (ho.val t).2.2]
  have hk : t ∈ vis.map Prod.fst ↔ inV L t := by
    constructor
    · intro h
      obtain ⟨e, he, rfl⟩ := List.mem_map.1 h
      refine Classical.byContradiction fun hno => ?_
      have h1 := (hi e.1).2 hno
      exact got_none h1 e.2 (hp.mem_iff.1 he)
    · intro h
      obtain ⟨v, h1, _⟩ := (hi t).1 h
      exact List.mem_map.2 ⟨(t, v), hp.mem_iff.2 (got_mem h1), rfl⟩
  rw [hk]
  constructor
  · rintro ⟨_, h⟩
    exact h
  · intro h
    obtain ⟨e, he, _, rfl⟩ := h.1
    exact ⟨(hg _ ((hL e.1).1 ⟨e.2, he⟩)).2, h⟩
def PvPost (w : World) (h : Hs) (e : Ending) (w' : World) : Prop := ∃ v L, e = .returned (.tuple #[v, .int .i64 (chk h)]) ∧ dI.R 3 w' w.heap.size (fun _ => True) v L ∧ Below w.heap.size w w' ∧ (¬ OkH h → L = []) ∧ (OkH h → L = pivP (graphP h) (rise h.C))
set_option maxHeartbeats 16000000 in
set_option maxRecDepth 100000 in
theorem Pivots_calls (z : HV) (w : World) (hz : z.OK w) : Calls Try.prog 10 #[mkH z] w (PvPost w z.h) := by
  obtain ⟨w1, hw1, B1, hz1, b0, b1⟩ := hv_box z w hz
  obtain ⟨bx, hbx⟩ : ∃ bx, bx = w.heap.size := ⟨_, rfl⟩
  have RD := read_calls z w1 hz1
  have DP := fun W base hb b2 b3 L2 L3 (B : Below w1.heap.size w1 W) hok H => deps_calls z W (hz1.below B) hok (base := base) (hb := hb) (b2 := b2) (b3 := b3) (L2 := L2) (L3 := L3) H
  obtain ⟨A1, c1, A2, c2, h⟩ := z
  dsimp only [mkH] at *
  clear hz hz1
  replace DP := Aside0.mk DP
  go_enter Try.func10, Try.ntmps10
  go_upto_region 1 with (fail)
  rw [← hw1, ← hbx]
  rw [← hbx] at b0 b1
  clear hw1
  replace hbx := Aside0.mk hbx
  go_wp2_with fail
  refine RD.mono ?_
  rintro e w2 (⟨hno, rfl, B2⟩ | ⟨hok, base, hb, b2, b3, L2, L3, rfl, H, B2, _⟩)
  · have K : PvPost w h (.returned (.tuple #[.slice none 0 0, .int .i64 110])) w2 := ⟨_, [], by rw [chk_no hno], Kd.R_nil _ _ _ _ _, below_then B1 B1.size B2, fun _ => rfl, fun ok => absurd ok hno⟩
    clear RD DP
    replace K := Aside0.mk K
    replace hno := Aside0.mk hno
    go_wp2
    go_ret2
    exact K.out
  · have e0 : chk h = 0 := chk_ok hok
    obtain ⟨w3, hw3⟩ : ∃ w3, w3 = (w2.alloc (.map #[] 0)).alloc (.map #[] 0) := ⟨_, rfl⟩
    obtain ⟨bi, hbi⟩ : ∃ b, b = w2.heap.size := ⟨_, rfl⟩
    obtain ⟨bo, hbo⟩ : ∃ b, b = w2.heap.size + 1 := ⟨_, rfl⟩
    have g3 : w2.grownBy w3 none := by rw [hw3]; exact trans_grown (World.grownBy_alloc _ _ _) (World.grownBy_alloc _ _ _)
    have B3 : Below w2.heap.size w2 w3 := (Below.refl _ w2).grown g3 (Nat.le_refl _) (by simp)
    have t3 : TabP w3 bi 0 [] := by
      rw [hw3, hbi]
      exact (Tab.made (P := Try.prog) (k := 3) (mk := mkN) (ok := okN) (R := rI) (cd := cdI) w2).kept (World.grownBy_alloc _ _ none) (by simp)
    have t4 : TabP w3 bo 0 [] := by
      have := Tab.made (P := Try.prog) (k := 3) (mk := mkN) (ok := okN) (R := rI) (cd := cdI) (w2.alloc (.map #[] 0))
      rw [World.size_alloc] at this
      rw [hw3, hbo]
      exact this
    have B3' := below_then B2 B2.size B3
    have D := DP.out w3 _ _ _ _ _ _ B3' hok (H.below B3)
    have hgm := graph_ends hok
    have hns := (rise_spec h.C).1
    have hgd : ∀ d, d ∈ depsL h ↔ d ∈ graphP h := fun d => mem_graph.symm
    have d0 := (B3'.cell (World.block_lt_of_cell? _ _ b0)).trans b0
    have d1 := (B3'.cell (World.block_lt_of_cell? _ _ b1)).trans b1
    have hPost : ∀ v wr xs, dI.R 3 wr w2.heap.size (fun _ => True) v xs → Below w2.heap.size w2 wr → xs = pivP (graphP h) (rise h.C) → PvPost w h (.returned (.tuple #[v, .int .i64 0])) wr := fun v wr xs hr B e => ⟨v, xs, by rw [e0], Kd.R_lower hr (Nat.le_trans B1.size B2.size), below_then B1 B1.size (below_then B2 B2.size B), fun hno => absurd hok hno, fun _ => e⟩
    generalize graphP h = g at *
    generalize rise h.C = names at *
    have hmm := @run_makeMap Try.prog
    clear RD DP H
    replace e0 := Aside0.mk e0
    replace hok := Aside0.mk hok
    replace hns := Aside0.mk hns
    replace hgm := Aside0.mk hgm
    replace hgd := Aside0.mk hgd
    replace hPost := Aside0.mk hPost
    replace hw3 := Aside0.mk hw3
    replace hbi := Aside0.mk hbi
    replace hbo := Aside0.mk hbo
    go_upto_region 5 with (fail)
    rw [← hw3.out, ← hbo.out, ← hbi.out]
    clear hmm
    go_wp2_with fail
    refine D.mono ?_
    rintro e w4 ⟨b, L, rfl, hT, hm, hL, hlo, B4⟩
    obtain ⟨wR, hrng, hR0, gR, sR⟩ := Tab.range (t := 61) keyD Try.underlying61 hT
    obtain ⟨r, hr⟩ : ∃ r, r = w4.heap.size := ⟨_, rfl⟩
    have hbis : bi < w3.heap.size := t3.lt
    have hbos : bo < w3.heap.size := t4.lt
    have hib : bi ≠ bo := by have := hbi.out; have := hbo.out; omega
    have hbr : b < r := by rw [hr]; exact hT.lt
    have h3r : w3.heap.size ≤ r := by rw [hr]; exact B4.size
    have hib2 : w2.heap.size ≤ bi := by have := hbi.out; omega
    have hob2 : w2.heap.size ≤ bo := by have := hbo.out; omega
    have B24 := below_then B3 B3.size B4
    have h2r : w2.heap.size ≤ r := Nat.le_trans B3.size h3r
    have J0 : P1J w2 r b bi bo L wR := by
      rw [hr]
      exact ⟨[], L, [], [], List.Perm.refl _, hR0, (t3.kept (grown_of_below B4 none) (by simp)).kept gR (by simp), (t4.kept (grown_of_below B4 none) (by simp)).kept gR (by simp), CntS.start.mono (fun t => by simp [inV]) (Nat.le_refl _), CntS.start.mono (fun t => by simp [outV]) (Nat.le_refl _), Nat.le_refl _, Nat.le_refl _, B24.grown gR B24.size (by simp)⟩
    rw [← hr] at hrng
    have hgL : ∀ d, (∃ v, (d, v) ∈ L) ↔ d ∈ g := fun d => (hm d).trans (hgd.out d)
    clear D d0 d1 hT hm hR0 gR sR B4 B24 t3 t4
    replace hr := Aside0.mk hr
    replace J0 := Aside0.mk J0
    replace hgL := Aside0.mk hgL
    go_wp2_with fail
    go_loopw [] (fun wr => P1J w2 r b bi bo L wr) (fun wr => wr.rangeLeft b r)
    case atStart => exact J0.out
    case round =>
      clear J0 hrng
      obtain ⟨vis, rem, Li, Lo, hp, hrg, ti, tq, ci, co, li, lo, B⟩ := hrel
      have hpl := hp.length_eq
      rw [List.length_append] at hpl
      rcases hrg.next keyD valI 0 with ⟨hnil, hrun1⟩ | ⟨d, dv0, w5, hmem, hokD, hrun1, hr3, hlt3, hg3, hs3, hent⟩
      · subst hnil
        rw [List.append_nil] at hp
        rw [List.length_nil, Nat.add_zero] at hpl
        have ciL := ci.mono (S' := inV L) (m' := L.length) (fun t => by unfold inV; constructor <;> (rintro ⟨e, he, h⟩; exact ⟨e, (by first | exact hp.mem_iff.1 he | exact hp.mem_iff.2 he), h⟩)) (by omega)
        have coL := co.mono (S' := outV L) (m' := L.length) (fun t => by unfold outV; constructor <;> (rintro ⟨e, he, h⟩; exact ⟨e, (by first | exact hp.mem_iff.1 he | exact hp.mem_iff.2 he), h⟩)) (by omega)
        have hti := ti.tidy
        obtain ⟨wS, hrngS, hRS, gS, sS⟩ := Tab.range (t := 60) keyN Try.underlying60 ti
        obtain ⟨r2, hr2⟩ : ∃ r, r = wr.heap.size := ⟨_, rfl⟩
        have hb2r : w2.heap.size ≤ r2 := by rw [hr2]; exact B.size
        have J2 : P2J w2 r2 bi bo w2.heap.size Li Lo (.slice none 0 0) wS := by
          rw [hr2]
          exact ⟨[], Li, List.Perm.refl _, hRS, tq.kept gS (by simp), Kd.R_nil _ _ _ _ _, B.grown gS B.size (by simp)⟩
        rw [← hr2] at hrngS
        have hbor2 : bo < r2 := by rw [hr2]; exact tq.lt
        have hbir2 : bi < r2 := by rw [hr2]; exact ti.lt
        clear hrg ti tq ci co hRS gS sS B hp
        replace J2 := Aside0.mk J2
        replace ciL := Aside0.mk ciL
        replace coL := Aside0.mk coL
        replace hti := Aside0.mk hti
        replace hr2 := Aside0.mk hr2
        go_wp2_with fail
        go_loopw [9] (fun v9 wr => P2J w2 r2 bi bo w2.heap.size Li Lo v9 wr) (fun _ wr => wr.rangeLeft bi r2)
        case atStart => exact J2.out
        case round =>
          clear J2 hrngS hrun1
          obtain ⟨vis2, rem2, hp2, hrg2, to2, hrow, B⟩ := hrel
          have hpl2 := hp2.length_eq
          rw [List.length_append] at hpl2
          have hxl : ((vis2.map Prod.fst).filter (fun t => decide (0 < (got Lo t).getD 0))).length ≤ vis2.length := by
            have := List.length_filter_le (fun t => decide (0 < (got Lo t).getD 0)) (vis2.map Prod.fst)
            rwa [List.length_map] at this
          rcases hrg2.next keyN valI 0 with ⟨hnil2, hrun2⟩ | ⟨t, tv, w6, hmem2, hokt, hrun2, hr6, hlt6, hg6, hs6, hent2⟩
          · subst hnil2
            rw [List.append_nil] at hp2
            have S := sortI_calls wr w2.heap.size _ u9 _ hrow (by omega)
            rw [piv_sorted hns.out hgm.out hgL.out hti.out ciL.out coL.out hp2] at S
            have lo9 : ∀ k, u9.ownBlock = some k → w2.heap.size ≤ k := fun k hk => (flat_typed hrow k hk).1
            clear hrow hrg2 to2 hp2
            replace lo9 := Aside0.mk lo9
            go_wp2_with fail
            refine S.mono ?_
            rintro e w6 ⟨rfl, h6, g6⟩
            have P := hPost.out u9 w6 _ h6 (B.grown g6 B.size (fun k hk => lo9.out k hk)) rfl
            clear h6 g6 S
            replace P := Aside0.mk P
            go_wp2
            go_ret2
            exact P.out
          · have hpn2 := perm_next hrg2.apart hp2 hmem2
            have to6 := to2.kept hg6 (fun e => by injection e with e; omega)
            have lk := Tab.look1 (t := 60) keyN valI Try.underlying60 to6 (zero3 _) hokt
            have hB6 : Below w2.heap.size w2 w6 := B.grown hg6 B.size (fun k e => by injection e with e; omega)
            have hwk := Rng.walk hrg2
            have hrow6 : dI.R 3 w6 w2.heap.size (fun _ => True) u9 ((vis2.map Prod.fst).filter (fun t => decide (0 < (got Lo t).getD 0))) := row_grown hrow hg6 (fun k hk e => by
              obtain ⟨_, _, cells, hc⟩ := flat_typed hrow k hk
              obtain ⟨o, ho, hno⟩ := hwk
              injection e with e
              rw [e, hc] at ho
              injection ho with ho
              exact hno _ _ _ ho.symm)
            unfold mkN at hrun2 hent2 lk
            have hbd := coL.out.val t
            by_cases hpos : 0 < (got Lo t).getD 0
            · obtain ⟨v', w7, hrun7, hr7, hg7, hown7⟩ := row_app hrow6 t (by omega) hB6.size
              have own9 : ∀ k, u9.ownBlock = some k → w2.heap.size ≤ k ∧ ∃ cells, w6.heap[k]? = some (.cells cells 3 (0, 0)) := fun k hk => ⟨(flat_typed hrow6 k hk).1, (flat_typed hrow6 k hk).2.2⟩
              have nomap : ∀ q n (M : List (Int × Int)), TabP w6 q n M → some q ≠ u9.ownBlock := fun q n M hM e => by
                obtain ⟨_, cells, hc⟩ := own9 q e.symm
                obtain ⟨es, cl, hmap⟩ := hM.isMap
                rw [hc] at hmap
                cases hmap
              have hr8 := hr6.kept hg7 (nomap _ _ _ hr6.tab) (fun e => by
                obtain ⟨_, cells, hc⟩ := own9 r2 e.symm
                obtain ⟨o, ho, hno⟩ := Rng.walk hr6
                rw [hc] at ho
                injection ho with ho
                exact hno _ _ _ ho.symm)
              have N : P2J w2 r2 bi bo w2.heap.size Li Lo v' w7 ∧ w7.rangeLeft bi r2 < wr.rangeLeft bi r2 := ⟨⟨vis2 ++ [(t, tv)], _, hpn2, hr8.1, to6.kept hg7 (nomap _ _ _ to6), by
                rw [List.map_append, List.filter_append]
                simpa [hpos] using hr7, hB6.grown hg7 hB6.size (fun k hk => (own9 k hk).1)⟩, by rw [hr8.2]; exact hlt6⟩
              generalize (got Lo t).getD 0 = x at *
              clear hp2 hrg2 to2 hrow B hr6 hlt6 hg6 hmem2 hpn2 to6 hB6 hwk hrow6 hr7 hg7 hown7 own9 nomap hr8 hokt hs6 hxl
              replace N := Aside0.mk N
              go_wp2_with (at_builtin; refine app_list rfl rfl rfl rfl hrun7 ?_)
              exact N.out
            · have N : P2J w2 r2 bi bo w2.heap.size Li Lo u9 w6 ∧ w6.rangeLeft bi r2 < wr.rangeLeft bi r2 := ⟨⟨vis2 ++ [(t, tv)], _, hpn2, hr6, to6, by
                rw [List.map_append, List.filter_append]
                simpa [hpos] using hrow6, hB6⟩, hlt6⟩
              generalize (got Lo t).getD 0 = x at *
              clear hp2 hrg2 to2 hrow B hr6 hlt6 hg6 hmem2 hpn2 to6 hB6 hwk hrow6 hokt hs6 hxl
              replace N := Aside0.mk N
              go_wp2
              exact N.out
      · have hrl : 0 < rem.length := List.length_pos_of_mem hmem
        have hpn := perm_next hrg.apart hp hmem
        obtain ⟨W5, hW5⟩ : ∃ W5, W5 = w5.alloc (.cells #[.int .i64 d.f, .int .i64 d.t, .int .i64 d.k] 64) := ⟨_, rfl⟩
        have g5 : w5.grownBy W5 none := by rw [hW5]; exact World.grownBy_alloc _ _ _
        have ob : W5.heap[w5.heap.size]? = some (.cells #[.int .i64 d.f, .int .i64 d.t, .int .i64 d.k] 64 (0, 0)) := by rw [hW5]; exact heap_alloc_new w5 _
        obtain ⟨bt, hbt⟩ : ∃ bt, bt = w5.heap.size := ⟨_, rfl⟩
        rw [← hbt] at ob
        have t0 := cell_of_row W5 bt 0 _ 64 (0, 0) ob
        have t1 := cell_of_row W5 bt 1 _ 64 (0, 0) ob
        have t2 := cell_of_row W5 bt 2 _ 64 (0, 0) ob
        have hbtr : r < bt := by rw [hbt, hs3]; exact hrg.lt
        have ti5 := (ti.kept hg3 (fun e => by injection e with e; omega)).kept g5 (by simp)
        have to5 := (tq.kept hg3 (fun e => by injection e with e; omega)).kept g5 (by simp)
        have hr5 := hr3.kept g5 (by simp) (by simp)
        have B5 : Below w2.heap.size w2 W5 := (B.grown hg3 B.size (fun k e => by injection e with e; omega)).grown g5 (Nat.le_trans B.size hg3.size) (by simp)
        unfold mkN at hrun1 hent
        by_cases hk : d.k = 3
        · have hk' : (d.k == 3) = true := by simpa using hk
          obtain ⟨v1, v2, _⟩ := co.val d.f
          have lk1 := Tab.look1 (t := 60) keyN valI Try.underlying60 to5 (zero3 _) hokD.1
          obtain ⟨w6, hst1, hT1, hm1⟩ := Tab.store (t := 60) keyN valI Try.underlying60 to5 (by simp only [maxLen]; omega) hokD.1 ((got Lo d.f).getD 0 + 1)
          have g6 := turned_grown hm1
          obtain ⟨u1, u2, _⟩ := ci.val d.t
          have ti6 := ti5.kept g6 (fun e => hib (by injection e))
          have lk2 := Tab.look1 (t := 60) keyN valI Try.underlying60 ti6 (zero3 _) hokD.2.1
          obtain ⟨w7, hst2, hT2, hm2⟩ := Tab.store (t := 60) keyN valI Try.underlying60 ti6 (by simp only [maxLen]; omega) hokD.2.1 ((got Li d.t).getD 0 + 1)
          have g7 := turned_grown hm2
          have x0 := g6.cell t0 (fun e => by injection e with e; dsimp only at e; omega)
          have x1 := g6.cell t1 (fun e => by injection e with e; dsimp only at e; omega)
          have x2 := g6.cell t2 (fun e => by injection e with e; dsimp only at e; omega)
          have hr6 := hr5.1.kept g6 (fun e => by injection e with e; omega) (fun e => by injection e with e; omega)
          have hr7 := hr6.1.kept g7 (fun e => by injection e with e; omega) (fun e => by injection e with e; omega)
          have N : P1J w2 r b bi bo L w7 ∧ w7.rangeLeft b r < wr.rangeLeft b r := by
            refine ⟨⟨vis ++ [(d, dv0)], _, _, _, hpn, hr7.1, hT2.exact, (hT1.exact).kept g7 (fun e => hib (by injection e with e; omega)), ?_, ?_, ?_, ?_, ?_⟩, by rw [hr7.2, hr6.2, hr5.2]; exact hlt3⟩
            · rw [List.length_append, List.length_singleton]
              refine ci.inc ti.tidy fun t => ?_
              unfold inV
              constructor
              · rintro ⟨e, he, h1, h2⟩
                rcases List.mem_append.1 he with he | he
                · exact .inr ⟨e, he, h1, h2⟩
                · rw [List.mem_singleton.1 he] at h2; exact .inl h2.symm
              · rintro (rfl | ⟨e, he, h⟩)
                · exact ⟨(d, dv0), by simp, hk, rfl⟩
                · exact ⟨e, List.mem_append_left _ he, h⟩
            · rw [List.length_append, List.length_singleton]
              refine co.inc tq.tidy fun t => ?_
              unfold outV
              constructor
              · rintro ⟨e, he, h1, h2⟩
                rcases List.mem_append.1 he with he | he
                · exact .inr ⟨e, he, h1, h2⟩
                · rw [List.mem_singleton.1 he] at h2; exact .inl h2.symm
              · rintro (rfl | ⟨e, he, h⟩)
                · exact ⟨(d, dv0), by simp, hk, rfl⟩
                · exact ⟨e, List.mem_append_left _ he, h⟩
            · rw [upd_length, List.length_append, List.length_singleton]; split <;> omega
            · rw [upd_length, List.length_append, List.length_singleton]; split <;> omega
            · exact (B5.grown g6 B5.size (fun k e => by injection e with e; omega)).grown g7 (Nat.le_trans B5.size g6.size) (fun k e => by injection e with e; omega)
          unfold mkN at lk1 hst1 lk2 hst2
          generalize (got Lo d.f).getD 0 = v at *
          generalize (got Li d.t).getD 0 = u at *
          have hvb : v ≤ 8192 := by omega
          have hub : u ≤ 8192 := by omega
          clear hp hrg ti tq ci co hr3 hg3 hmem hpn g5 ob ti5 to5 hr5 B5 hT1 hm1 g6 ti6 hT2 hm2 g7 hr6 hr7 B hlt3 hokD hs3
          replace hk := Aside0.mk hk
          replace N := Aside0.mk N
          go_upto_region 8 with (fail)
          rw [← hW5, ← hbt]
          clear hW5 hrun1 hent
          replace hbt := Aside0.mk hbt
          go_wp2
          exact N.out
        · have hk' : (d.k == 3) = false := by simpa using hk
          have N : P1J w2 r b bi bo L W5 ∧ W5.rangeLeft b r < wr.rangeLeft b r := by
            refine ⟨⟨vis ++ [(d, dv0)], _, Li, Lo, hpn, hr5.1, ti5, to5, ci.mono (fun t => ?_) (by simp), co.mono (fun t => ?_) (by simp), by simp; omega, by simp; omega, B5⟩, by rw [hr5.2]; exact hlt3⟩
            · unfold inV
              constructor
              · rintro ⟨e, he, h⟩
                exact ⟨e, List.mem_append_left _ he, h⟩
              · rintro ⟨e, he, h1, h2⟩
                rcases List.mem_append.1 he with he | he
                · exact ⟨e, he, h1, h2⟩
                · rw [List.mem_singleton.1 he] at h1; exact absurd h1 hk
            · unfold outV
              constructor
              · rintro ⟨e, he, h⟩
                exact ⟨e, List.mem_append_left _ he, h⟩
              · rintro ⟨e, he, h1, h2⟩
                rcases List.mem_append.1 he with he | he
                · exact ⟨e, he, h1, h2⟩
                · rw [List.mem_singleton.1 he] at h1; exact absurd h1 hk
          clear hp hrg ti tq ci co hr3 hg3 hmem hpn g5 ob ti5 to5 hr5 B B5 hlt3 hokD t0 t1 hs3
          replace hk := Aside0.mk hk
          replace N := Aside0.mk N
          go_upto_region 8 with (fail)
          rw [← hW5, ← hbt]
          clear hW5 hrun1 hent
          replace hbt := Aside0.mk hbt
          go_wp2
          exact N.out
end Go.Proofs.Ytedcnpaomphffaa
namespace Go.Proofs.Ytedcnpaomphffaa
open Go.RowKit Go.Maps Go.Sort Go.Lib Go.Shelf Go.Proofs.YtedcnpaomphffaaW.PrintWords Go.Proofs.YtedcnpaomphffaaW.PrintLast Go.Proofs.YtedcnpaomphffaaW.PrintMore
set_option linter.unusedVariables false
set_option linter.unusedSimpArgs false
set_option linter.unusedSectionVars false
/-! ### Serial -/
def S1J (w2 : World) (ba : Nat) (C order : List Int) (v : Value) (wr : World) : Prop := ∃ (i : Nat) (L : List (Int × Int)), v = .int .i64 (i : Int) ∧ i ≤ order.length ∧ TabP wr ba L.length L ∧ L.length ≤ i ∧ (∀ t, got L t = if t ∈ order.take i then some (plc order t) else none) ∧ (order.take i).Nodup ∧ (∀ t ∈ order.take i, t ∈ C) ∧ Below w2.heap.size w2 wr
def S2J (w2 : World) (r b ba : Nat) (L : List (Dp × Int)) (order : List Int) (M : List (Int × Int)) (wr : World) : Prop := ∃ vis rem : List (Dp × Int), (vis ++ rem).Perm L ∧ RngD wr b r L.length L rem ∧ TabP wr ba M.length M ∧ (∀ e ∈ vis, okE order e.1 = true) ∧ Below w2.heap.size w2 wr
def SePost (w : World) (h : Hs) (order : List Int) (e : Ending) (w' : World) : Prop := ∃ (s : Bool) (k : Int), e = .returned (.tuple #[.bool s, .int .i64 k]) ∧ Below w.heap.size w w' ∧ ((¬ OkH h ∧ s = false ∧ k = 110) ∨ (OkH h ∧ ¬ Ordd h.C order ∧ s = false ∧ k = 1) ∨ (OkH h ∧ Ordd h.C order ∧ s = serP (graphP h) order ∧ k = 0))
theorem plc_fresh {order : List Int} {i : Nat} (hi : i < order.length) (hn : order[i] ∉ order.take i) : plc order order[i] = (i : Int) := plc_first hi rfl fun j hj hji e => hn (by
  rw [← e, List.mem_take_iff_getElem]
  exact ⟨j, by omega, rfl⟩)
theorem ordd_take {C order : List Int} (h : Ordd C order) {i : Nat} (hi : i < order.length) : order[i] ∉ order.take i := fun hm => by
  obtain ⟨j, hj, e⟩ := List.mem_take_iff_getElem.1 hm
  have h1 := (h.2 j (by omega)).2
  have h2 := (h.2 i hi).2
  rw [e] at h1
  omega
end Go.Proofs.Ytedcnpaomphffaa
