import Derived.Test.YtedcnpaomphffaaMJ
namespace Go.Proofs.Ytedcnpaomphffaa
open Go.RowKit Go.Maps Go.Sort Go.Lib Go.Shelf Go.Proofs.YtedcnpaomphffaaW.PrintWords Go.Proofs.YtedcnpaomphffaaW.PrintLast Go.Proofs.YtedcnpaomphffaaW.PrintMore
set_option linter.unusedVariables false
set_option linter.unusedSimpArgs false
set_option linter.unusedSectionVars false
/-! ### Check; clones; serial (is there an order at all) -/
set_option maxHeartbeats 4000000 in
set_option maxRecDepth 100000 in
theorem Check_calls (z : HV) (w : World) (hz : z.OK w) : Calls Try.prog 21 #[mkH z] w fun e w' => e = .returned (.int .i64 (chk z.h)) ∧ Below w.heap.size w w' := by
  obtain ⟨w1, hw1, B1, hz1, b0, b1⟩ := hv_box z w hz
  obtain ⟨bx, hbx⟩ : ∃ bx, bx = w.heap.size := ⟨_, rfl⟩
  have RD := read_calls z w1 hz1
  obtain ⟨A1, c1, A2, c2, h⟩ := z
  dsimp only [mkH] at *
  clear hz hz1
  go_enter Try.func21, Try.ntmps21
  go_upto_region 1 with (fail)
  rw [← hw1, ← hbx]
  rw [← hbx] at b0 b1
  clear hw1
  replace hbx := Aside0.mk hbx
  go_wp2_with fail
  refine RD.mono ?_
  rintro e w2 (⟨hno, rfl, B2⟩ | ⟨hok, base, hb, b2, b3, L2, L3, rfl, H, B2, _⟩)
  · have e0 := Aside0.mk (chk_no hno)
    replace hno := Aside0.mk hno
    clear RD
    go_wp2
    go_ret
    exact ⟨by rw [e0.out]; rfl, below_then B1 B1.size B2⟩
  · have e0 := Aside0.mk (chk_ok hok)
    replace hok := Aside0.mk hok
    clear RD H
    go_wp2
    go_ret
    exact ⟨by rw [e0.out]; rfl, below_then B1 B1.size B2⟩
theorem reps_map (xs : List Int) : Reps (fun x cs => cs = encI x) 1 xs (xs.map (Value.int .i64)) := by
  refine ⟨by simp, fun j x hj => ?_⟩
  rw [Nat.mul_one]
  obtain ⟨hl, rfl⟩ := List.getElem?_eq_some_iff.1 hj
  show ((xs.map (Value.int .i64)).drop j).take 1 = [Value.int .i64 xs[j]]
  rw [List.drop_eq_getElem_cons (by simpa using hl)]
  simp
set_option maxRecDepth 100000 in
theorem cloneI_calls (W : World) (g c : Nat) (xs : List Int) (h : dI.C W (some ⟨g, 0, none⟩) xs.length xs) (hl : xs.length ≤ 65536) :
    Calls Try.prog 47 #[.slice (some ⟨g, 0, none⟩) xs.length c] W fun e w' => ∃ g' c', e = .returned (.slice (some ⟨g', 0, none⟩) xs.length c') ∧ RowI w' W.heap.size (.slice (some ⟨g', 0, none⟩) xs.length c') xs ∧ Below W.heap.size W w' := by
  obtain ⟨i0, hi0, hzz⟩ := Option.map_eq_some_iff.1 info3
  simp only [Prod.mk.injEq] at hzz
  obtain ⟨hz0, hz1, hz2⟩ := hzz
  have hcon := AnyE.slices_Clone Try.cloneI i0 _ 1 8 hi0 hz0 hz1 hz2 rfl (by omega) Try.sizeOf3 g 0 xs.length c (xs.map (Value.int .i64)) W (by simp) (by simp only [maxLen]; omega) (by omega)
    (fun j u hu => by
      rw [List.getElem?_map, Option.map_eq_some_iff] at hu
      obtain ⟨x, hx, rfl⟩ := hu
      obtain ⟨hj, rfl⟩ := List.getElem?_eq_some_iff.1 hx
      obtain ⟨ad, e, hc⟩ := CI_at h j hj
      injection e with e
      subst e
      rw [add_plain] at hc
      rw [Nat.zero_add]
      exact hc) (fun u hu => by
      obtain ⟨x, _, rfl⟩ := List.mem_map.1 hu
      rfl)
  refine Calls.mono hcon ?_
  rintro e w' ⟨v', rfl, h1, h2, h3⟩
  have h4 := h1
  rcases h1.2 with ⟨hv, _⟩ | ⟨g', cap, cur, hv, hb, hh, hnc, hcm, hcs, ht⟩
  · exact absurd hv h2
  · subst hv
    exact ⟨g', cap, rfl, ⟨_, l_of_own h4, reps_map xs⟩, h3⟩
section
variable {W : World} {base : Nat}
/-- an append to a loose row of whole numbers -/
theorem rowI_app {v : Value} {xs : List Int} (h : RowI W base v xs) (x : Int) (hl : xs.length ≤ 65536) (hb : base ≤ W.heap.size) :
    ∃ v' w', (Builtin.append_ #[22, 22] 22 #[v, .slice (some ⟨W.heap.size, 0, none⟩) 1 1]).run Try.prog (W.alloc (.cells #[.int .i64 x] 3)) = .ok v' w' ∧ RowI w' base v' (xs ++ [x]) ∧ W.grownBy w' v.ownBlock :=
  Lo.append h (fun _ => rfl) encI_one 22 22 _ 8 Try.underlying22 info3 rfl (by decide) (by decide) x (by omega) hb
end
def K1J (w wr0 : World) (base2 : Nat) (g : List Dp) (names : List Int) (cs : List Int) (vc v4 v17 : Value) (wr : World) : Prop := ∃ i : Nat, v17 = .int .i64 (i : Int) ∧ i ≤ names.length ∧ RowI wr base2 v4 (upI (opened g names [] (List.range i))) ∧ RowI wr w.heap.size vc cs ∧ Below w.heap.size w wr ∧ base2 ≤ wr.heap.size
def K2J (w : World) (base2 : Nat) (g : List Dp) (names : List Int) (vc v4 v7 : Value) (wr : World) : Prop := ∃ (k : Nat) (fr : List Nat) (cs : List Int), v7 = .int .i64 (k : Int) ∧ KO g names k fr cs ∧ RowI wr base2 v4 (upI fr) ∧ RowI wr w.heap.size vc cs ∧ Below w.heap.size w wr ∧ base2 ≤ wr.heap.size
def K3J (w : World) (base2 : Nat) (g : List Dp) (names : List Int) (k i0 : Nat) (fr0 : List Nat) (vc v4 v46 : Value) (wr : World) : Prop := ∃ (e : Nat) (fr : List Nat) (cs : List Int), v46 = .int .i64 (e : Int) ∧ e ≤ (adj g names i0).length ∧ KI g names k fr0 i0 e fr cs ∧ RowI wr base2 v4 (upI fr) ∧ RowI wr w.heap.size vc cs ∧ Below w.heap.size w wr ∧ base2 ≤ wr.heap.size
theorem upI_app (l m : List Nat) : upI (l ++ m) = upI l ++ upI m := by simp [upI]
theorem opened_succ (g : List Dp) (names D : List Int) (i : Nat) : opened g names D (List.range (i + 1)) = if cnt g names D (nm names i) = 0 then opened g names D (List.range i) ++ [i] else opened g names D (List.range i) := by
  unfold opened
  rw [List.range_succ, List.filter_append]
  by_cases h : cnt g names D (nm names i) = 0
  · rw [if_pos h]; simp [List.filter_cons, h]
  · rw [if_neg h]; simp [List.filter_cons, h]
theorem opened_len (g : List Dp) (names D : List Int) (l : List Nat) : (opened g names D l).length ≤ l.length := List.length_filter_le _ _
end Go.Proofs.Ytedcnpaomphffaa
namespace Go.Proofs.Ytedcnpaomphffaa
open Go.RowKit Go.Maps Go.Sort Go.Lib Go.Shelf Go.Proofs.YtedcnpaomphffaaW.PrintWords Go.Proofs.YtedcnpaomphffaaW.PrintLast Go.Proofs.YtedcnpaomphffaaW.PrintMore
set_option linter.unusedVariables false
set_option linter.unusedSimpArgs false
set_option linter.unusedSectionVars false
/-! ### serial -/
theorem upI_opt {l : List Nat} {k i0 : Nat} (h : l[k]? = some i0) : (upI l)[k]? = some (i0 : Int) := by
  unfold upI
  rw [List.getElem?_map, h]
  rfl
set_option maxHeartbeats 16000000 in
set_option maxRecDepth 100000 in
theorem serial_calls {pw bn bi : Nat} {At : Option Addr} {ct : Nat} {g : List Dp} {names : List Int} {ss : List Sv} {cs0 : List Int} (w : World) (h : WbC w pw bn bi At ct g names ss cs0) (hnl : names.length ≤ 4096) (hnn : names.Nodup) (hg : ∀ d ∈ g, d.f ∈ names ∧ d.t ∈ names) :
    Calls Try.prog 25 #[.pointer (some ⟨pw, 0, none⟩)] w fun e w' => e = .returned (.bool (greedy g names names.length []).isSome) ∧ Below w.heap.size w w' := by
  have hcl := h.cl
  have CL := cloneI_calls w bi names.length cs0 (by rw [hcl]; exact h.into) (by omega)
  rw [hcl] at CL
  have c1 := h.c1
  have c2 := h.c2
  have hcs0 := h.cs
  have hW : ∀ W, Below w.heap.size w W → WbC W pw bn bi At ct g names ss cs0 := fun W B => h.below B
  clear h
  replace hW := Aside0.mk hW
  replace hcs0 := Aside0.mk hcs0
  replace hcl := Aside0.mk hcl
  replace hnn := Aside0.mk hnn
  replace hg := Aside0.mk hg
  go_enter Try.func25, Try.ntmps25
  go_wp2_with fail
  refine CL.mono ?_
  rintro e w1 ⟨gc, cc, rfl, hcr, B1⟩
  obtain ⟨base2, hb2⟩ : ∃ b, b = w1.heap.size := ⟨_, rfl⟩
  have hgb : gc < base2 := by rw [hb2]; exact (hcr.typed gc rfl).2.1
  have hlob : w.heap.size ≤ gc := (hcr.typed gc rfl).1
  have J1 : K1J w w1 base2 g names cs0 (.slice (some ⟨gc, 0, none⟩) names.length cc) (.slice none 0 0) (.int .i64 0) w1 := ⟨0, rfl, Nat.zero_le _, Lo.nil _ _, hcr, B1, by omega⟩
  clear CL c1 c2 hcr B1
  replace hb2 := Aside0.mk hb2
  go_wp2_with fail
  go_loopw [4, 17] (fun v4 v17 wr => K1J w w1 base2 g names cs0 (.slice (some ⟨gc, 0, none⟩) names.length cc) v4 v17 wr) (fun _ v17 _ => names.length - (intOf v17).toNat)
  case atStart => exact J1
  case round =>
    clear J1
    obtain ⟨i, rfl, hi, hfr, hcr, B, hbs⟩ := hrel
    by_cases hlt : i < names.length
    · have hic : i < cs0.length := by rw [hcl.out]; exact hlt
      have q0 := RowI.at hcr i cs0[i] (List.getElem?_eq_getElem hic)
      have hci := hcs0.out i hic
      have hol : (opened g names [] (List.range i)).length ≤ i := by
        have := opened_len g names [] (List.range i)
        rwa [List.length_range] at this
      have hos := opened_succ g names [] i
      by_cases h0 : cs0[i] = 0
      · have e0 : (cs0[i] == 0) = true := by simpa using h0
        rw [hci] at h0
        rw [if_pos h0] at hos
        obtain ⟨v', w', hrun, hr', hg'⟩ := rowI_app hfr (i : Int) (by rw [upI_len]; omega) hbs
        have N : K1J w w1 base2 g names cs0 (.slice (some ⟨gc, 0, none⟩) names.length cc) v' (.int .i64 ((i : Int) + 1)) w' := ⟨i + 1, by simp, hlt, by rw [hos, upI_app]; exact hr', hcr.grown hg' (fun b hb e => by
          have e2 : some gc = some b := e
          injection e2 with e2
          have := (hfr.typed b hb).1
          omega), B.grown hg' B.size (fun k hk => by have := (hfr.typed k hk).1; omega), Nat.le_trans hbs hg'.size⟩
        generalize cs0[i] = x at q0 e0
        clear hfr hcr B hr' hg' hos h0 hci
        replace N := Aside0.mk N
        go_wp2_with (at_builtin; refine app_list rfl rfl rfl rfl hrun ?_)
        refine ⟨N.out, ?_⟩
        simp [intOf]
        omega
      · have e0 : (cs0[i] == 0) = false := by simpa using h0
        rw [hci] at h0
        rw [if_neg h0] at hos
        have N : K1J w w1 base2 g names cs0 (.slice (some ⟨gc, 0, none⟩) names.length cc) u4 (.int .i64 ((i : Int) + 1)) wr := ⟨i + 1, by simp, hlt, by rw [hos]; exact hfr, hcr, B, hbs⟩
        generalize cs0[i] = x at q0 e0
        clear hfr hcr B hos h0 hci
        replace N := Aside0.mk N
        go_wp2
        refine ⟨N.out, ?_⟩
        simp [intOf]
        omega
    · obtain rfl : i = names.length := by omega
      have J2 : K2J w base2 g names (.slice (some ⟨gc, 0, none⟩) names.length cc) u4 (.int .i64 0) wr := ⟨0, _, cs0, rfl, KO.start hg.out hcl.out hcs0.out, hfr, hcr, B, hbs⟩
      clear hfr hcr B hbs
      go_wp2_with fail
      go_loopw [4, 7] (fun v4 v7 wr => K2J w base2 g names (.slice (some ⟨gc, 0, none⟩) names.length cc) v4 v7 wr) (fun _ v7 _ => names.length - (intOf v7).toNat)
      case atStart => exact J2
      case round =>
        clear J2
        obtain ⟨k, fr, cs, rfl, K, hfr, hcr, B, hbs⟩ := hrel
        have hfl := K.fr_len
        have hkl := K.le
        have hV := hW.out wr B
        obtain ⟨Af, cf, rfl, _, hAf⟩ := hfr.slice
        rw [upI_len] at hAf
        by_cases hlt : k < fr.length
        · obtain ⟨gf, rfl, hgf⟩ := hAf (by omega)
          have hk0 : fr[k]? = some fr[k] := List.getElem?_eq_getElem hlt
          have q0 := RowI.at hfr k _ (upI_opt hk0)
          have hi0n : fr[k] < names.length := K.lt _ (List.getElem_mem hlt)
          have hi0s : fr[k] < ss.length := by rw [hV.sl]; exact hi0n
          have q1 := hV.next _ hi0s
          obtain ⟨Ar, cr, hmr, hCr⟩ := hV.rows _ hi0s
          have c1 := hV.c1
          have J3 : K3J w base2 g names k fr[k] fr (.slice (some ⟨gc, 0, none⟩) names.length cc) (.slice (some ⟨gf, 0, none⟩) (upI fr).length cf) (.int .i64 0) wr.drew := ⟨0, fr, cs, rfl, Nat.zero_le _, K.begin _, hfr.grown (drewG wr) (by simp), hcr.grown (drewG wr) (by simp), B.grown (drewG wr) B.size (by simp), hbs⟩
          have hCr' : ∀ W, Below w.heap.size w W → ∃ A c, mvS ss[fr[k]] = .slice A (adj g names fr[k]).length c ∧ dI.C W A (upI (adj g names fr[k])).length (upI (adj g names fr[k])) := fun W B => (hW.out W B).rows _ hi0s
          rw [hmr] at q1 hCr'
          rw [upI_len] at J3
          have hal := adj_len g names fr[k]
          generalize hi0 : fr[k] = i0 at *
          have hkl' : (k : Int) < (fr.length : Int) := by omega
          have hk0' : (0 : Int) ≤ (k : Int) := by omega
          have hi0' : (i0 : Int) < (names.length : Int) := by omega
          have hi0'' : (0 : Int) ≤ (i0 : Int) := by omega
          have hul := upI_len fr
          rw [hul]
          clear hfr hcr B hV hCr hmr hul
          replace hi0 := Aside0.mk hi0
          replace J3 := Aside0.mk J3
          replace hk0 := Aside0.mk hk0
          replace hCr' := Aside0.mk hCr'
          replace K := Aside0.mk K
          go_wp2_with fail
          go_region_held3 (fun V => V.cell? ⟨pw, 1, none⟩ = some (.slice (some ⟨bn, 0, none⟩) names.length names.length) ∧ V.cell? ⟨gf, k, none⟩ = some (.int .i64 (i0 : Int)) ∧ V.cell? ⟨bn, i0, none⟩ = some (.slice Ar (adj g names i0).length cr)) (exact ⟨c1, q0, q1⟩) (fail)
          clear c1 q0 q1
          go_wp2_with fail
          go_loopw [4, 46] (fun v4 v46 wr => K3J w base2 g names k i0 fr (.slice (some ⟨gc, 0, none⟩) names.length cc) v4 v46 wr) (fun _ v46 _ => (adj g names i0).length - (intOf v46).toNat)
          case atStart => exact J3.out
          case round =>
            clear J3
            obtain ⟨e, fr3, cs3, rfl, he, KK, hfr, hcr, B, hbs⟩ := hrel
            by_cases hle : e < (adj g names i0).length
            · obtain ⟨A2, c2', hm2, hC2⟩ := hCr'.out wr B
              injection hm2 with hA2 _ hc2
              subst hA2 hc2
              have hule : e < (upI (adj g names i0)).length := by rw [upI_len]; exact hle
              obtain ⟨ad, rfl, q0⟩ := CI_at hC2 e hule
              rw [upI_at] at q0
              have hjn := (mem_adj.1 (List.getElem_mem hle)).1
              have hjl : (adj g names i0)[e] < cs3.length := by rw [KK.len]; exact hjn
              have NX := KI.next hnn.out K.out hk0.out KK (List.getElem?_eq_getElem hle) hjl
              have q1 := RowI.at hcr _ cs3[(adj g names i0)[e]] (List.getElem?_eq_getElem hjl)
              have qf := hcr.frozen (adj g names i0)[e]
              have hcv := KK.cs _ hjl
              have bd : 0 ≤ cs3[(adj g names i0)[e]] ∧ cs3[(adj g names i0)[e]] ≤ 4096 := by
                rw [hcv]
                have := cnt_nonneg g names ((fr.take (if (adj g names i0)[e] ∈ (adj g names i0).take e then k + 1 else k)).map (nm names)) (nm names (adj g names i0)[e])
                have := cnt_le g names ((fr.take (if (adj g names i0)[e] ∈ (adj g names i0).take e then k + 1 else k)).map (nm names)) (nm names (adj g names i0)[e])
                omega
              obtain ⟨bd1, bd2⟩ := bd
              clear hcv
              have put := RowI.put hcr (adj g names i0)[e] hjl (cs3[(adj g names i0)[e]] - 1)
              have gset := fun x : Int => grown_set wr gc (adj g names i0)[e] (.int .i64 x)
              have hfl3 : fr3.length ≤ 20000 := by
                rw [KK.fr, List.length_append]
                have := opened_len g names ((fr.take (k + 1)).map (nm names)) ((adj g names i0).take e)
                have h5 : ((adj g names i0).take e).length ≤ (adj g names i0).length := by rw [List.length_take]; omega
                omega
              by_cases h0 : cs3[(adj g names i0)[e]] - 1 = 0
              · have h0' : (cs3[(adj g names i0)[e]] - 1 == 0) = true := by simpa using h0
                rw [if_pos h0] at NX
                have hfr1 : RowI (wr.setCell ⟨gc, (adj g names i0)[e], none⟩ (.int .i64 (cs3[(adj g names i0)[e]] - 1))) base2 u4 (upI fr3) := hfr.grown (gset _) (fun b hb e2 => by
                  injection hb with hb
                  have := (hfr.typed b e2).1
                  omega)
                have Bs : Below w.heap.size w (wr.setCell ⟨gc, (adj g names i0)[e], none⟩ (.int .i64 (cs3[(adj g names i0)[e]] - 1))) := B.grown (gset _) B.size (fun k hk => by injection hk with hk; omega)
                obtain ⟨v', w', hrun, hr', hg'⟩ := rowI_app hfr1 ((adj g names i0)[e] : Int) (by rw [upI_len]; omega) (Nat.le_trans hbs (gset _).size)
                have N : K3J w base2 g names k i0 fr (.slice (some ⟨gc, 0, none⟩) names.length cc) v' (.int .i64 ((e : Int) + 1)) w' := ⟨e + 1, fr3 ++ [(adj g names i0)[e]], _, by simp, hle, NX, by rw [upI_app]; exact hr', put.grown hg' (fun b hb e => by
                  have e2 : some gc = some b := e
                  injection e2 with e2
                  have := (hfr1.typed b hb).1
                  omega), Bs.grown hg' Bs.size (fun k hk => by have := (hfr1.typed k hk).1; omega), Nat.le_trans hbs (Nat.le_trans (gset _).size hg'.size)⟩
                rw [show (wr.setCell ⟨gc, (adj g names i0)[e], none⟩ (.int .i64 (cs3[(adj g names i0)[e]] - 1))).heap.size = wr.heap.size from by simp [World.setCell]] at hrun
                generalize hx : cs3[(adj g names i0)[e]] = x at *
                generalize (adj g names i0)[e] = j at *
                have hjn' : (j : Int) < (names.length : Int) := by omega
                clear KK hfr hcr B hC2 NX put gset hfr1 Bs hr' hg' hx hule h0
                replace N := Aside0.mk N
                go_wp2_with (at_builtin; refine app_list rfl rfl rfl rfl hrun ?_)
                refine ⟨N.out, ?_⟩
                simp [intOf]
                omega
              · have h0' : (cs3[(adj g names i0)[e]] - 1 == 0) = false := by simpa using h0
                rw [if_neg h0] at NX
                have N : K3J w base2 g names k i0 fr (.slice (some ⟨gc, 0, none⟩) names.length cc) u4 (.int .i64 ((e : Int) + 1)) (wr.setCell ⟨gc, (adj g names i0)[e], none⟩ (.int .i64 (cs3[(adj g names i0)[e]] - 1))) := ⟨e + 1, fr3, _, by simp, hle, NX, hfr.grown (gset _) (fun b hb e2 => by
                  injection hb with hb
                  have := (hfr.typed b e2).1
                  omega), put, B.grown (gset _) B.size (fun k hk => by injection hk with hk; omega), Nat.le_trans hbs (gset _).size⟩
                generalize hx : cs3[(adj g names i0)[e]] = x at *
                generalize (adj g names i0)[e] = j at *
                have hjn' : (j : Int) < (names.length : Int) := by omega
                clear KK hfr hcr B hC2 NX put gset hx hule h0
                replace N := Aside0.mk N
                go_wp2
                refine ⟨N.out, ?_⟩
                simp [intOf]
                omega
            · obtain rfl : e = (adj g names i0).length := by omega
              have J : K2J w base2 g names (.slice (some ⟨gc, 0, none⟩) names.length cc) u4 (.int .i64 ((k : Int) + 1)) wr := ⟨k + 1, fr3, cs3, by simp, KI.done hg.out hnn.out K.out hk0.out KK, hfr, hcr, B, hbs⟩
              clear KK hfr hcr B
              replace J := Aside0.mk J
              go_wp2
              refine ⟨J.out, ?_⟩
              simp [intOf]
              omega
        · obtain rfl : k = fr.length := by omega
          have hend := kahn_end hg.out hnn.out K
          have c0 := hV.c0
          have hul := upI_len fr
          rw [hul]
          clear hfr hcr hV hul hAf K
          by_cases he : fr.length = names.length
          · have he' : ((fr.length : Int) == (names.length : Int)) = true := by simp [he]
            have E : Ending.returned (.bool true) = Ending.returned (.bool (greedy g names names.length []).isSome) := by rw [← hend, decide_eq_true he]
            clear hend
            replace he := Aside0.mk he
            replace E := Aside0.mk E
            go_wp2
            go_ret
            exact ⟨E.out, B⟩
          · have he' : ((fr.length : Int) == (names.length : Int)) = false := by simp; omega
            have E : Ending.returned (.bool false) = Ending.returned (.bool (greedy g names names.length []).isSome) := by rw [← hend, decide_eq_false he]
            clear hend
            replace he := Aside0.mk he
            replace E := Aside0.mk E
            go_wp2
            go_ret
            exact ⟨E.out, B⟩
end Go.Proofs.Ytedcnpaomphffaa
