import Derived.Test.YteikmnokmcnmcaaGreatMG
namespace Go.Proofs.YteikmnokmcnmcaaGreat
open Go.RowKit Go.Maps Go.Sort Go.Lib Go.Proofs.YteikmnokmcnmcaaGreatW.PrintWords Go.Proofs.YteikmnokmcnmcaaGreatW.PrintLast Go.Proofs.YteikmnokmcnmcaaGreatW.PrintMore
set_option linter.unusedVariables false
set_option linter.unusedSimpArgs false
set_option linter.unusedSectionVars false
/-! ### the document's coarse -/
def coarseN (N : List Nt) (t : Int) (tab : ByteArray) : List Nt := N.filter (fun a => !atPl t tab a) ++ [(t, whole tab)]
def HJr (w : World) (base : Nat) (u : Value) (N : List Nt) (t : Int) (tab : ByteArray) (v7 v8 : Value) (wr : World) : Prop :=
  ∃ j : Nat, j ≤ N.length ∧ v8 = .int .i64 (j : Int) ∧ dN.R 66 wr w.heap.size (fun _ => True) v7 ((N.take j).filter (fun a => !atPl t tab a)) ∧ RowN wr base u N ∧ Below w.heap.size w wr
set_option maxHeartbeats 8000000 in
set_option maxRecDepth 100000 in
theorem coarse_calls (base : Nat) (u : Value) (N : List Nt) (t : Int) (tab : ByteArray) (w : World) (h : RowN w base u N) (hl : N.length ≤ 65537) :
    Calls Tryz.prog 34 #[u, .int .i64 t, .string tab] w fun e w' => ∃ v, e = .returned v ∧ dN.R 66 w' w.heap.size (fun _ => True) v (coarseN N t tab) ∧ Below w.heap.size w w' := by
  obtain ⟨A, c, rfl, hlc, hA⟩ := h.slice
  have hown0 := fun b hb => (h.typed b hb).2.1
  have J0 : HJr w base (.slice A N.length c) N t tab (.slice none 0 0) (.int .i64 0) w := ⟨0, Nat.zero_le _, rfl, Kd.R_nil _ _ _ _ _, h, Below.refl _ _⟩
  clear h
  go_enter Tryz.func34, Tryz.ntmps34
  go_wp2_with fail
  go_loopw [7, 8] (fun v7 v8 wr => HJr w base (.slice A N.length c) N t tab v7 v8 wr) (fun _ v8 _ => N.length - (intOf v8).toNat)
  case atStart => exact J0
  case round =>
    clear J0
    obtain ⟨j, hj, rfl, hv, hrN, hB⟩ := hrel
    have hfl := List.length_filter_le (fun a : Nt => !atPl t tab a) (N.take j)
    have htl : (N.take j).length = j := by rw [List.length_take]; omega
    by_cases hlt : j < N.length
    · obtain ⟨g, rfl, _⟩ := hA (by omega)
      have htk : N.take (j + 1) = N.take j ++ [N[j]] := List.take_succ_eq_append_getElem hlt
      obtain ⟨q0, q1, q2, q3, q4⟩ := RowN.at hrN j N[j] (List.getElem?_eq_getElem hlt)
      generalize N[j] = x at q0 q1 q2 q3 q4 htk
      have keep : atPl t tab x = true → HJr w base (.slice (some ⟨g, 0, none⟩) N.length c) N t tab u7 (.int .i64 ((j : Int) + 1)) wr := fun hx => by
        refine ⟨j + 1, by omega, by simp, ?_, hrN, hB⟩
        rw [htk, List.filter_append]
        simpa [hx] using hv
      have more : atPl t tab x = false → ∃ v' w', (Builtin.append_ #[24, 24] 24 #[u7, .slice (some ⟨wr.heap.size, 0, none⟩) 1 1]).run Tryz.prog (wr.alloc (.cells #[.int .i64 x.1, .string x.2.t, .int .i64 x.2.k, .string x.2.f, .string x.2.u] 66)) = .ok v' w' ∧ HJr w base (.slice (some ⟨g, 0, none⟩) N.length c) N t tab v' (.int .i64 ((j : Int) + 1)) w' := fun hx => by
        obtain ⟨v', w', hrun, hv', hg'⟩ := appN hv x (by omega) hB.size
        have hbase := Kd.R_base hv
        refine ⟨v', w', hrun, j + 1, by omega, by simp, ?_, hrN.grown hg' (fun b hb e => ?_), hB.grown hg' hB.size hbase⟩
        · rw [htk, List.filter_append]
          simpa [hx] using hv'
        · have h1 := hbase b hb
          have h2 := hown0 b e
          omega
      cases hA1 : x.1 == t with
      | true =>
        have hA1' : (x.1 != t) = false := by simpa using hA1
        cases hA2 : x.2.t.toList == tab.toList with
        | true =>
          have hx : atPl t tab x = true := by unfold atPl; rw [hA1, hA2]; rfl
          have fin := keep hx
          have hA2' : x.2.t.toList = tab.toList := by simpa using hA2
          replace fin := Aside0.mk fin
          replace hA1 := Aside0.mk hA1
          clear hx keep more hv hrN htk
          go_wp2
          refine ⟨fin.out, ?_⟩
          simp [intOf]
          omega
        | false =>
          have hx : atPl t tab x = false := by unfold atPl; rw [hA2]; simp
          obtain ⟨v', w', hrun, fin⟩ := more hx
          have hA2' : ¬ x.2.t.toList = tab.toList := by simpa using hA2
          replace fin := Aside0.mk fin
          replace hA1 := Aside0.mk hA1
          clear hx keep more hv hrN htk
          go_wp2_with (at_builtin; refine app_list rfl rfl rfl rfl hrun ?_)
          refine ⟨fin.out, ?_⟩
          simp [intOf]
          omega
      | false =>
        have hA1' : (x.1 != t) = true := by simpa using hA1
        have hx : atPl t tab x = false := by unfold atPl; rw [hA1]; rfl
        obtain ⟨v', w', hrun, fin⟩ := more hx
        replace fin := Aside0.mk fin
        replace hA1 := Aside0.mk hA1
        clear hx keep more hv hrN htk
        go_wp2_with (at_builtin; refine app_list rfl rfl rfl rfl hrun ?_)
        refine ⟨fin.out, ?_⟩
        simp [intOf]
        omega
    · have hje : j = N.length := by omega
      have hge : ¬ (j : Int) < (N.length : Int) := by omega
      rw [hje, List.take_length] at hv
      obtain ⟨v', w', hrun, hv', hg'⟩ := appN hv (t, whole tab) (by have := List.length_filter_le (fun a : Nt => !atPl t tab a) N; omega) hB.size
      have hrun' : (Builtin.append_ #[24, 24] 24 #[u7, .slice (some ⟨wr.heap.size, 0, none⟩) 1 1]).run Tryz.prog (wr.alloc (.cells #[.int .i64 t, .string tab, .int .i64 3, .string ⟨#[]⟩, .string ⟨#[]⟩] 66)) = .ok v' w' := hrun
      have B' := hB.grown hg' hB.size (Kd.R_base hv)
      clear hrun hv hrN hg'
      replace hje := Aside0.mk hje
      replace hv' := Aside0.mk hv'
      go_wp2_with (at_builtin; refine app_list rfl rfl rfl rfl hrun' ?_)
      go_ret
      exact ⟨v', rfl, hv'.out, B'⟩
end Go.Proofs.YteikmnokmcnmcaaGreat
namespace Go.Proofs.YteikmnokmcnmcaaGreat
open Go.RowKit Go.Maps Go.Sort Go.Lib Go.Proofs.YteikmnokmcnmcaaGreatW.PrintWords Go.Proofs.YteikmnokmcnmcaaGreatW.PrintLast Go.Proofs.YteikmnokmcnmcaaGreatW.PrintMore
set_option linter.unusedVariables false
set_option linter.unusedSimpArgs false
set_option linter.unusedSectionVars false
/-! ### the document's coarsest -/
def plN (a : Nt) : Pl := (a.1, a.2.t)
def cnt (N : List Nt) (a : Nt) : Nat := countN N a.1 a.2.t
/-- the best of the first j notes -/
def CS (N : List Nt) (j : Nat) (b m : Int) : Prop :=
  (b = -1 ∧ m = 1 ∧ ∀ i (hi : i < N.length), i < j → cnt N N[i] ≤ 1) ∨
  (∃ (k : Nat) (hk : k < N.length), k < j ∧ b = (k : Int) ∧ m = (cnt N N[k] : Int) ∧ 2 ≤ cnt N N[k] ∧ ∀ i (hi : i < N.length), i < j → cnt N N[i] ≤ cnt N N[k] ∧ (cnt N N[i] = cnt N N[k] → cmpPl (plN N[k]) (plN N[i]) ≤ 0))
theorem CS.skip {N : List Nt} {j : Nat} {b m : Int} (h : CS N j b m) (hj : j < N.length) (hn : (cnt N N[j] : Int) < 2 ∨ (cnt N N[j] : Int) < m) : CS N (j + 1) b m := by
  rcases h with ⟨hb, hm, h⟩ | ⟨k, hk, hkj, hb, hm, h2, h⟩
  · refine .inl ⟨hb, hm, fun i hi hij => ?_⟩
    rcases Nat.lt_or_ge i j with h1 | h1
    · exact h i hi h1
    · obtain rfl : i = j := by omega
      omega
  · refine .inr ⟨k, hk, by omega, hb, hm, h2, fun i hi hij => ?_⟩
    rcases Nat.lt_or_ge i j with h1 | h1
    · exact h i hi h1
    · obtain rfl : i = j := by omega
      exact ⟨by omega, fun e => by omega⟩
theorem CS.more {N : List Nt} {j : Nat} {b m : Int} (h : CS N j b m) (hj : j < N.length) (h2 : 2 ≤ cnt N N[j]) (hn : m < (cnt N N[j] : Int)) : CS N (j + 1) (j : Int) (cnt N N[j] : Int) := by
  refine .inr ⟨j, hj, by omega, rfl, rfl, h2, fun i hi hij => ?_⟩
  rcases Nat.lt_or_ge i j with h1 | h1
  · rcases h with ⟨hb, hm, h⟩ | ⟨k, hk, hkj, hb, hm, h2, h⟩
    · have := h i hi h1
      exact ⟨by omega, fun e => by omega⟩
    · have := (h i hi h1).1
      exact ⟨by omega, fun e => by omega⟩
  · obtain rfl : i = j := by omega
    exact ⟨Nat.le_refl _, fun _ => by rw [ord_Pl.refl]; omega⟩
theorem CS.tie {N : List Nt} {j : Nat} {b m : Int} (h : CS N j b m) (hj : j < N.length) (h2 : 2 ≤ cnt N N[j]) (hn : m = (cnt N N[j] : Int)) :
    ∃ (k : Nat) (hk : k < N.length), b = (k : Int) ∧ (cmpPl (plN N[j]) (plN N[k]) < 0 → CS N (j + 1) (j : Int) (cnt N N[j] : Int)) ∧ (¬ cmpPl (plN N[j]) (plN N[k]) < 0 → CS N (j + 1) b m) := by
  rcases h with ⟨hb, hm, h⟩ | ⟨k, hk, hkj, hb, hm, h3, h⟩
  · omega
  · refine ⟨k, hk, hb, fun hlt => ?_, fun hge => ?_⟩
    · refine .inr ⟨j, hj, by omega, rfl, rfl, h2, fun i hi hij => ?_⟩
      rcases Nat.lt_or_ge i j with h1 | h1
      · obtain ⟨h4, h5⟩ := h i hi h1
        refine ⟨by omega, fun e => ?_⟩
        exact (ord_Pl.trans _ _ _ (by omega) (h5 (by omega))).1
      · obtain rfl : i = j := by omega
        exact ⟨Nat.le_refl _, fun _ => by rw [ord_Pl.refl]; omega⟩
    · refine .inr ⟨k, hk, by omega, hb, hm, h3, fun i hi hij => ?_⟩
      rcases Nat.lt_or_ge i j with h1 | h1
      · exact h i hi h1
      · obtain rfl : i = j := by omega
        refine ⟨by omega, fun _ => ?_⟩
        have := ord_Pl.anti (plN N[k]) (plN N[i])
        have := ord_Pl.anti (plN N[i]) (plN N[k])
        omega
theorem cmpPl_test (a b : Nt) : decide (cmpPl (plN a) (plN b) < 0) = (decide (a.1 < b.1) || ((a.1 == b.1) && Op.bytesLess a.2.t.toList b.2.t.toList)) := by
  rw [cmpPl_lex, ← cmpS_lt]
  show decide ((if cmpN a.1 b.1 ≠ 0 then cmpN a.1 b.1 else cmpS a.2.t b.2.t) < 0) = _
  rcases Int.lt_trichotomy a.1 b.1 with h | h | h
  · have e : cmpN a.1 b.1 = -1 := by unfold cmpN; rw [if_pos h]
    simp [e, h]
  · have e : cmpN a.1 b.1 = 0 := by unfold cmpN; rw [h]; simp
    rw [if_neg (by simpa using e)]
    simp [h]
  · have h1 : ¬ a.1 < b.1 := by omega
    have h2 : ¬ a.1 = b.1 := by omega
    have e : cmpN a.1 b.1 = 1 := by unfold cmpN; rw [if_neg h1, if_neg h2]
    simp [e, h1, h2]
end Go.Proofs.YteikmnokmcnmcaaGreat
namespace Go.Proofs.YteikmnokmcnmcaaGreat
open Go.RowKit Go.Maps Go.Sort Go.Lib Go.Proofs.YteikmnokmcnmcaaGreatW.PrintWords Go.Proofs.YteikmnokmcnmcaaGreatW.PrintLast Go.Proofs.YteikmnokmcnmcaaGreatW.PrintMore
set_option linter.unusedVariables false
set_option linter.unusedSimpArgs false
set_option linter.unusedSectionVars false
/-! ### the document's coarsest, the walk -/
def SJr (w : World) (base : Nat) (u : Value) (N : List Nt) (v3 v4 v5 : Value) (wr : World) : Prop :=
  ∃ (j : Nat) (b m : Int), j ≤ N.length ∧ v5 = .int .i64 (j : Int) ∧ v3 = .int .i64 b ∧ v4 = .int .i64 m ∧ CS N j b m ∧ RowN wr base u N ∧ Below w.heap.size w wr
set_option maxHeartbeats 8000000 in
set_option maxRecDepth 100000 in
theorem RCoarsest_calls (base : Nat) (u : Value) (N : List Nt) (w : World) (h : RowN w base u N) (hl : N.length ≤ 65537) :
    Calls Tryz.prog 33 #[u] w fun e w' => ∃ b m : Int, e = .returned (.int .i64 b) ∧ CS N N.length b m ∧ Below w.heap.size w w' := by
  obtain ⟨A, c, rfl, hlc, hA⟩ := h.slice
  have J0 : SJr w base (.slice A N.length c) N (.int .i64 (-1)) (.int .i64 1) (.int .i64 0) w := ⟨0, -1, 1, Nat.zero_le _, rfl, rfl, rfl, .inl ⟨rfl, rfl, fun i _ h => by omega⟩, h, Below.refl _ _⟩
  clear h
  go_enter Tryz.func33, Tryz.ntmps33
  go_wp2_with fail
  go_loopw [3, 4, 5] (fun v3 v4 v5 wr => SJr w base (.slice A N.length c) N v3 v4 v5 wr) (fun _ _ v5 _ => N.length - (intOf v5).toNat)
  case atStart => exact J0
  case round =>
    clear J0
    obtain ⟨j, b, m, hj, rfl, rfl, rfl, hS, hrN, hB⟩ := hrel
    by_cases hlt : j < N.length
    · obtain ⟨g, rfl, _⟩ := hA (by omega)
      obtain ⟨q0, q1, q2, q3, q4⟩ := RowN.at hrN j N[j] (List.getElem?_eq_getElem hlt)
      have CC := fun n => count_calls base (.slice (some ⟨g, 0, none⟩) N.length c) N (N[j]).1 (N[j]).2.t (wr.drewN n) (hrN.grown (drewNG wr n) (by simp)) hl
      have hcl : cnt N N[j] ≤ 65537 := by unfold cnt countN; exact Nat.le_trans (List.length_filter_le _ _) hl
      have hskip := hS.skip hlt
      have hmore := hS.more hlt
      have htie := hS.tie hlt
      have hcn : countN N (N[j]).1 (N[j]).2.t = cnt N N[j] := rfl
      rw [hcn] at CC
      have Env : ∀ (W : World) (b' m' : Int), Below wr.heap.size wr W → CS N (j + 1) b' m' → SJr w base (.slice (some ⟨g, 0, none⟩) N.length c) N (.int .i64 b') (.int .i64 m') (.int .i64 ((j : Int) + 1)) W := fun W b' m' BW hC => ⟨j + 1, b', m', by omega, by simp, rfl, rfl, hC, hrN.grown (grown_of_below BW none) (by simp), below_then hB hB.size BW⟩
      generalize hx : N[j] = x at q0 q1 q2 q3 q4 CC hcl hskip hmore htie
      generalize cnt N x = n at CC hcl hskip hmore htie
      clear hS hcn
      replace Env := Aside0.mk Env
      replace hskip := Aside0.mk hskip
      replace hmore := Aside0.mk hmore
      replace htie := Aside0.mk htie
      replace hx := Aside0.mk hx
      replace hrN := Aside0.mk hrN
      go_wp2_with fail
      go_region_held3 (fun V => V.cell? ⟨g, j * 5, none⟩ = some (.int .i64 x.1) ∧ V.cell? ⟨g, j * 5 + 1, none⟩ = some (.string x.2.t)) (exact ⟨q0, q1⟩)
        ((go_at_call 57; refine (CC _).mono ?_; rintro e W' ⟨rfl, rfl⟩))
      have BD : Below wr.heap.size wr (wr.drewN 1) := (Below.refl _ wr).grown (drewNG wr 1) (Nat.le_refl _) (by simp)
      by_cases h2 : (n : Int) < 2
      · have F := Env.out _ _ _ BD (hskip.out (.inl h2))
        go_wp2
        refine ⟨F, ?_⟩
        simp [intOf]
        omega
      · by_cases h3 : (n : Int) < m
        · have F := Env.out _ _ _ BD (hskip.out (.inr h3))
          go_wp2
          refine ⟨F, ?_⟩
          simp [intOf]
          omega
        · have BDn : ∀ q, Below wr.heap.size wr (wr.drewN q) := fun q => (Below.refl _ wr).grown (drewNG wr q) (Nat.le_refl _) (by simp)
          by_cases h4 : m < (n : Int)
          · have F := fun q => Env.out _ _ _ (BDn q) (hmore.out (by omega) h4)
            replace F := Aside0.mk F
            clear q0 q1 q2 q3 q4 CC
            go_wp2_with fail
            go_quiet (fail)
            go_wp2
            refine ⟨F.out _, ?_⟩
            simp [intOf]
            omega
          · obtain ⟨k, hk, rfl, hltt, hgee⟩ := htie.out (by omega) (by omega)
            obtain ⟨y0, y1, y2, y3, y4⟩ := RowN.at hrN.out k N[k] (List.getElem?_eq_getElem hk)
            have htest := cmpPl_test x N[k]
            generalize N[k] = y at y0 y1 y2 y3 y4 htest hltt hgee
            have hmn : m = (n : Int) := by omega
            have FY : ∀ q, decide (cmpPl (plN x) (plN y) < 0) = true → SJr w base (.slice (some ⟨g, 0, none⟩) N.length c) N (.int .i64 (j : Int)) (.int .i64 (n : Int)) (.int .i64 ((j : Int) + 1)) (wr.drewN q) := fun q h => Env.out _ _ _ (BDn q) (hltt (of_decide_eq_true h))
            have FN : ∀ q, decide (cmpPl (plN x) (plN y) < 0) = false → SJr w base (.slice (some ⟨g, 0, none⟩) N.length c) N (.int .i64 (k : Int)) (.int .i64 m) (.int .i64 ((j : Int) + 1)) (wr.drewN q) := fun q h => Env.out _ _ _ (BDn q) (hgee (by have := of_decide_eq_false h; omega))
            rw [htest] at FY FN
            clear htest hltt hgee CC q2 q3 q4 y2 y3 y4
            by_cases e1 : x.1 < y.1
            · have F := fun q => FY q (by simp [e1])
              have d1 : decide (x.1 < y.1) = true := decide_eq_true e1
              have d2 : decide (m < (n : Int)) = false := decide_eq_false h4
              replace e1 := Aside0.mk e1
              replace h4 := Aside0.mk h4
              replace hmn := Aside0.mk hmn
              replace F := Aside0.mk F
              clear FY FN
              go_wp2_with fail
              go_quiet (fail)
              go_wp2
              refine ⟨F.out _, ?_⟩
              simp [intOf]
              omega
            · by_cases e2 : x.1 = y.1
              · have e2' : (x.1 == y.1) = true := by simpa using e2
                have d1 : decide (x.1 < y.1) = false := decide_eq_false e1
                have d2 : decide (m < (n : Int)) = false := decide_eq_false h4
                replace e1 := Aside0.mk e1
                replace h4 := Aside0.mk h4
                replace hmn := Aside0.mk hmn
                cases e3 : Op.bytesLess x.2.t.toList y.2.t.toList with
                | true =>
                  have F := fun q => FY q (by rw [e2', e3]; simp)
                  replace F := Aside0.mk F
                  replace e2 := Aside0.mk e2
                  clear FY FN
                  go_wp2_with fail
                  go_region_held3 (fun V => V.cell? ⟨g, j * 5, none⟩ = some (.int .i64 x.1) ∧ V.cell? ⟨g, j * 5 + 1, none⟩ = some (.string x.2.t) ∧ V.cell? ⟨g, k * 5, none⟩ = some (.int .i64 y.1) ∧ V.cell? ⟨g, k * 5 + 1, none⟩ = some (.string y.2.t)) (exact ⟨q0, q1, y0, y1⟩) (fail)
                  go_wp2
                  refine ⟨F.out 2, ?_⟩
                  simp [intOf]
                  omega
                | false =>
                  have F := fun q => FN q (by rw [e3]; simp; have := e1.out; omega)
                  replace F := Aside0.mk F
                  replace e2 := Aside0.mk e2
                  clear FY FN
                  go_wp2_with fail
                  go_region_held3 (fun V => V.cell? ⟨g, j * 5, none⟩ = some (.int .i64 x.1) ∧ V.cell? ⟨g, j * 5 + 1, none⟩ = some (.string x.2.t) ∧ V.cell? ⟨g, k * 5, none⟩ = some (.int .i64 y.1) ∧ V.cell? ⟨g, k * 5 + 1, none⟩ = some (.string y.2.t)) (exact ⟨q0, q1, y0, y1⟩) (fail)
                  go_wp2
                  refine ⟨F.out 2, ?_⟩
                  simp [intOf]
                  omega
              · have e2' : (x.1 == y.1) = false := by simpa using e2
                have F := fun q => FN q (by rw [e2']; simp; omega)
                have d1 : decide (x.1 < y.1) = false := decide_eq_false e1
                have d2 : decide (m < (n : Int)) = false := decide_eq_false h4
                replace e1 := Aside0.mk e1
                replace h4 := Aside0.mk h4
                replace hmn := Aside0.mk hmn
                replace e2 := Aside0.mk e2
                replace F := Aside0.mk F
                clear FY FN
                go_wp2_with fail
                go_quiet (fail)
                go_wp2
                refine ⟨F.out _, ?_⟩
                simp [intOf]
                omega
    · have hge : ¬ (j : Int) < (N.length : Int) := by omega
      have hje : j = N.length := by omega
      rw [hje] at hS
      replace hje := Aside0.mk hje
      clear hrN
      go_wp2
      go_ret
      exact ⟨b, rfl, ⟨m, hS⟩, hB⟩
end Go.Proofs.YteikmnokmcnmcaaGreat
