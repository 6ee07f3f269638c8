import Derived.Test.YtedcnpaomphffaaGreatMD
namespace Go.Proofs.YtedcnpaomphffaaGreat
open Go.RowKit Go.Maps Go.Sort Go.Lib Go.Proofs.YtedcnpaomphffaaGreatW.PrintWords Go.Proofs.YtedcnpaomphffaaGreatW.PrintLast Go.Proofs.YtedcnpaomphffaaGreatW.PrintMore
set_option linter.unusedVariables false
set_option linter.unusedSimpArgs false
set_option linter.unusedSectionVars false
/-! ### the document's Round -/
theorem graph_ends {h : Hs} (k : OkH h) : ∀ d ∈ graphP h, d.f ∈ rise h.C ∧ d.t ∈ rise h.C := fun d hd => by
  obtain ⟨h1, h2, _⟩ := deps_ends k (mem_graph.1 hd)
  exact ⟨((rise_spec h.C).2 _).2 h1, ((rise_spec h.C).2 _).2 h2⟩
theorem row_one (W : World) (x : Int) : RowI (W.alloc (.cells #[.int .i64 x] 3)) W.heap.size (.slice (some ⟨W.heap.size, 0, none⟩) 1 1) [x] :=
  ⟨[.int .i64 x], ⟨by simp, .inr ⟨W.heap.size, 1, _, rfl, Nat.le_refl _, heap_alloc_new W _, by simp, by unfold maxLen; omega, by simp, by simp⟩⟩, ⟨rfl, fun j p hj => by
    cases j with
    | zero => simp at hj; subst hj; rfl
    | succ j => simp at hj⟩⟩
theorem far_iff {g : List Dp} {names ds : List Int} {f : Int} (hF : Far g names ds f) {q : Nat} (hq : q < names.length) (hq' : q < ds.length) (k : Nat) : ds[q] = (k : Int) ↔ IsMin g f k names[q] := by
  constructor
  · intro e
    rcases hF.2 q hq hq' with ⟨e2, _⟩ | ⟨m, e2, hm, hmin⟩
    · omega
    · have : m = k := by omega
      subst this
      exact ⟨hm, hmin⟩
  · intro hm
    exact (hF.2 q hq hq').unique hm.dist
def RdA (w : World) (g : List Dp) (names : List Int) (v5 v6 v7 : Value) (wr : World) : Prop := ∃ (i : Nat) (b f : Int), v7 = .int .i64 (i : Int) ∧ i ≤ names.length ∧ v5 = .int .i64 b ∧ v6 = .int .i64 f ∧ BestR g names i b f ∧ 0 ≤ b ∧ Below w.heap.size w wr
def RdB (w : World) (g : List Dp) (names : List Int) (b : Nat) (f : Int) (v10 : Value) (wr : World) : Prop := ∃ L, RowI wr w.heap.size v10 L ∧ PathR g names f b L ∧ Below w.heap.size w wr
def RdC (w : World) (g : List Dp) (names : List Int) (f : Int) (k : Nat) (a : Int) (V v10 v12 : Value) (wr : World) : Prop := ∃ q : Nat, v12 = .int .i64 (q : Int) ∧ q ≤ names.length ∧ v10 = V ∧ (∀ p (hp : p < names.length), p < q → ¬ (leadsB g a names[p] = true ∧ IsMin g f k names[p])) ∧ wr = w
def RndPost (w : World) (g : List Dp) (names : List Int) (e : Ending) (w' : World) : Prop := ∃ v L, e = .returned v ∧ RowI w' w.heap.size v L ∧ RoundOf g names L ∧ Below w.heap.size w w'
set_option maxHeartbeats 16000000 in
set_option maxRecDepth 100000 in
theorem RRound_calls (z : HV) (w : World) (hz : z.OK w) (hok : OkH z.h) :
    Calls Tryz.prog 21 #[mkH z] w fun e w' => RndPost w (graphP z.h) (rise z.h.C) e w' := by
  obtain ⟨A1, c1, A2, c2, h⟩ := z
  obtain ⟨w1, hw1, B1, hz1, b0, b1⟩ := hv_box _ w hz
  obtain ⟨bx, hbx⟩ : ∃ bx, bx = w.heap.size := ⟨_, rfl⟩
  have RG := fun n => RGraph_calls _ (w1.drewN n) (hz1.below (drewB w1 n)) hok.la
  have RS := fun W (B : Below w1.heap.size w1 W) => RSorted_calls _ c1 _ W (hz1.below B).c (by have := hok.lc; dsimp only at this ⊢; omega) hok.nd
  have hgl := graph_len h
  have hrl := rise_length h.C
  dsimp only [mkH] at hw1 b0 b1 RG RS hok ⊢
  have hA := hok.la
  have hCl := hok.lc
  have hge := graph_ends hok
  have hnd := rise_nodup h.C
  clear hz hz1 hok
  go_enter Tryz.func21, Tryz.ntmps21
  go_upto_region 1 with (fail)
  rw [← hw1, ← hbx]
  rw [← hbx] at b0 b1
  clear hw1
  replace hbx := Aside0.mk hbx
  generalize hgd : graphP h = g at RG hgl hge
  generalize hnm : rise h.C = names at RS hrl hge hnd
  replace hgd := Aside0.mk hgd
  replace hnm := Aside0.mk hnm
  replace hge := Aside0.mk hge
  replace hnd := Aside0.mk hnd
  go_wp2_with fail
  go_region_held3 (fun V => V.cell? ⟨bx, 0, none⟩ = some (.slice A1 h.C.length c1) ∧ V.cell? ⟨bx, 1, none⟩ = some (.slice A2 h.A.length c2))
    (first | exact ⟨b0, b1⟩ | exact ⟨K9 _ _ b0, K9 _ _ b1⟩ | exact ⟨K8 _ _ b0, K8 _ _ b1⟩)
    (first
      | (go_at_call 42; have B9 := below_then (drewB w1 _) (drewB w1 _).size Bg; refine (RS _ B9).mono ?_; rintro e W3 ⟨vn, rfl, Hn, Bn⟩; have K8 : ∀ q v, w1.cell? q = some v → W3.cell? q = some v := fun q v hv => ((below_then B9 B9.size Bn).cell (World.block_lt_of_cell? _ _ hv)).trans hv)
      | (go_at_call 13; refine (RG _).mono ?_; rintro e W2 ⟨vg, rfl, Hg, Bg⟩; have K9 : ∀ q v, w1.cell? q = some v → W2.cell? q = some v := fun q v hv => (Bg.cell (World.block_lt_of_cell? _ _ hv)).trans hv))
  have BD := drewB w1 1
  have B13 := below_then (below_then BD BD.size Bg) (below_then BD BD.size Bg).size Bn
  have B03 := below_then B1 B1.size B13
  have Hg3 := Hg.below Bn
  obtain ⟨Ag, cg, rfl, hlg, hAg⟩ := Hg3.slice
  obtain ⟨An, cn, rfl, hln, hAn⟩ := Hn.slice
  have gC : dD.C W3 Ag g.length g := C_of_lo Hg3 (by omega)
  have nC : dI.C W3 An names.length names := C_of_lo Hn (by omega)
  have J0 : RdA W3 g names (.int .i64 0) (.int .i64 0) (.int .i64 0) W3 := ⟨0, 0, 0, rfl, Nat.zero_le _, rfl, rfl, .inl ⟨rfl, rfl, fun _ _ h => by omega⟩, Int.le_refl _, Below.refl _ _⟩
  clear Hg Hn Hg3 RG RS Bg Bn BD B13 b0 b1
  go_wp2_with fail
  go_loopw [5, 6, 7] (fun v5 v6 v7 wr => RdA W3 g names v5 v6 v7 wr) (fun _ _ v7 _ => names.length - (intOf v7).toNat)
  case atStart => exact J0
  case round =>
    clear J0
    obtain ⟨i, b, f, rfl, hi, rfl, rfl, hbest, hb0, B⟩ := hrel
    by_cases hlt : i < names.length
    · obtain ⟨an, rfl, q0⟩ := CI_at (Kd.C_below nC B) i hlt
      have hmem := List.getElem_mem hlt
      have hskip := fun n ht => hbest.skip (n := n) hlt ht
      have htake := fun n ht => hbest.take (n := n) hlt ht
      have BD := drewB wr 1
      have gCd := Kd.C_below gC (below_then B B.size BD)
      have nCd := Kd.C_below nC (below_then B B.size BD)
      have FA := RFar_calls Ag cg g (some an) cn names names[i] wr.drew gCd nCd (by omega) (by omega) hnd.out hge.out hmem
      have TH := fun W Ad cd ds (BW : Below wr.drew.heap.size wr.drew W) (hd : dI.C W Ad ds.length ds) (hF : Far g names ds names[i]) => through_calls Ag cg g (some an) cn names Ad cd ds names[i] W (Kd.C_below gCd BW) (Kd.C_below nCd BW) hd (by omega) (by omega) hge.out hmem hF
      generalize hx : names[i] = x at q0 FA TH hskip htake
      replace hx := Aside0.mk hx
      have hil : (i : Int) < (names.length : Int) := by omega
      replace hskip := Aside0.mk hskip
      replace htake := Aside0.mk htake
      clear hbest gCd nCd
      go_wp2_with fail
      go_region_held3 (fun V => V.cell? (an.add i) = some (.int .i64 x))
        (first | exact q0 | exact K9 _ _ q0)
        (first
          | (go_at_call 53; refine (TH _ _ _ _ Bd (C_of_lo Hd (by have := HF.1; omega)) HF).mono ?_; rintro e W5 ⟨n, rfl, hthr, rfl⟩)
          | (go_at_call 54; refine FA.mono ?_; rintro e W4 ⟨vd, ds, rfl, Hd, HF, Bd⟩; have K9 : ∀ q v, wr.cell? q = some v → W4.cell? q = some v := fun q v hv => (Bd.cell (World.block_lt_of_cell? _ _ hv)).trans hv; obtain ⟨Ad, cd, rfl, hld, hAd⟩ := Hd.slice))
      have BB := below_then B B.size (below_then BD BD.size Bd)
      have q4 := (Bd.cell (World.block_lt_of_cell? _ _ q0)).trans q0
      have hpos := hthr.pos
      have fin1 : (n = 0 ∨ (b ≠ 0 ∧ b ≤ n)) → RdA W3 g names (.int .i64 b) (.int .i64 f) (.int .i64 ((i : Int) + 1)) W4 := fun hs => ⟨i + 1, b, f, by simp, by omega, rfl, rfl, hskip.out n hthr hs, hb0, BB⟩
      have fin2 : 0 < n → (b = 0 ∨ n < b) → ∀ m, RdA W3 g names (.int .i64 n) (.int .i64 x) (.int .i64 ((i : Int) + 1)) (W4.drewN m) := fun h1 h2 m => ⟨i + 1, n, x, by simp, by omega, rfl, rfl, htake.out n hthr h1 h2, by omega, below_then BB BB.size (drewB W4 m)⟩
      clear hthr Hd HF FA TH BD hskip htake q0
      by_cases hn : 0 < n
      · by_cases hbz : b = 0
        · have t0 : (b == 0) = true := by simpa using hbz
          have F := fin2 hn (.inl hbz)
          clear fin1 fin2
          replace F := Aside0.mk F
          replace hbz := Aside0.mk hbz
          go_wp2_with fail
          go_quiet (fail)
          go_wp2
          refine ⟨F.out _, ?_⟩
          simp [intOf]
          omega
        · have t0 : (b == 0) = false := by simpa using hbz
          by_cases hnb : n < b
          · have F := fin2 hn (.inr hnb)
            clear fin1 fin2
            replace F := Aside0.mk F
            replace hbz := Aside0.mk hbz
            go_wp2_with fail
            go_quiet (fail)
            go_wp2
            refine ⟨F.out _, ?_⟩
            simp [intOf]
            omega
          · have F := fin1 (.inr ⟨hbz, by omega⟩)
            clear fin1 fin2
            replace F := Aside0.mk F
            replace hbz := Aside0.mk hbz
            go_wp2
            refine ⟨F.out, ?_⟩
            simp [intOf]
            omega
      · have F := fin1 (.inl (by omega))
        clear fin1 fin2
        replace F := Aside0.mk F
        go_wp2
        refine ⟨F.out, ?_⟩
        simp [intOf]
        omega
    · have hie : i = names.length := by omega
      have hgei : ¬ (i : Int) < (names.length : Int) := by omega
      rw [hie] at hbest
      replace hie := Aside0.mk hie
      by_cases hbz : b = 0
      · have t0 : (b == 0) = true := by simpa using hbz
        have hres : RoundOf g names [] := ⟨b, f, hbest, .inl ⟨hbz, rfl⟩⟩
        replace hbz := Aside0.mk hbz
        clear hbest gC nC
        replace hres := Aside0.mk hres
        go_wp2
        go_ret
        rw [hgd.out, hnm.out]
        exact ⟨.slice none 0 0, [], rfl, Lo.nil _ _, hres.out, below_then B03 B03.size B⟩
      · have t0 : (b == 0) = false := by simpa using hbz
        obtain ⟨bn, rfl⟩ : ∃ bn : Nat, b = (bn : Int) := ⟨b.toNat, by omega⟩
        have hthr : f ∈ names ∧ IsThr g f (bn : Int) := by
          rcases hbest with ⟨e, _⟩ | ⟨k, hk, _, rfl, _, ht, _⟩
          · exact absurd e hbz
          · exact ⟨List.getElem_mem hk, ht⟩
        have hbn : 1 ≤ bn := by omega
        have hbnn : bn ≤ names.length := by
          rcases hthr.2 with ⟨e, _⟩ | ⟨k, e, ⟨c, hc, hw⟩, hmin⟩
          · omega
          · have := min_lt hge.out hthr.1 ⟨hw, fun j hj hw' => hmin j hj ⟨c, hc, hw'⟩⟩
            omega
        have hfin : ∀ L : List Int, L.length = bn → PathR g names f bn L → RoundOf g names L := fun L hl hp => ⟨(bn : Int), f, hbest, .inr ⟨by omega, by omega, by rw [Int.toNat_natCast]; exact hp⟩⟩
        have gCr := Kd.C_below gC B
        have nCr := Kd.C_below nC B
        have FA := RFar_calls Ag cg g An cn names f wr gCr nCr (by omega) (by omega) hnd.out hge.out hthr.1
        have hmore := fun L (hp : PathR g names f bn L) hl a ha => hp.more hge.out hthr.2 (a := a) hl ha
        replace hfin := Aside0.mk hfin
        replace hmore := Aside0.mk hmore
        replace hthr := Aside0.mk hthr
        replace hbz := Aside0.mk hbz
        clear hbest gC nC
        go_wp2_with fail
        refine FA.mono ?_
        rintro e W4 ⟨vd, ds, rfl, Hd, HF, Bd⟩
        obtain ⟨W5, hW5⟩ : ∃ W5, W5 = W4.alloc (.cells #[.int .i64 f] 3) := ⟨_, rfl⟩
        have hrow1 := row_one W4 f
        rw [← hW5] at hrow1
        have B5 : Below W4.heap.size W4 W5 := by rw [hW5]; exact (Below.refl _ W4).alloc (Nat.le_refl _) _
        obtain ⟨Ad, cd, rfl, hld, hAd⟩ := Hd.slice
        have dC : dI.C W5 Ad ds.length ds := C_of_lo (Hd.below B5) (by have := HF.1; omega)
        have gC5 := Kd.C_below (Kd.C_below gCr Bd) B5
        have nC5 := Kd.C_below (Kd.C_below nCr Bd) B5
        have B45 := below_then Bd Bd.size B5
        have BW5 := below_then B B.size B45
        have B05 := below_then B03 B03.size BW5
        have J1 : RdB W4 g names bn f (.slice (some ⟨W4.heap.size, 0, none⟩) 1 1) W5 := ⟨[f], hrow1, PathR.one g names f hbn, B5⟩
        have hdl := HF.1
        have hfar : ∀ q (hq : q < names.length) (hq' : q < ds.length) (k : Nat), ds[q] = (k : Int) ↔ IsMin g f k names[q] := fun q hq hq' k => far_iff HF hq hq' k
        have gC4 := fun W (BW : Below W4.heap.size W4 W) => Kd.C_below (Kd.C_below gCr Bd) BW
        have nC4 := fun W (BW : Below W4.heap.size W4 W) => Kd.C_below (Kd.C_below nCr Bd) BW
        have dC4 : ∀ W (BW : Below W4.heap.size W4 W), dI.C W Ad ds.length ds := fun W BW => C_of_lo (Hd.below BW) (by omega)
        have B04 := below_then B03 B03.size (below_then B B.size Bd)
        clear Hd HF FA gCr nCr hrow1 dC gC5 nC5 B45 BW5 B5 Bd
        replace hfar := Aside0.mk hfar
        replace hdl := Aside0.mk hdl
        go_upto_block 2 with (fail)
        rw [← hW5]
        clear hW5
        go_wp2_with fail
        go_loopw [10] (fun v10 wr => RdB W4 g names bn f v10 wr) (fun v10 _ => bn - lenOf v10)
        case atStart => exact J1
        case round =>
          clear J1
          obtain ⟨L, hrow, hp, B⟩ := hrel
          obtain ⟨Al, cl, rfl, hll, hAl⟩ := hrow.slice
          by_cases hlb : L.length < bn
          · obtain ⟨gl, rfl, _⟩ := hAl (by have := hp.1; omega)
            have hL1 := hp.1
            have ha := List.getElem?_eq_getElem (l := L) (i := L.length - 1) (by omega)
            have y0 := RowI.at hrow (L.length - 1) _ ha
            have hmore2 := hmore.out L hp hlb _ ha
            have hsn := fun x hx => hp.snoc hlb ha (x := x) hx
            generalize L[L.length - 1]'(by omega) = a at y0 hmore2 hsn
            have hsub : (L.length : Int) - 1 = ((L.length - 1 : Nat) : Int) := by omega
            have hlb' : (L.length : Int) < (bn : Int) := by omega
            obtain ⟨wo, rfl⟩ : ∃ wo : World, wo = wr := ⟨_, rfl⟩
            have K0 : RdC wo g names f (bn - L.length) a (.slice (some ⟨gl, 0, none⟩) L.length cl) (.slice (some ⟨gl, 0, none⟩) L.length cl) (.int .i64 0) wo := ⟨0, rfl, Nat.zero_le _, rfl, fun _ _ h => by omega, rfl⟩
            replace hmore2 := Aside0.mk hmore2
            replace hsn := Aside0.mk hsn
            go_wp2_with fail
            go_loopw [10, 12] (fun v10 v12 W => RdC wo g names f (bn - L.length) a (.slice (some ⟨gl, 0, none⟩) L.length cl) v10 v12 W) (fun _ v12 _ => names.length - (intOf v12).toNat)
            case atStart => exact K0
            case round =>
              clear K0
              obtain ⟨q, rfl, hq, rfl, hno, rfl⟩ := hrel
              by_cases hql : q < names.length
              · obtain ⟨an, rfl, q0⟩ := CI_at (nC4 wr B) q hql
                obtain ⟨ad, rfl, z0⟩ := CI_at (dC4 wr B) q (by have := hdl.out; omega)
                have hfq := hfar.out q hql (by have := hdl.out; omega) (bn - L.length)
                have LE := leads_calls Ag cg g a names[q] wr (gC4 wr B) (by omega)
                have hnx : leadsB g a names[q] = true → IsMin g f (bn - L.length) names[q] → IsNext g names f (bn - L.length) a names[q] := fun h1 h2 => ⟨q, hql, rfl, h1, h2, hno⟩
                have hno2 : ¬ (leadsB g a names[q] = true ∧ IsMin g f (bn - L.length) names[q]) → RdC wr g names f (bn - L.length) a (.slice (some ⟨gl, 0, none⟩) L.length cl) (.slice (some ⟨gl, 0, none⟩) L.length cl) (.int .i64 ((q : Int) + 1)) wr := fun hx => ⟨q + 1, by simp, by omega, rfl, fun p hp hpq => by
                  rcases Nat.lt_or_ge p q with e | e
                  · exact hno p hp e
                  · obtain rfl : p = q := by omega
                    exact hx, rfl⟩
                have hcast : (((bn - L.length : Nat) : Nat) : Int) = (bn : Int) - (L.length : Int) := by omega
                rw [hcast] at hfq
                have hqd : (q : Int) < (ds.length : Int) := by have := hdl.out; omega
                generalize ds[q]'(by have := hdl.out; omega) = dv at z0 hfq
                generalize leadsB g a names[q] = lb at LE hnx hno2
                generalize names[q] = x at q0 LE hnx hno2 hfq
                have hql' : (q : Int) < (names.length : Int) := by omega
                clear hno gC4 nC4 dC4 hcast
                cases lb with
                | false =>
                  have F := hno2 (fun h => by cases h.1)
                  clear hnx hno2 hfq
                  replace F := Aside0.mk F
                  go_wp2_with fail
                  refine LE.mono ?_
                  rintro e w' ⟨rfl, rfl⟩
                  go_wp2
                  refine ⟨F.out, ?_⟩
                  simp [intOf]
                  omega
                | true =>
                  by_cases hdv : dv = (bn : Int) - (L.length : Int)
                  · have t1 : (dv == (bn : Int) - (L.length : Int)) = true := by simpa using hdv
                    have hN := hnx rfl (hfq.1 hdv)
                    have hp2 := hsn.out x hN
                    obtain ⟨v', w', hrun, hr', hg'⟩ := appI1 hrow x (by omega) B.size
                    have F : RdB W4 g names bn f v' w' := ⟨_, hr', hp2, B.grown hg' B.size hrow.own⟩
                    obtain ⟨A', c', rfl, _, _⟩ := hr'.slice
                    rw [List.length_append, List.length_singleton] at F
                    clear hnx hno2 hfq hN hp2 hr' hg' hrow hp
                    replace hdv := Aside0.mk hdv
                    replace F := Aside0.mk F
                    go_wp2_with fail
                    refine LE.mono ?_
                    rintro e w' ⟨rfl, rfl⟩
                    go_wp2_with (at_builtin; refine app_list rfl rfl rfl rfl hrun ?_)
                    refine ⟨F.out, ?_⟩
                    simp [lenOf]
                    omega
                  · have t1 : (dv == (bn : Int) - (L.length : Int)) = false := by simpa using hdv
                    have F := hno2 (fun h => hdv (hfq.2 h.2))
                    clear hnx hno2 hfq
                    replace hdv := Aside0.mk hdv
                    replace F := Aside0.mk F
                    go_wp2_with fail
                    refine LE.mono ?_
                    rintro e w' ⟨rfl, rfl⟩
                    go_wp2
                    refine ⟨F.out, ?_⟩
                    simp [intOf]
                    omega
              · exfalso
                obtain ⟨p, hp, h1, h2⟩ := hmore2.out
                exact hno p hp (by omega) ⟨h1, h2⟩
          · have hLb : L.length = bn := by have := hp.2.1; omega
            have hge2 : ¬ (L.length : Int) < (bn : Int) := by omega
            have hres := hfin.out L hLb hp
            replace hLb := Aside0.mk hLb
            replace hres := Aside0.mk hres
            clear gC4 nC4 dC4 hp
            go_wp2
            go_ret
            rw [hgd.out, hnm.out]
            exact ⟨.slice Al L.length cl, L, rfl, Lo.lower hrow B04.size, hres.out, below_then B04 B04.size B⟩
end Go.Proofs.YtedcnpaomphffaaGreat
namespace Go.Proofs.YtedcnpaomphffaaGreat
open Go.RowKit Go.Maps Go.Sort Go.Lib Go.Proofs.YtedcnpaomphffaaGreatW.PrintWords Go.Proofs.YtedcnpaomphffaaGreatW.PrintLast Go.Proofs.YtedcnpaomphffaaGreatW.PrintMore
set_option linter.unusedVariables false
set_option linter.unusedSimpArgs false
set_option linter.unusedSectionVars false
/-! ### rows of rows; the document's more, Orders -/
/-- nil, or a row's block, length, capacity -/
abbrev Sv := Option (Nat × Nat × Nat)
def mvS : Sv → Value
  | none => .slice none 0 0
  | some (g, n, c) => .slice (some ⟨g, 0, none⟩) n c
def encS (x : Sv) : List Value := [mvS x]
theorem encS_one (x : Sv) : ∀ u ∈ encS x, u.oneCell' = true := fun u hu => by
  simp [encS] at hu
  rw [hu]
  rcases x with _ | ⟨g, n, c⟩ <;> rfl
abbrev RowS (w : World) (base : Nat) (v : Value) (xs : List Sv) : Prop := Lo encS 1 22 w base v xs
theorem info22 : (Tryz.prog.info? 22).map (fun i => (i.zero, i.size, i.bytes)) = some (some (.slice none 0 0), 1, 24) := by kernel_rfl
theorem sv_of {w : World} {base : Nat} {v : Value} {xs : List Int} (h : RowI w base v xs) : ∃ s : Sv, v = mvS s ∨ (∃ A c, v = .slice A 0 c ∧ xs = []) := by
  obtain ⟨A, c, rfl, hc, hA⟩ := h.slice
  rcases Nat.eq_zero_or_pos xs.length with e | e
  · exact ⟨none, .inr ⟨A, c, by rw [e], List.eq_nil_of_length_eq_zero e⟩⟩
  · obtain ⟨g, rfl, _⟩ := hA e
    exact ⟨some (g, xs.length, c), .inl rfl⟩
theorem lo_form {w : World} {base : Nat} {v : Value} {xs : List Int} (h : RowI w base v xs) : ∃ s : Sv, v = mvS s := by
  obtain ⟨inner, ⟨hl, hr⟩, hp⟩ := h
  rcases hr with ⟨rfl, _⟩ | ⟨g, cap, cur, rfl, _⟩
  · exact ⟨none, rfl⟩
  · exact ⟨some (g, xs.length, cap), rfl⟩
/-- orders that are found -/
def FoundR (w : World) (base : Nat) (v : Value) (L : List (List Int)) : Prop := ∃ sv : List Sv, RowS w base v sv ∧ sv.length = L.length ∧ ∀ i (h1 : i < sv.length) (h2 : i < L.length), RowI w base (mvS sv[i]) L[i]
/-- nothing below a block changes, and of the others rows of rows alone -/
structure Eff (base : Nat) (w w' : World) : Prop where
  below : Below base w w'
  size : w.heap.size ≤ w'.heap.size
  cells : ∀ (k : Nat) (c : Array Value) (e : TypeId) (s : Nat × Nat), e ≠ 22 → w.heap[k]? = some (.cells c e s) → w'.heap[k]? = some (.cells c e s)
theorem Eff.refl (base : Nat) (w : World) : Eff base w w := ⟨Below.refl _ _, Nat.le_refl _, fun _ _ _ _ _ h => h⟩
theorem Eff.trans {base : Nat} {w w1 w2 : World} (h : Eff base w w1) (k : Eff base w1 w2) : Eff base w w2 := ⟨h.below.trans k.below, Nat.le_trans h.size k.size, fun a c e s he hw => k.cells a c e s he (h.cells a c e s he hw)⟩
theorem Eff.ofBelow {base : Nat} {w w1 : World} (B : Below w.heap.size w w1) (hb : base ≤ w.heap.size) : Eff base w w1 := ⟨B.mono hb, B.size, fun k c e s _ hw => (B.block k (Array.getElem?_eq_some_iff.1 hw).1).trans hw⟩
theorem Eff.ofGrown {base : Nat} {w w1 : World} {v : Value} {sv : List Sv} (h : RowS w base v sv) (g : w.grownBy w1 v.ownBlock) (hb : base ≤ w.heap.size) : Eff base w w1 := by
  refine ⟨(Below.refl _ w).grown g hb h.own, g.size, fun k c e s he hw => ?_⟩
  refine (g.block k (Array.getElem?_eq_some_iff.1 hw).1 (fun e2 => ?_)).trans hw
  obtain ⟨_, _, cs, hc⟩ := h.typed k e2.symm
  rw [hw] at hc
  injection hc with hc
  injection hc with _ hc _
  exact he hc
theorem Eff.cell {base : Nat} {w w' : World} (h : Eff base w w') {k : Nat} {c : Array Value} {e : TypeId} {s : Nat × Nat} (he : e ≠ 22) (hw : w.heap[k]? = some (.cells c e s)) : w'.heap[k]? = some (.cells c e s) := h.cells k c e s he hw
theorem Lo.eff {α : Type} {enc : α → List Value} {k e base base' : Nat} {w w' : World} {v : Value} {xs : List α} (he : e ≠ 22) (h : Lo enc k e w base' v xs) (E : Eff base w w') : Lo enc k e w' base' v xs :=
  h.move (fun b hb => by
    obtain ⟨_, _, cs, hc⟩ := h.typed b hb
    rw [hc]
    exact E.cells b _ _ _ he hc)
theorem FoundR.below {w w' : World} {base : Nat} {v : Value} {L : List (List Int)} (h : FoundR w base v L) (B : Below w.heap.size w w') : FoundR w' base v L := by
  obtain ⟨sv, h1, h2, h3⟩ := h
  exact ⟨sv, h1.below B, h2, fun i hi hi' => (h3 i hi hi').below B⟩
theorem FoundR.lower {w : World} {base base' : Nat} {v : Value} {L : List (List Int)} (h : FoundR w base v L) (hb : base' ≤ base) : FoundR w base' v L := by
  obtain ⟨sv, h1, h2, h3⟩ := h
  exact ⟨sv, h1.lower hb, h2, fun i hi hi' => (h3 i hi hi').lower hb⟩
theorem FoundR.nil (w : World) (base : Nat) : FoundR w base (.slice none 0 0) [] := ⟨[], Lo.nil _ _, rfl, fun i h => by simp at h⟩
theorem FoundR.slice {w : World} {base : Nat} {v : Value} {L : List (List Int)} (h : FoundR w base v L) : ∃ A c, v = .slice A L.length c := by
  obtain ⟨sv, h1, h2, h3⟩ := h
  obtain ⟨A, c, rfl, _⟩ := h1.slice
  exact ⟨A, c, by rw [h2]⟩
/-- one order more -/
theorem FoundR.more {W : World} {base : Nat} {v u : Value} {L : List (List Int)} {xs : List Int} (h : FoundR W base v L) (hu : RowI W base u xs) (hl : L.length ≤ 1000000) (hb : base ≤ W.heap.size) :
    ∃ v' w', (Builtin.append_ #[46, 46] 46 #[v, .slice (some ⟨W.heap.size, 0, none⟩) 1 1]).run Tryz.prog (W.alloc (.cells #[u] 22)) = .ok v' w' ∧ FoundR w' base v' (L ++ [xs]) ∧ Eff base W w' := by
  obtain ⟨sv, h1, h2, h3⟩ := h
  obtain ⟨s, rfl⟩ := lo_form hu
  obtain ⟨v', w', hrun, hr, hg⟩ := Lo.append h1 (fun _ => rfl) encS_one 46 46 _ 24 Tryz.underlying46 info22 rfl (by decide) (by decide) s (by rw [h2]; omega) hb
  have E := Eff.ofGrown h1 hg hb
  refine ⟨v', w', hrun, ⟨sv ++ [s], hr, by simp [h2], fun i hi hi' => ?_⟩, E⟩
  rcases Nat.lt_or_ge i sv.length with e | e
  · rw [List.getElem_append_left e, List.getElem_append_left (by omega)]
    exact Lo.eff (by decide) (h3 i e (by omega)) E
  · rw [List.length_append, List.length_singleton] at hi
    have hi0 : i = sv.length := by omega
    subst hi0
    rw [List.getElem_append_right (Nat.le_refl _), List.getElem_append_right (by omega)]
    simp only [Nat.sub_self, List.getElem_cons_zero, h2]
    exact Lo.eff (by decide) hu E
theorem take_more {α : Type} (F E G : List α) (most : Nat) : (F ++ E.take (most - F.length)) ++ G.take (most - (F ++ E.take (most - F.length)).length) = F ++ (E ++ G).take (most - F.length) := by
  rw [List.append_assoc, List.take_append]
  congr 2
  rw [List.length_append, List.length_take]
  congr 1
  omega
def MorePost (base : Nat) (w : World) (L : List (List Int)) (e : Ending) (w' : World) : Prop := ∃ v, e = .returned v ∧ FoundR w' base v L ∧ Eff base w w'
def MoJ (base : Nat) (w : World) (g : List Dp) (names done : List Int) (found : List (List Int)) (k most : Nat) (v3 v13 : Value) (wr : World) : Prop :=
  ∃ i : Nat, v13 = .int .i64 (i : Int) ∧ i ≤ names.length ∧ FoundR wr base v3 (found ++ (((names.take i).filter (mayN g done)).flatMap fun n => enum g names k (done ++ [n])).take (most - found.length)) ∧ Eff base w wr
theorem boxH_new (A1 : Option Addr) (n1 c1 : Nat) (A2 : Option Addr) (n2 c2 : Nat) (w : World) : (w.alloc (.cells #[.slice A1 n1 c1, .slice A2 n2 c2] 25)).heap[w.heap.size]? = some (.cells #[.slice A1 n1 c1, .slice A2 n2 c2] 25 (0, 0)) := heap_alloc_new w _
set_option maxHeartbeats 16000000 in
set_option maxRecDepth 100000 in
theorem more_calls (z : HV) (w0 : World) (hz0 : z.OK w0) (hok : OkH z.h) (base : Nat) (hb0 : w0.heap.size ≤ base) (most : Nat) (hmost : most ≤ 1000) :
    ∀ (k : Nat) (vg vd vf : Value) (bd bg : Nat) (done : List Int) (found : List (List Int)) (w : World), Below w0.heap.size w0 w → base ≤ w.heap.size → RowD w bg vg (graphP z.h) → RowI w bd vd done → FoundR w base vf found → done.length + k = z.h.C.length → found.length ≤ 1000 →
    Calls Tryz.prog 45 #[mkH z, vg, vd, vf, .int .i64 (most : Int)] w fun e w' => MorePost base w (found ++ (enum (graphP z.h) (rise z.h.C) k done).take (most - found.length)) e w' := by
  obtain ⟨A1, c1, A2, c2, h⟩ := z
  have hA := hok.la
  have hCl := hok.lc
  have hgl := graph_len h
  have hrn := rise_nodup_len hok.nd
  have hnl : (rise h.C).length ≤ 4096 := by rw [hrn]; exact hok.lc
  have RSF := fun W (B : Below w0.heap.size w0 W) => RSorted_calls _ c1 _ W (hz0.below B).c (by have := hok.lc; dsimp only at this ⊢; omega) hok.nd
  dsimp only [mkH] at RSF hok hA hCl ⊢
  generalize hgd : graphP h = g at hgl
  generalize hnm : rise h.C = names at RSF hrn hnl
  clear hgd hnm hz0 hok
  have full : ∀ (vg vd vf : Value) (E : List (List Int)) (found : List (List Int)) (w : World), base ≤ w.heap.size → FoundR w base vf found → most ≤ found.length → found.length ≤ 1000 →
      Calls Tryz.prog 45 #[.agg #[.slice A1 h.C.length c1, .slice A2 h.A.length c2], vg, vd, vf, .int .i64 (most : Int)] w fun e w' => MorePost base w (found ++ E.take (most - found.length)) e w' := by
    intro vg vd vf E found w hbw hf hge hfl
    have e0 : found ++ E.take (most - found.length) = found := by rw [Nat.sub_eq_zero_of_le hge]; simp
    rw [e0]
    obtain ⟨Af, cf, rfl⟩ := hf.slice
    obtain ⟨w1, hw1⟩ : ∃ w1, w1 = w.alloc (.cells #[.slice A1 h.C.length c1, .slice A2 h.A.length c2] 25) := ⟨_, rfl⟩
    have B1 : Below w.heap.size w w1 := by rw [hw1]; exact (Below.refl _ w).alloc (Nat.le_refl _) _
    have F : MorePost base w found (.returned (.slice Af found.length cf)) w1 := ⟨_, rfl, hf.below B1, Eff.ofBelow B1 hbw⟩
    clear hf RSF
    replace F := Aside0.mk F
    replace hrn := Aside0.mk hrn
    go_enter Tryz.func45, Tryz.ntmps45
    go_upto_region 1 with (fail)
    rw [← hw1]
    clear hw1
    go_wp2
    go_ret
    exact F.out
  intro k
  induction k with
  | zero =>
    intro vg vd vf bd bg done found w B0 hbw hg hd hf hdk hfl
    by_cases hge : most ≤ found.length
    · exact full vg vd vf _ found w hbw hf hge hfl
    · obtain ⟨w1, hw1⟩ : ∃ w1, w1 = w.alloc (.cells #[.slice A1 h.C.length c1, .slice A2 h.A.length c2] 25) := ⟨_, rfl⟩
      have B1 : Below w.heap.size w w1 := by rw [hw1]; exact (Below.refl _ w).alloc (Nat.le_refl _) _
      have ob : w1.heap[w.heap.size]? = some (.cells #[.slice A1 h.C.length c1, .slice A2 h.A.length c2] 25 (0, 0)) := by rw [hw1]; exact heap_alloc_new w _
      have b0 := cell_of_row w1 _ 0 _ 25 (0, 0) ob
      obtain ⟨bx, hbx⟩ : ∃ bx, bx = w.heap.size := ⟨_, rfl⟩
      have hf1 := hf.below B1
      have hd1 := hd.below B1
      obtain ⟨Af, cf, rfl⟩ := hf.slice
      obtain ⟨Ad, cd, rfl, hld, _⟩ := hd.slice
      obtain ⟨v2, w2, r2, R2, G2⟩ := appsI (Lo.nil w1 w1.heap.size) Ad cd (Lo.src hd1 rfl) (by simp only [List.length_nil]; omega) (Nat.le_refl _)
      rw [List.nil_append] at R2
      obtain ⟨A4, c4, rfl, _, _⟩ := R2.slice
      have B2 : Below w1.heap.size w1 w2 := (Below.refl _ w1).grown G2 (Nat.le_refl _) (by simp [Value.ownBlock])
      have hbw2 : base ≤ w2.heap.size := Nat.le_trans hbw (Nat.le_trans B1.size B2.size)
      obtain ⟨v3, w3, r3, F3, E3⟩ := (hf1.below B2).more (R2.lower (Nat.le_trans hbw B1.size)) (by omega) hbw2
      have F : MorePost base w (found ++ (enum g names 0 done).take (most - found.length)) (.returned v3) w3 := by
        have e : (enum g names 0 done).take (most - found.length) = [done] := by
          show [done].take (most - found.length) = [done]
          obtain ⟨m, hm⟩ : ∃ m, most - found.length = m + 1 := ⟨most - found.length - 1, by omega⟩
          rw [hm]; simp
        rw [e]
        exact ⟨v3, rfl, F3, (Eff.ofBelow (below_then B1 B1.size B2) hbw).trans E3⟩
      have hdl : ((done.length : Int) == (h.C.length : Int)) = true := by
        rw [beq_iff_eq]
        omega
      clear hf hd hf1 hd1 full R2 F3 E3 RSF hg
      replace F := Aside0.mk F
      replace hrn := Aside0.mk hrn
      replace hdk := Aside0.mk hdk
      rw [← hbx] at b0
      go_enter Tryz.func45, Tryz.ntmps45
      go_upto_region 1 with (fail)
      rw [← hw1, ← hbx]
      clear hw1
      replace hbx := Aside0.mk hbx
      go_upto_region 6 with (at_builtin; refine app_list rfl rfl rfl rfl r2 ?_)
      clear r2
      go_wp2_with (at_builtin; refine app_list rfl rfl rfl rfl r3 ?_)
      go_ret
      exact F.out
  | succ k ih =>
    intro vg vd vf bd bg done found w B0 hbw hg hd hf hdk hfl
    by_cases hge : most ≤ found.length
    · exact full vg vd vf _ found w hbw hf hge hfl
    · obtain ⟨w1, hw1⟩ : ∃ w1, w1 = w.alloc (.cells #[.slice A1 h.C.length c1, .slice A2 h.A.length c2] 25) := ⟨_, rfl⟩
      have B1 : Below w.heap.size w w1 := by rw [hw1]; exact (Below.refl _ w).alloc (Nat.le_refl _) _
      have ob : w1.heap[w.heap.size]? = some (.cells #[.slice A1 h.C.length c1, .slice A2 h.A.length c2] 25 (0, 0)) := by rw [hw1]; exact heap_alloc_new w _
      have b0 := cell_of_row w1 _ 0 _ 25 (0, 0) ob
      have b1 := cell_of_row w1 _ 1 _ 25 (0, 0) ob
      obtain ⟨bx, hbx⟩ : ∃ bx, bx = w.heap.size := ⟨_, rfl⟩
      have RS := RSF w1 (below_then B0 B0.size B1)
      have hdl : ((done.length : Int) == (h.C.length : Int)) = false := by
        rw [beq_eq_false_iff_ne]
        omega
      obtain ⟨Af, cf, rfl⟩ := hf.slice
      obtain ⟨Ad, cd, rfl, hld, _⟩ := hd.slice
      obtain ⟨Ag, cg, rfl, hlg, _⟩ := hg.slice
      clear full
      replace ih := Aside0.mk ih
      replace RSF := Aside0.mk RSF
      replace hrn := Aside0.mk hrn
      replace hdk := Aside0.mk hdk
      rw [← hbx] at b0 b1 ob
      go_enter Tryz.func45, Tryz.ntmps45
      go_upto_region 1 with (fail)
      rw [← hw1, ← hbx]
      clear hw1
      replace hbx := Aside0.mk hbx
      go_wp2_with fail
      refine RS.mono ?_
      rintro e W2 ⟨vn, rfl, Hn, Bn⟩
      obtain ⟨An, cn, rfl, hln, hAn⟩ := Hn.slice
      have B12 := below_then B1 B1.size Bn
      have E02 := Eff.ofBelow B12 hbw
      have hbw2 : base ≤ W2.heap.size := Nat.le_trans hbw E02.size
      have B02 := below_then B0 B0.size B12
      have hg2 := hg.below B12
      have hd2 := hd.below B12
      have ob2 : W2.heap[bx]? = some (.cells #[.slice A1 h.C.length c1, .slice A2 h.A.length c2] 25 (0, 0)) := blk_below ob Bn
      have J0 : MoJ base W2 g names done found k most (.slice Af found.length cf) (.int .i64 0) W2 := ⟨0, rfl, Nat.zero_le _, by simpa using hf.below B12, Eff.refl _ _⟩
      clear RS hf hg hd b0 b1 ob Bn B12
      go_wp2_with fail
      go_loopw [3, 13] (fun v3 v13 wr => MoJ base W2 g names done found k most v3 v13 wr) (fun _ v13 _ => names.length - (intOf v13).toNat)
      case atStart => exact J0
      case round =>
        clear J0
        obtain ⟨i, rfl, hi, hF, E⟩ := hrel
        have gr := Lo.eff (by decide) hg2 E
        have dr := Lo.eff (by decide) hd2 E
        have nr := Lo.eff (by decide) Hn E
        have obr := E.cells _ _ _ _ (by decide) ob2
        have b0 := cell_of_row wr bx 0 _ 25 (0, 0) obr
        have b1 := cell_of_row wr bx 1 _ 25 (0, 0) obr
        have gC : dD.C wr Ag g.length g := C_of_lo gr (by omega)
        have dC : dI.C wr Ad done.length done := C_of_lo dr (by have := hdk.out; omega)
        have nC : dI.C wr An names.length names := C_of_lo nr (by have := hrn.out; omega)
        by_cases hlt : i < names.length
        · obtain ⟨an, rfl, q0⟩ := CI_at nC i hlt
          have hE : ((names.take (i + 1)).filter (mayN g done)).flatMap (fun n => enum g names k (done ++ [n])) = ((names.take i).filter (mayN g done)).flatMap (fun n => enum g names k (done ++ [n])) ++ (if mayN g done names[i] = true then enum g names k (done ++ [names[i]]) else []) := by
            rw [List.take_succ_eq_append_getElem hlt, List.filter_append, List.flatMap_append]
            congr 1
            rw [List.filter_cons]
            split <;> simp
          have AT := at_calls Ad cd done names[i] wr dC (by have := hdk.out; omega)
          have FR := free_calls Ag cg g Ad cd done names[i] wr gC dC (by omega) (by have := hdk.out; omega)
          generalize names[i] = n at q0 hE AT FR
          have hil : (i : Int) < (names.length : Int) := by omega
          have keep : mayN g done n = false → ∀ v, FoundR wr base v (found ++ (((names.take i).filter (mayN g done)).flatMap fun n => enum g names k (done ++ [n])).take (most - found.length)) → MoJ base W2 g names done found k most v (.int .i64 ((i : Int) + 1)) wr := fun hm v hv => ⟨i + 1, by simp, by omega, by rw [hE, hm, if_neg (by decide), List.append_nil]; exact hv, E⟩
          have keep2 := fun hm => keep hm _ hF
          by_cases hd' : n ∈ done
          · have hm : mayN g done n = false := by unfold mayN; simp [hd']
            have hp := plc_nonneg.2 hd'
            have hpn : ¬ plc done n < 0 := by omega
            have K := keep2 hm
            generalize plc done n = pv at AT hp hpn
            clear keep keep2 hE FR hF gr dr nr gC dC nC hm
            replace hd' := Aside0.mk hd'
            replace K := Aside0.mk K
            go_wp2_with fail
            refine AT.mono ?_
            rintro e w' ⟨rfl, rfl⟩
            go_wp2
            refine ⟨K.out, ?_⟩
            simp [intOf]
            omega
          · have hp := plc_neg.2 hd'
            generalize plc done n = pv at AT hp
            cases hfr : freeB g done n with
            | false =>
              have hm : mayN g done n = false := by unfold mayN; rw [hfr]; simp
              have K := keep2 hm
              rw [hfr] at FR
              clear keep keep2 hE hF gr dr nr gC dC nC hm hfr
              replace hd' := Aside0.mk hd'
              replace K := Aside0.mk K
              go_wp2_with fail
              refine AT.mono ?_
              rintro e w' ⟨rfl, rfl⟩
              go_wp2_with fail
              refine FR.mono ?_
              rintro e w' ⟨rfl, rfl⟩
              go_wp2
              refine ⟨K.out, ?_⟩
              simp [intOf]
              omega
            | true =>
              have hm : mayN g done n = true := by unfold mayN; rw [hfr]; simp [hd']
              rw [hm, if_pos rfl] at hE
              rw [hfr] at FR
              have hbr : base ≤ wr.heap.size := Nat.le_trans hbw2 E.size
              obtain ⟨v5, w5, r5, R5, G5⟩ := appsI (Lo.nil wr wr.heap.size) Ad cd (Lo.src dr rfl) (by simp only [List.length_nil]; have := hdk.out; omega) (Nat.le_refl _)
              rw [List.nil_append] at R5
              have B5 : Below wr.heap.size wr w5 := (Below.refl _ wr).grown G5 (Nat.le_refl _) (by simp [Value.ownBlock])
              obtain ⟨v6, w6, r6, R6, G6⟩ := appI1 R5 n (by have := hdk.out; omega) B5.size
              have B6 : Below wr.heap.size wr w6 := B5.grown G6 B5.size R5.own
              have q5 := up_below B5 q0
              have ob6 := blk_below obr B6
              have c0 := cell_of_row w6 bx 0 _ 25 (0, 0) ob6
              have c1' := cell_of_row w6 bx 1 _ 25 (0, 0) ob6
              have E26 := E.trans (Eff.ofBelow B6 hbr)
              have B06 : Below w0.heap.size w0 w6 := B02.trans (E26.below.mono hb0)
              have IH := ih.out _ _ u3 _ _ (done ++ [n]) _ w6 B06 (Nat.le_trans hbw2 E26.size) (gr.below B6) R6 (hF.below B6) (by simp; have := hdk.out; omega) (by
                rw [List.length_append]
                have := List.length_take_le (most - found.length) (((names.take i).filter (mayN g done)).flatMap fun n => enum g names k (done ++ [n]))
                omega)
              rw [take_more, ← hE] at IH
              have fin : ∀ e w', MorePost base w6 (found ++ (((names.take (i + 1)).filter (mayN g done)).flatMap fun n => enum g names k (done ++ [n])).take (most - found.length)) e w' → ∃ v, e = .returned v ∧ MoJ base W2 g names done found k most v (.int .i64 ((i : Int) + 1)) w' := by
                rintro e w' ⟨v, rfl, h1, h2⟩
                exact ⟨v, rfl, i + 1, by simp, by omega, h1, E26.trans h2⟩
              clear keep keep2 hE hF gr dr nr gC dC nC hm hfr R5 R6 G5 G6 B5 B6 E26 B06 obr
              replace hd' := Aside0.mk hd'
              replace fin := Aside0.mk fin
              go_wp2_with fail
              refine AT.mono ?_
              rintro e w' ⟨rfl, rfl⟩
              go_wp2_with fail
              refine FR.mono ?_
              rintro e w' ⟨rfl, rfl⟩
              clear AT FR
              go_upto_region 14 with (at_builtin; refine app_list rfl rfl rfl rfl r5 ?_)
              clear r5
              go_upto_region 15 with (at_builtin; refine app_list rfl rfl rfl rfl r6 ?_)
              clear r6
              go_wp2_with fail
              refine IH.mono ?_
              intro e w' hpost
              obtain ⟨v, rfl, F⟩ := fin.out e w' hpost
              clear IH hpost
              replace F := Aside0.mk F
              go_wp2
              refine ⟨F.out, ?_⟩
              simp [intOf]
              omega
        · have hie : i = names.length := by omega
          have hgei : ¬ (i : Int) < (names.length : Int) := by omega
          rw [hie, List.take_length] at hF
          have F : MorePost base w (found ++ (enum g names (k + 1) done).take (most - found.length)) (.returned u3) wr := ⟨u3, rfl, hF, E02.trans E⟩
          replace hie := Aside0.mk hie
          clear hF gr dr nr gC dC nC
          replace F := Aside0.mk F
          go_wp2
          go_ret
          exact F.out
end Go.Proofs.YtedcnpaomphffaaGreat
namespace Go.Proofs.YtedcnpaomphffaaGreat
open Go.RowKit Go.Maps Go.Sort Go.Lib Go.Proofs.YtedcnpaomphffaaGreatW.PrintWords Go.Proofs.YtedcnpaomphffaaGreatW.PrintLast Go.Proofs.YtedcnpaomphffaaGreatW.PrintMore
set_option linter.unusedVariables false
set_option linter.unusedSimpArgs false
set_option linter.unusedSectionVars false
/-! ### the document's Orders -/
def ordsP (g : List Dp) (names : List Int) (n most : Nat) : List (List Int) := if (greedy g names n []).isSome = true then (enum g names n []).take most else []
def OrdsPost (w : World) (L : List (List Int)) (e : Ending) (w' : World) : Prop := ∃ v, e = .returned v ∧ FoundR w' w.heap.size v L ∧ Below w.heap.size w w'
set_option maxHeartbeats 8000000 in
set_option maxRecDepth 100000 in
theorem ROrders_calls (z : HV) (most : Nat) (hmost : most ≤ 1000) (w : World) (hz : z.OK w) (hok : OkH z.h) :
    Calls Tryz.prog 18 #[mkH z, .int .i64 (most : Int)] w fun e w' => OrdsPost w (ordsP (graphP z.h) (rise z.h.C) z.h.C.length most) e w' := by
  obtain ⟨A1, c1, A2, c2, h⟩ := z
  obtain ⟨w1, hw1, B1, hz1, b0, b1⟩ := hv_box _ w hz
  obtain ⟨bx, hbx⟩ : ∃ bx, bx = w.heap.size := ⟨_, rfl⟩
  have RO := ROrder_calls _ w1 hz1 hok.la hok.nd hok.lc hok.pos
  have RG := fun W (B : Below w1.heap.size w1 W) => RGraph_calls _ W (hz1.below B) hok.la
  have MO := fun W vg bg (B : Below w1.heap.size w1 W) hg => more_calls _ w1 hz1 hok W.heap.size B.size most hmost h.C.length vg (.slice none 0 0) (.slice none 0 0) 0 bg [] [] W B (Nat.le_refl _) hg (Lo.nil _ _) (FoundR.nil _ _) (by simp) (by simp)
  dsimp only [mkH] at hw1 b0 b1 RO RG MO ⊢
  clear hz hz1
  unfold ordsP
  generalize hgr : greedy (graphP h) (rise h.C) h.C.length [] = gr at RO
  replace hgr := Aside0.mk hgr
  go_enter Tryz.func18, Tryz.ntmps18
  go_upto_region 1 with (fail)
  rw [← hw1, ← hbx]
  rw [← hbx] at b0 b1
  clear hw1
  replace hbx := Aside0.mk hbx
  replace hok := Aside0.mk hok
  go_wp2_with fail
  refine RO.mono ?_
  rintro e W2 (⟨v, L, rfl, rfl, hrow, B2⟩ | ⟨rfl, rfl, B2⟩)
  · have RG2 := RG W2.drew (B2.trans ((Below.refl _ W2).grown (drewG W2) B2.size (by simp)))
    have d0 := up_below B2 b0
    have d1 := up_below B2 b1
    have BD := drewB W2 1
    have MO2 := fun W vg bg (B : Below W2.heap.size W2 W) hg => MO W vg bg (below_then B2 B2.size B) hg
    clear RO RG MO b0 b1 hrow
    replace MO2 := Aside0.mk MO2
    go_wp2_with fail
    go_region_held3 (fun V => V.cell? ⟨bx, 0, none⟩ = some (.slice A1 h.C.length c1) ∧ V.cell? ⟨bx, 1, none⟩ = some (.slice A2 h.A.length c2))
      (first | exact ⟨d0, d1⟩ | exact ⟨K9 _ _ d0, K9 _ _ d1⟩ | exact ⟨K8 _ _ d0, K8 _ _ d1⟩)
      (first
        | (go_at_call 45; have M3 := MO2.out _ _ _ (below_then BD BD.size Bg) Hg; refine M3.mono ?_; rintro e W4 ⟨vo, rfl, HF, EF⟩; have K8 : ∀ q v, W2.cell? q = some v → W4.cell? q = some v := fun q v hv => ((below_then (below_then BD BD.size Bg) (below_then BD BD.size Bg).size EF.below).cell (World.block_lt_of_cell? _ _ hv)).trans hv)
        | (go_at_call 13; refine RG2.mono ?_; rintro e W3 ⟨vg, rfl, Hg, Bg⟩; have K9 : ∀ q v, W2.cell? q = some v → W3.cell? q = some v := fun q v hv => (Bg.cell (World.block_lt_of_cell? _ _ hv)).trans hv))
    have BB := below_then B1 B1.size (below_then B2 B2.size (below_then (below_then BD BD.size Bg) (below_then BD BD.size Bg).size EF.below))
    have hsz : w.heap.size ≤ W3.heap.size := (below_then B1 B1.size (below_then B2 B2.size (below_then BD BD.size Bg))).size
    rw [List.nil_append] at HF
    have HF2 : FoundR W4 W3.heap.size vo ((enum (graphP h) (rise h.C) h.C.length []).take most) := HF
    clear HF
    obtain ⟨Ao, co, rfl⟩ := HF2.slice
    simp only [List.length_take] at HF2
    have HF := Aside0.mk HF2
    clear HF2
    go_wp2
    go_ret
    exact ⟨_, rfl, HF.out.lower hsz, BB⟩
  · clear RO RG MO
    go_wp2
    go_ret
    exact ⟨.slice none 0 0, rfl, FoundR.nil _ _, below_then B1 B1.size B2⟩
end Go.Proofs.YtedcnpaomphffaaGreat
