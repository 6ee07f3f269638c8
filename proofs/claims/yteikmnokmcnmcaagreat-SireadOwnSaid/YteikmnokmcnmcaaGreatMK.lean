import Derived.Test.YteikmnokmcnmcaaGreatMJ
namespace Go.Proofs.YteikmnokmcnmcaaGreat
open Go.RowKit Go.Maps Go.Sort Go.Lib Go.Proofs.YteikmnokmcnmcaaGreatW.PrintWords Go.Proofs.YteikmnokmcnmcaaGreatW.PrintLast Go.Proofs.YteikmnokmcnmcaaGreatW.PrintMore
set_option linter.unusedVariables false
set_option linter.unusedSimpArgs false
set_option linter.unusedSectionVars false
/-! ### SireadPlays -/
theorem far_of_grown {W W' : World} {p : Nat} (hg : W.grownBy W' (some p)) : ∀ k c e s, k ≠ p → W.heap[k]? = some (.cells c e s) → W'.heap[k]? = some (.cells c e s) :=
  fun k c e s hk hw => (hg.block k (Array.getElem?_eq_some_iff.1 hw).1 (by simpa using hk)).trans hw
theorem RM.far2 {w w' : World} {base q p : Nat} {most : Int} {N : List Nt} (h : RM w base q most N) (hq : q ≠ p) (hp : ∃ c s, w.heap[p]? = some (.cells c 57 s)) (hb : ∀ k c e s, k ≠ p → w.heap[k]? = some (.cells c e s) → w'.heap[k]? = some (.cells c e s)) : RM w' base q most N := by
  obtain ⟨v, h1, h2⟩ := h.cells
  refine ⟨v, hb q _ _ _ hq h1, ?_⟩
  have h2' := h2
  obtain ⟨h0, inner, ho, hr⟩ := h2
  refine ⟨h0, inner, own_move ho (fun k hk => ?_), hr⟩
  obtain ⟨_, _, cells, hc⟩ := flat_typed h2' k hk
  refine (hb k _ _ _ (fun e => ?_) hc).trans hc.symm
  subst e
  obtain ⟨c, s, hp⟩ := hp
  rw [hp] at hc
  injection hc with hc
  injection hc with _ hc
  cases hc
theorem RM.is26 {w : World} {base q : Nat} {most : Int} {N : List Nt} (h : RM w base q most N) : ∃ c s, w.heap[q]? = some (.cells c 26 s) := by
  obtain ⟨u, hc, _⟩ := h.cells
  exact ⟨_, _, hc⟩
def PJ1 (w : World) (p q : Nat) (most : Int) (n : Nat) (vi : Value) (wr : World) : Prop := ∃ (i : Nat) (S : St) (N : List Nt), vi = .int .i64 (i : Int) ∧ i ≤ n ∧ Both wr w.heap.size p q most S N ∧ Below w.heap.size w wr
def PJ2 (w : World) (p q : Nat) (most : Int) (S : St) (N : List Nt) (b : Nat) (v : Value) (rs : List Int) (vi : Value) (wr : World) : Prop := ∃ i : Nat, vi = .int .i64 (i : Int) ∧ i ≤ rs.length ∧ Both wr w.heap.size p q most S N ∧ RowI wr b v rs ∧ Below w.heap.size w wr
set_option maxHeartbeats 16000000 in
set_option maxRecDepth 100000 in
theorem SireadPlays_calls (most : Int) (z : Scr) (w : World) (hz : z.OK w) :
    Calls Tryz.prog 4 #[.int .i64 most, z.val] w fun e w' => e = .returned (.bool true) ∧ Below w.heap.size w w' := by
  obtain ⟨A, c, xs⟩ := z
  obtain ⟨hC, hx, hxl⟩ := hz
  unfold Scr.val
  dsimp only at hC hx hxl ⊢
  have hrb : reachBytes = 140737488351232 := rfl
  have LV := fun W => live_calls W
  by_cases hin : 1 ≤ most ∧ most ≤ 65536
  · have BG := begun_S most w.heap.size w (Nat.le_refl _) hin.1 hin.2
    go_enter Tryz.func4, Tryz.ntmps4
    go_wp2_with fail
    refine BG.mono ?_
    rintro e w1 ⟨p, rfl, M1, B1⟩
    obtain ⟨W2, hW2⟩ : ∃ W2, W2 = w1.alloc (.cells #[.int .i64 most, .slice none 0 0] 26) := ⟨_, rfl⟩
    have B2 : Below w1.heap.size w1 W2 := by rw [hW2]; exact (Below.refl _ w1).alloc (Nat.le_refl _) _
    have oq : W2.heap[w1.heap.size]? = some (.cells #[.int .i64 most, .slice none 0 0] 26 (0, 0)) := by rw [hW2]; exact heap_alloc_new w1 _
    obtain ⟨q, hq⟩ : ∃ q, q = w1.heap.size := ⟨_, rfl⟩
    have hqlow : w.heap.size ≤ q := by rw [hq]; exact B1.size
    have hpq : p ≠ q := by have := M1.lt; omega
    have B12 := below_then B1 B1.size B2
    have M2 := M1.kept (grown_of_below B2 none)
    have E2 : Both W2 w.heap.size p q most St0 [] := ⟨M2, ⟨_, hq ▸ oq, Kd.R_nil _ _ _ _ _⟩, Rel.empty, hpq, _, _, hq ▸ oq⟩
    have LV2 := LV W2
    clear LV BG hin M2 oq
    go_upto_region 2 with (fail)
    rw [← hW2, ← hq]
    clear hW2 hq
    go_wp2_with fail
    refine LV2.mono ?_
    rintro e W3 ⟨rfl, B3⟩
    have hJ0 : PJ1 w p q most xs.length (.int .i64 0) W3 := ⟨0, St0, [], rfl, Nat.zero_le _, E2.below B3, below_then B12 B12.size B3⟩
    have hn := hC.2.1
    have hplow : w.heap.size ≤ p := M1.low
    clear M1 B1 B2 B12 B3 LV2 E2
    replace hC := Aside0.mk hC
    replace hx := Aside0.mk hx
    replace hrb := Aside0.mk hrb
    go_wp2_with fail
    go_loopw [34] (fun vi wr => PJ1 w p q most xs.length vi wr) (fun vi _ => xs.length - (intOf vi).toNat)
    case atStart => exact hJ0
    case round =>
      clear hJ0
      obtain ⟨i, S, N, rfl, hi, E, B⟩ := hrel
      have C := Kd.C_below hC.out B
      by_cases hlt : i < xs.length
      · obtain ⟨ad, rfl, q0, q1, q2, q3, q4, q5, q6⟩ := op_at C i hlt
        have hxo := hx.out _ (List.getElem_mem hlt)
        generalize xs[i] = o at q0 q1 q2 q3 q4 q5 q6 hxo
        obtain ⟨W4, hW4⟩ : ∃ W4, W4 = wr.alloc (.cells #[.int .i64 o.kind, .int .i64 o.txn, .string o.x.t, .int .i64 o.x.k, .string o.x.f, .string o.x.u, .string o.key] 33) := ⟨_, rfl⟩
        have B4 : Below wr.heap.size wr W4 := by rw [hW4]; exact (Below.refl _ wr).alloc (Nat.le_refl _) _
        have ob4 : W4.heap[wr.heap.size]? = some (boxO o) := by rw [hW4]; exact heap_alloc_new wr _
        obtain ⟨bx, hbx⟩ : ∃ bx, bx = wr.heap.size := ⟨_, rfl⟩
        have E4 := E.below B4
        have B14 := below_then B B.size B4
        go_upto_region 7 with (fail)
        rw [← hW4, ← hbx]
        have hpb : bx ≠ p := by have := E.m.lt; omega
        have hqb : bx ≠ q := by have := E.d.lt; omega
        rw [← hbx] at ob4
        clear hW4 q0 q1 q2 q3 q4 q5 q6 B4 hbx E C B
        obtain ⟨r0, r1, r2, r3, r4, r5, r6⟩ := op_cells ob4
        have hNl := E4.len
        have ob5 : ∀ n W5, (W4.drewN n).grownBy W5 (some p) → W5.heap[bx]? = some (boxO o) := fun n W5 G => far_of_grown G bx _ _ _ hpb ob4
        by_cases k0 : o.kind = 0
        · have e0 : (o.kind == 0) = true := by simpa using k0
          have N1 := fun n => Note_S w.heap.size p most S o.txn o.x (W4.drewN n) (E4.m.kept (drewNG W4 n)) hxo.x hxo.txn
          have N2 := fun n W5 (G : (W4.drewN n).grownBy W5 (some p)) => RNote_calls w.heap.size q most S N o.txn o.x W5 ((E4.d.below (drewB W4 n)).far2 (fun e => hpq e.symm) (E4.m.kept (drewNG W4 n)).is55 (far_of_grown G)) E4.m.inv E4.rel E4.m.le E4.m.top E4.m.bot hxo.x (Nat.le_trans B14.size G.size)
          have fin : ∀ n W5 W6 N', MrS W5 w.heap.size p most (noteP S most o.txn o.x).2 → (W4.drewN n).grownBy W5 (some p) → RM W6 w.heap.size q most N' → Rel (noteP S most o.txn o.x).2 N' → W5.grownBy W6 (some q) → PJ1 w p q most xs.length (.int .i64 ((i : Int) + 1)) W6 := by
            intro n W5 W6 N' M5 G5 D6 R6 G6
            have d5 := (E4.d.below (drewB W4 n)).far2 (fun e => hpq e.symm) (E4.m.kept (drewNG W4 n)).is55 (far_of_grown G5)
            have Bd := below_then B14 B14.size (drewB W4 n)
            have B5 : Below w.heap.size w W5 := Bd.grown G5 Bd.size (fun k hk => by injection hk with hk; omega)
            have B6 : Below w.heap.size w W6 := B5.grown G6 B5.size (fun k hk => by injection hk with hk; omega)
            exact ⟨i + 1, _, N', by simp, by omega, ⟨M5.far G6 d5.is26 (by decide) hpq, D6, R6, hpq, D6.is26⟩, B6⟩
          unfold RNotePost at N2
          generalize noteP S most o.txn o.x = nt at N1 N2 fin
          obtain ⟨code, S'⟩ := nt
          dsimp only at N1 N2 fin
          replace k0 := Aside0.mk k0
          replace fin := Aside0.mk fin
          clear ob4 E4
          go_wp2_with fail
          go_region_held3 (fun V => V.cell? ⟨bx, 1, none⟩ = some (.int .i64 o.txn) ∧ V.cell? ⟨bx, 2, none⟩ = some (.string o.x.t) ∧ V.cell? ⟨bx, 3, none⟩ = some (.int .i64 o.x.k) ∧ V.cell? ⟨bx, 4, none⟩ = some (.string o.x.f) ∧ V.cell? ⟨bx, 5, none⟩ = some (.string o.x.u))
            (first | exact ⟨r1, r2, r3, r4, r5⟩ | exact ⟨t1, t2, t3, t4, t5⟩ | exact ⟨v1, v2, v3, v4, v5⟩)
            (first
              | (go_at_call 8; refine (N2 _ _ G5).mono ?_; rintro e W6 ⟨N', rfl, D6, R6, G6⟩; obtain ⟨v0, v1, v2, v3, v4, v5, v6⟩ := op_cells (far_of_grown G6 bx _ _ _ hqb (ob5 _ _ G5)))
              | (go_at_call 7; refine (N1 _).mono ?_; rintro e W5 ⟨rfl, M5, G5⟩; obtain ⟨t0, t1, t2, t3, t4, t5, t6⟩ := op_cells (ob5 _ _ G5)))
          have F := fin.out _ _ _ _ M5 G5 D6 R6 G6
          clear M5 G5 D6 R6 G6
          replace F := Aside0.mk F
          go_wp2
          refine ⟨F.out, ?_⟩
          simp [intOf]
          omega
        by_cases k1 : o.kind = 1
        · have e0 : (o.kind == 0) = false := by simpa using k0
          have e1 : (o.kind == 1) = true := by simpa using k1
          have ob5' : ∀ n W5, But w.heap.size p (W4.drewN n) W5 → W5.heap[bx]? = some (boxO o) := fun n W5 G => G.cells bx _ _ _ hpb ob4
          have N1 := fun n => Drop_S w.heap.size p most S o.txn (W4.drewN n) (E4.m.kept (drewNG W4 n))
          have N2 := fun n W5 (G : But w.heap.size p (W4.drewN n) W5) => RDrop_calls w.heap.size q most N o.txn W5 ((E4.d.below (drewB W4 n)).far2 (fun e => hpq e.symm) (E4.m.kept (drewNG W4 n)).is55 G.cells) hNl (Nat.le_trans B14.size G.size)
          have RD := E4.rel.drop E4.m.inv o.txn
          rw [RD.1] at N2
          have fin : ∀ n W5 W6, MrS W5 w.heap.size p most (dropP S o.txn).2 → But w.heap.size p (W4.drewN n) W5 → RM W6 w.heap.size q most (dropN N o.txn).2 → W5.grownBy W6 (some q) → PJ1 w p q most xs.length (.int .i64 ((i : Int) + 1)) W6 := by
            intro n W5 W6 M5 G5 D6 G6
            have d5 := (E4.d.below (drewB W4 n)).far2 (fun e => hpq e.symm) (E4.m.kept (drewNG W4 n)).is55 G5.cells
            have Bd := below_then B14 B14.size (drewB W4 n)
            have B5 : Below w.heap.size w W5 := ⟨G5.below.os.trans Bd.os, G5.below.tape.trans Bd.tape, G5.below.output.trans Bd.output, Nat.le_trans Bd.size G5.size, fun k hk => (G5.below.block k hk).trans (Bd.block k hk)⟩
            have B6 : Below w.heap.size w W6 := B5.grown G6 B5.size (fun k hk => by injection hk with hk; omega)
            exact ⟨i + 1, _, _, by simp, by omega, ⟨M5.far G6 d5.is26 (by decide) hpq, D6, RD.2, hpq, D6.is26⟩, B6⟩
          replace k0 := Aside0.mk k0
          replace k1 := Aside0.mk k1
          replace fin := Aside0.mk fin
          replace RD := Aside0.mk RD
          clear ob4 E4
          go_wp2_with fail
          go_region_held3 (fun V => V.cell? ⟨bx, 1, none⟩ = some (.int .i64 o.txn)) (first | exact r1 | exact t1 | exact v1)
            (first
              | (go_at_call 15; refine (N2 _ _ G5).mono ?_; rintro e W6 ⟨rfl, D6, G6⟩; obtain ⟨v0, v1, v2, v3, v4, v5, v6⟩ := op_cells (far_of_grown G6 bx _ _ _ hqb (ob5' _ _ G5)))
              | (go_at_call 14; refine (N1 _).mono ?_; rintro e W5 ⟨rfl, M5, G5⟩; obtain ⟨t0, t1, t2, t3, t4, t5, t6⟩ := op_cells (ob5' _ _ G5)))
          have F := fin.out _ _ _ M5 G5 D6 G6
          clear M5 G5 D6 G6
          replace F := Aside0.mk F
          go_wp2
          refine ⟨F.out, ?_⟩
          simp [intOf]
          omega
        · have e0 : (o.kind == 0) = false := by simpa using k0
          have e1 : (o.kind == 1) = false := by simpa using k1
          have AS := asks_calls w.heap.size p q most S N o W4 E4
          have fin : ∀ W, Below W4.heap.size W4 W → PJ1 w p q most xs.length (.int .i64 ((i : Int) + 1)) W := fun W BW => ⟨i + 1, S, N, by simp, by omega, E4.below BW, below_then B14 B14.size BW⟩
          replace k0 := Aside0.mk k0
          replace k1 := Aside0.mk k1
          replace fin := Aside0.mk fin
          clear ob4 E4
          go_wp2_with fail
          refine AS.mono ?_
          rintro e W5 ⟨rfl, B5⟩
          have F := fin.out W5 B5
          replace F := Aside0.mk F
          go_wp2
          refine ⟨F.out, ?_⟩
          simp [intOf]
          omega
      · have hge : ¬ (i : Int) < (xs.length : Int) := by omega
        have hie : i = xs.length := by omega
        replace hie := Aside0.mk hie
        have TX := RTxns_S w.heap.size q most S N wr E.d E.len E.m.inv E.rel
        have hrl : (rise (S.K.map (·.1))).length ≤ 65536 := by
          have h5 := rise_length (S.K.map (·.1))
          rw [List.length_map] at h5
          have := E.m.inv.card
          have := E.m.le
          have := E.m.top
          omega
        generalize rise (S.K.map (·.1)) = rs at TX hrl
        clear C
        replace E := Aside0.mk E
        go_wp2_with fail
        refine TX.mono ?_
        rintro e W5 ⟨v, rfl, Hv, B5⟩
        have hrow := Lo.ofR Hv
        obtain ⟨Av, cv, rfl, hlv, hAv⟩ := hrow.slice
        have J2 : PJ2 w p q most S N wr.heap.size (.slice Av rs.length cv) rs (.int .i64 0) W5 := ⟨0, rfl, Nat.zero_le _, E.out.below B5, hrow, below_then B B.size B5⟩
        clear Hv hrow TX E B B5
        go_wp2_with fail
        go_loopw [72] (fun vi W => PJ2 w p q most S N wr.heap.size (.slice Av rs.length cv) rs vi W) (fun vi _ => rs.length - (intOf vi).toNat)
        case atStart => exact J2
        case round =>
          clear J2
          obtain ⟨j, rfl, hj, E, hrow, B⟩ := hrel
          by_cases hjl : j < rs.length
          · obtain ⟨g, rfl, _⟩ := hAv (by omega)
            have y0 := RowI.at hrow j rs[j] (List.getElem?_eq_getElem hjl)
            generalize rs[j] = y at y0
            have AS := asks_calls w.heap.size p q most S N ⟨3, y, ⟨⟨#[]⟩, 0, ⟨#[]⟩, ⟨#[]⟩⟩, ⟨#[]⟩⟩ wr E
            have fin : ∀ W, Below wr.heap.size wr W → PJ2 w p q most S N _ (.slice (some ⟨g, 0, none⟩) rs.length cv) rs (.int .i64 ((j : Int) + 1)) W := fun W BW => ⟨j + 1, by simp, by omega, E.below BW, hrow.grown (grown_of_below BW none) (by simp), below_then B B.size BW⟩
            clear hrow E
            replace fin := Aside0.mk fin
            go_wp2_with fail
            refine AS.mono ?_
            rintro e W6 ⟨rfl, B6⟩
            have F := fin.out W6 B6
            replace F := Aside0.mk F
            go_wp2
            refine ⟨F.out, ?_⟩
            simp [intOf]
            omega
          · have hge : ¬ (j : Int) < (rs.length : Int) := by omega
            have hje : j = rs.length := by omega
            replace hje := Aside0.mk hje
            have AS := asks_calls w.heap.size p q most S N ⟨4, 0, ⟨⟨#[]⟩, 0, ⟨#[]⟩, ⟨#[]⟩⟩, ⟨#[]⟩⟩ wr E
            have AS2 := fun W (BW : Below wr.heap.size wr W) => asks_calls w.heap.size p q most S N ⟨5, 0, ⟨⟨#[]⟩, 0, ⟨#[]⟩, ⟨#[]⟩⟩, ⟨#[]⟩⟩ W (E.below BW)
            clear hrow E
            go_wp2_with fail
            refine AS.mono ?_
            rintro e W6 ⟨rfl, B6⟩
            have AS3 := AS2 W6 B6
            clear AS2
            go_wp2_with fail
            refine AS3.mono ?_
            rintro e W7 ⟨rfl, B7⟩
            go_wp2
            go_ret
            have B8 := below_then B B.size B6
            exact ⟨rfl, below_then B8 B8.size B7⟩
  · have BG := begun_bad most w (by omega)
    go_enter Tryz.func4, Tryz.ntmps4
    go_wp2_with fail
    refine BG.mono ?_
    rintro e w1 ⟨rfl, B1⟩
    obtain ⟨W2, hW2⟩ : ∃ W2, W2 = w1.alloc (.cells #[.int .i64 most, .slice none 0 0] 26) := ⟨_, rfl⟩
    have B2 : Below w1.heap.size w1 W2 := by rw [hW2]; exact (Below.refl _ w1).alloc (Nat.le_refl _) _
    have B12 := below_then B1 B1.size B2
    have LV2 := LV W2
    clear LV BG
    go_upto_region 2 with (fail)
    rw [← hW2]
    clear hW2
    go_wp2_with fail
    refine LV2.mono ?_
    rintro e W3 ⟨rfl, B3⟩
    go_wp2
    go_ret
    exact ⟨rfl, below_then B12 B12.size B3⟩
end Go.Proofs.YteikmnokmcnmcaaGreat
