import Derived.Test.YtedcnpaomphffaaMR
import Derived.Test.YtedcnpaomphffaaMQ
namespace Go.Proofs.Ytedcnpaomphffaa
open Go.RowKit Go.Maps Go.Sort Go.Lib Go.Shelf Go.Proofs.YtedcnpaomphffaaW.PrintWords Go.Proofs.YtedcnpaomphffaaW.PrintLast Go.Proofs.YtedcnpaomphffaaW.PrintMore
set_option linter.unusedVariables false
set_option linter.unusedSimpArgs false
set_option linter.unusedSectionVars false
/-! ### SerialDangers, SerialReplays -/
theorem ordO_ok {h : Hs} (hok : OkH h) : ordO h = greedy (graphP h) (rise h.C) (rise h.C).length [] := if_pos hok
set_option maxHeartbeats 8000000 in
set_option maxRecDepth 100000 in
theorem SerialDangers_calls (z : HV) (w : World) (hz : z.OK w) : Calls Try.prog 3 #[mkH z] w fun e w' => e = .returned (.bool true) ∧ Below w.heap.size w w' := by
  obtain ⟨w1, hw1, B1, hz1, b0, b1⟩ := hv_box z w hz
  obtain ⟨bx, hbx⟩ : ∃ bx, bx = w.heap.size := ⟨_, rfl⟩
  have LV := fun W => live_calls W
  have CK := fun W (B : Below w1.heap.size w1 W) => RCheck_calls z W (hz1.below B)
  have SP := fun W (B : Below w1.heap.size w1 W) => Snapshots_calls z W (hz1.below B)
  have OR := fun W (B : Below w1.heap.size w1 W) => Order_calls z W (hz1.below B)
  have RO := fun W (B : Below w1.heap.size w1 W) => Round_calls z W (hz1.below B)
  have PV := fun W (B : Below w1.heap.size w1 W) => Pivots_calls z W (hz1.below B)
  have TW := fun W (B : Below w1.heap.size w1 W) hA Ao co L ho hl => Two_calls z Ao co L W (hz1.below B) hA ho hl
  have HELD : ∀ W, Below w1.heap.size w1 W → W.cell? ⟨bx, 0, none⟩ = some (.slice z.A1 z.h.C.length z.c1) ∧ W.cell? ⟨bx, 1, none⟩ = some (.slice z.A2 z.h.A.length z.c2) := fun W B => by
    rw [hbx]
    exact ⟨(B.cell (World.block_lt_of_cell? _ _ b0)).trans b0, (B.cell (World.block_lt_of_cell? _ _ b1)).trans b1⟩
  have BW : ∀ W, Below w1.heap.size w1 W → Below w.heap.size w W := fun W B => below_then B1 B1.size B
  obtain ⟨A1, c1, A2, c2, h⟩ := z
  dsimp only [mkH] at *
  clear hz hz1
  have L1 := LV w1
  replace BW := Aside0.mk BW
  replace LV := Aside0.mk LV
  replace HELD := Aside0.mk HELD
  replace CK := Aside0.mk CK
  replace SP := Aside0.mk SP
  replace OR := Aside0.mk OR
  replace RO := Aside0.mk RO
  replace PV := Aside0.mk PV
  replace TW := Aside0.mk TW
  go_enter Try.func3, Try.ntmps3
  go_upto_region 1 with (fail)
  rw [← hw1, ← hbx]
  rw [← hbx] at b0 b1
  clear hw1
  replace hbx := Aside0.mk hbx
  go_wp2_with fail
  refine L1.mono ?_
  rintro e w2 ⟨rfl, B2⟩
  clear L1 b0 b1
  obtain ⟨b02, b12⟩ := HELD.out w2 B2
  have C2 := CK.out w2 B2
  clear CK
  by_cases hok : OkH h
  · have e0 := chk_ok hok
    rw [e0] at C2
    go_wp2_with fail
    refine C2.mono ?_
    rintro e w3 ⟨rfl, B3⟩
    have C3 := below_then B2 B2.size B3
    obtain ⟨b03, b13⟩ := HELD.out w3 C3
    have S3 := SP.out w3 C3
    unfold SsPost at S3
    clear C2 B2 B3 b02 b12 SP
    have hla := hok.la
    have hlc := hok.lc
    replace hok := Aside0.mk hok
    go_wp2_with fail
    refine S3.mono ?_
    rintro e w4 ⟨sb, rfl, hsb, B4⟩
    have C4 := below_then C3 C3.size B4
    obtain ⟨b04, b14⟩ := HELD.out w4 C4
    clear S3 b03 b13 B4
    cases sb with
    | false =>
      have L4 := LV.out w4
      clear hsb OR RO PV TW
      go_wp2_with fail
      refine L4.mono ?_
      rintro e w5 ⟨rfl, B5⟩
      have K := Aside0.mk (BW.out _ (below_then C4 C4.size B5))
      clear L4 B5 C4 C3 BW HELD b04 b14
      go_wp2
      go_ret
      exact ⟨rfl, K.out⟩
    | true =>
      have hsn := hsb rfl
      have O4 := OR.out w4 C4
      unfold OPost at O4
      rw [e0] at O4
      clear hsb OR
      replace hsn := Aside0.mk hsn
      go_wp2_with fail
      refine O4.mono ?_
      rintro e w5 ⟨v5, rfl, _, B5⟩
      have C5 := below_then C4 C4.size B5
      obtain ⟨b05, b15⟩ := HELD.out w5 C5
      have R5 := RO.out w5 C5
      unfold RoPost at R5
      rw [e0] at R5
      clear O4 b04 b14 B5 RO
      have hoo := ordO_ok hok.out
      cases his : (ordO h).isSome with
      | true =>
        go_wp2_with fail
        refine R5.mono ?_
        rintro e w6 ⟨v6, L6, rfl, hR6, B6, _, _⟩
        have C6 := below_then C5 C5.size B6
        obtain ⟨b06, b16⟩ := HELD.out w6 C6
        have P6 := PV.out w6 C6
        unfold PvPost at P6
        rw [e0] at P6
        clear R5 b05 b15 B6 PV hR6 TW
        go_wp2_with fail
        refine P6.mono ?_
        rintro e w7 ⟨v7, L7, rfl, hR7, B7, _, _⟩
        have K := Aside0.mk (BW.out _ (below_then C6 C6.size B7))
        clear P6 B7 C6 C5 C4 C3 BW HELD b06 b16 hR7 his hoo
        go_wp2
        go_ret
        exact ⟨rfl, K.out⟩
      | false =>
        rw [hoo] at his
        go_wp2_with fail
        refine R5.mono ?_
        rintro e w6 ⟨v6, L6, rfl, hR6, B6, _, hL6⟩
        have hR := hL6 hok.out
        have hlen := round_long (fun d hd => ⟨(graph_ends hok.out d hd).1, (graph_ends hok.out d hd).2, (deps_ends hok.out (mem_graph.1 hd)).2.2⟩) (rise_nodup h.C) hR his
        have htwo := round_two hok.out hsn.out hR hlen
        have hl6 : L6.length ≤ 65536 := by have := round_short hR; rw [rise_nodup_len hok.out.nd] at this; omega
        have C6 := below_then C5 C5.size B6
        obtain ⟨b06, b16⟩ := HELD.out w6 C6
        have P6 := PV.out w6 C6
        unfold PvPost at P6
        rw [e0] at P6
        obtain ⟨A6, c6, rfl, hI6⟩ := RowI_AC hR6 (by omega)
        clear R5 b05 b15 B6 PV hR6 hL6 hR his hoo
        replace htwo := Aside0.mk htwo
        go_wp2_with fail
        refine P6.mono ?_
        rintro e w7 ⟨v7, L7, rfl, hR7, B7, _, hL7⟩
        have hL7 := hL7 hok.out
        have hne : L7 ≠ [] := by
          obtain ⟨i, hi, ht⟩ := htwo.out
          rw [hL7]
          exact two_pivot hok.out ht
        have hpos : 0 < L7.length := List.length_pos_iff.2 hne
        obtain ⟨A7, c7, rfl, hI7⟩ := RI_C hR7
        have C7 := below_then C6 C6.size B7
        obtain ⟨b07, b17⟩ := HELD.out w7 C7
        have T7 := TW.out w7 C7 hla A6 c6 L6 (Kd.C_below hI6 B7) hl6
        unfold TwPost at T7
        have hlen' : (2 : Int) ≤ (L6.length : Int) := by omega
        have hpos' : (0 : Int) < (L7.length : Int) := by omega
        clear P6 B7 hL7 hne hI7 hI6 b06 b16 hR7 TW hlen
        replace hpos := Aside0.mk hpos
        go_wp2_with fail
        refine T7.mono ?_
        rintro e w8 ⟨tb, rfl, htb, B8⟩
        obtain rfl := htb htwo.out
        have K := Aside0.mk (BW.out _ (below_then C7 C7.size B8))
        clear T7 B8 C7 C6 C5 C4 C3 BW HELD b07 b17 htb
        go_wp2
        go_ret
        exact ⟨by simp only [decide_eq_true hpos.out]; rfl, K.out⟩
  · rw [chk_no hok] at C2
    replace hok := Aside0.mk hok
    clear SP OR RO PV TW
    go_wp2_with fail
    refine C2.mono ?_
    rintro e w3 ⟨rfl, B3⟩
    have C3 := below_then B2 B2.size B3
    have L3 := LV.out w3
    clear C2 B2 B3 b02 b12
    go_wp2_with fail
    refine L3.mono ?_
    rintro e w5 ⟨rfl, B5⟩
    have K := Aside0.mk (BW.out _ (below_then C3 C3.size B5))
    clear L3 B5 C3 BW HELD
    go_wp2
    go_ret
    exact ⟨rfl, K.out⟩
end Go.Proofs.Ytedcnpaomphffaa
namespace Go.Proofs.Ytedcnpaomphffaa
open Go.RowKit Go.Maps Go.Sort Go.Lib Go.Shelf Go.Proofs.YtedcnpaomphffaaW.PrintWords Go.Proofs.YtedcnpaomphffaaW.PrintLast Go.Proofs.YtedcnpaomphffaaW.PrintMore
set_option linter.unusedVariables false
set_option linter.unusedSimpArgs false
set_option linter.unusedSectionVars false
/-! SerialReplays -/
def RplJ (w : World) (R : List Int) (v : Value) (wr : World) : Prop := ∃ i : Nat, v = .int .i64 (i : Int) ∧ i ≤ R.length ∧ Below w.heap.size w wr
set_option maxHeartbeats 16000000 in
set_option maxRecDepth 100000 in
theorem SerialReplays_calls (z : HV) (w : World) (hz : z.OK w) : Calls Try.prog 4 #[mkH z] w fun e w' => e = .returned (.bool true) ∧ Below w.heap.size w w' := by
  obtain ⟨w1, hw1, B1, hz1, b0, b1⟩ := hv_box z w hz
  obtain ⟨bx, hbx⟩ : ∃ bx, bx = w.heap.size := ⟨_, rfl⟩
  have LV := fun W => live_calls W
  have CK := fun W (B : Below w1.heap.size w1 W) => RCheck_calls z W (hz1.below B)
  have OR := Order_calls z w1 hz1
  have RO := fun W (B : Below w1.heap.size w1 W) => Round_calls z W (hz1.below B)
  have GR := fun W (B : Below w1.heap.size w1 W) => Graph_calls z W (hz1.below B)
  have OD := fun W (B : Below w1.heap.size w1 W) Ao co L ho hl => ROrdered_calls z Ao co L W (hz1.below B) ho hl
  have LA := fun W (B : Below w1.heap.size w1 W) Ao co L t it ho hl ht => last_calls z Ao co L t it W (hz1.below B) ho hl ht
  have za : ∀ W, Below w1.heap.size w1 W → dA.C W z.A2 z.h.A.length z.h.A := fun W B => (hz1.below B).a
  have HELD : ∀ W, Below w1.heap.size w1 W → W.cell? ⟨bx, 0, none⟩ = some (.slice z.A1 z.h.C.length z.c1) ∧ W.cell? ⟨bx, 1, none⟩ = some (.slice z.A2 z.h.A.length z.c2) := fun W B => by
    rw [hbx]
    exact ⟨(B.cell (World.block_lt_of_cell? _ _ b0)).trans b0, (B.cell (World.block_lt_of_cell? _ _ b1)).trans b1⟩
  have BW : ∀ W, Below w1.heap.size w1 W → Below w.heap.size w W := fun W B => below_then B1 B1.size B
  obtain ⟨A1, c1, A2, c2, h⟩ := z
  dsimp only [mkH] at *
  clear hz hz1
  unfold OPost at OR
  replace BW := Aside0.mk BW
  replace LV := Aside0.mk LV
  replace HELD := Aside0.mk HELD
  replace CK := Aside0.mk CK
  replace RO := Aside0.mk RO
  replace GR := Aside0.mk GR
  replace OD := Aside0.mk OD
  replace LA := Aside0.mk LA
  replace za := Aside0.mk za
  go_enter Try.func4, Try.ntmps4
  go_upto_region 1 with (fail)
  rw [← hw1, ← hbx]
  rw [← hbx] at b0 b1
  clear hw1
  replace hbx := Aside0.mk hbx
  by_cases hok : OkH h
  · have e0 := chk_ok hok
    have hoo := ordO_ok hok
    have hla := hok.la
    have hlc := hok.lc
    rw [e0] at OR
    replace hok := Aside0.mk hok
    have ISO : ∀ b, (ordO h).isSome = b → True := fun _ _ => trivial
    obtain ⟨ib, hib⟩ : ∃ ib, ib = (ordO h).isSome := ⟨_, rfl⟩
    obtain ⟨Lo, hLo⟩ : ∃ L, L = (ordO h).getD [] := ⟨_, rfl⟩
    rw [← hib, ← hLo] at OR
    replace hib := Aside0.mk hib
    replace hLo := Aside0.mk hLo
    replace hoo := Aside0.mk hoo
    clear ISO
    go_wp2_with fail
    refine OR.mono ?_
    rintro e w2 ⟨v2, rfl, hR2, B2⟩
    obtain ⟨b02, b12⟩ := HELD.out w2 B2
    have R2 := RO.out w2 B2
    unfold RoPost at R2
    rw [e0] at R2
    have hl2 := RowI_len hR2
    obtain ⟨A2', c2', rfl, hI2⟩ := RowI_AC hR2 (by omega)
    clear OR b0 b1 RO hR2
    go_wp2_with fail
    refine R2.mono ?_
    rintro e w3 ⟨v3, R3, rfl, hR3, B3, _, hL3⟩
    have hRo := hL3 hok.out
    have C3 := below_then B2 B2.size B3
    obtain ⟨b03, b13⟩ := HELD.out w3 C3
    have hI3 := Kd.C_below hI2 B3
    have hrs : R3.length ≤ 4096 := by have := round_short hRo; rw [rise_nodup_len hok.out.nd] at this; omega
    obtain ⟨A3, c3, rfl, hJ3⟩ := RowI_AC hR3 (by omega)
    have L3 := LV.out w3
    clear R2 b02 b12 hI2 hR3 hL3 B3
    replace hRo := Aside0.mk hRo
    go_wp2_with fail
    refine L3.mono ?_
    rintro e w4 ⟨rfl, B4⟩
    have C4 := below_then C3 C3.size B4
    obtain ⟨b04, b14⟩ := HELD.out w4 C4
    have hI4 := Kd.C_below hI3 B4
    have hJ4 := Kd.C_below hJ3 B4
    clear L3 b03 b13 hI3 hJ3 B4 LV CK
    cases ib with
    | false =>
      have hgn : (greedy (graphP h) (rise h.C) (rise h.C).length []).isSome = false := by rw [← hoo.out, ← hib.out]
      have hLn : Lo = [] := by
        rw [hLo.out, hoo.out]
        cases hx : greedy (graphP h) (rise h.C) (rise h.C).length [] with
        | none => rfl
        | some x => rw [hx] at hgn; cases hgn
      have hlen := round_long (fun d hd => ⟨(graph_ends hok.out d hd).1, (graph_ends hok.out d hd).2, (deps_ends hok.out (mem_graph.1 hd)).2.2⟩) (rise_nodup h.C) hRo.out hgn
      have hld := fun i hi hi2 => round_leads hRo.out hlen (i := i) hi hi2
      have G4 := GR.out w4 C4
      unfold GrPost at G4
      rw [e0, show grL h = graphP h from if_pos hok.out] at G4
      have hgl := graph_len h
      generalize graphP h = g at G4 hgl hld
      clear GR OD LA za hI4
      subst hLn
      replace hlen := Aside0.mk hlen
      replace hld := Aside0.mk hld
      replace hgn := Aside0.mk hgn
      go_wp2_with fail
      refine G4.mono ?_
      rintro e w5 ⟨v5, rfl, hR5, B5⟩
      have C5 := below_then C4 C4.size B5
      obtain ⟨Ag, cg, rfl, hG5⟩ := RD_C hR5
      have hJ5 := Kd.C_below hJ4 B5
      have J0 : RplJ w5 R3 (.int .i64 0) w5 := ⟨0, rfl, Nat.zero_le _, Below.refl _ _⟩
      clear G4 b04 b14 hR5 hJ4 B5
      go_wp2_with fail
      go_loopw [57] (fun v wr => RplJ w5 R3 v wr) (fun v _ => R3.length - (intOf v).toNat)
      case atStart => exact J0
      case round =>
        clear J0
        obtain ⟨i, rfl, hi, B⟩ := hrel
        have BC := below_then C5 C5.size B
        have hlen2 := hlen.out
        by_cases hlt : i < R3.length
        · have hm1 : (i + 1) % R3.length < R3.length := Nat.mod_lt _ (by omega)
          have hlead := hld.out i hlt hm1
          have t1 : ((i : Int) + 1).tmod (R3.length : Int) = (((i + 1) % R3.length : Nat) : Int) := IntWalk.up_tmod (by simp) rfl
          have t1' : ((i : Int) + 1) % (R3.length : Int) = (((i + 1) % R3.length : Nat) : Int) := by simp
          obtain ⟨ad, rfl, q0⟩ := CI_at (Kd.C_below hJ5 B) i hlt
          obtain ⟨ad', ea, q1⟩ := CI_at (Kd.C_below hJ5 B) _ hm1
          obtain rfl : ad = ad' := by injection ea
          have LE := leads_calls Ag cg g R3[i] R3[(i + 1) % R3.length] wr (Kd.C_below hG5 B) (by omega)
          rw [hlead] at LE
          have fin : ∀ W, Below wr.heap.size wr W → RplJ w5 R3 (.int .i64 ((i : Int) + 1)) W := fun W BX => ⟨i + 1, by simp, by omega, below_then B B.size BX⟩
          generalize (i + 1) % R3.length = m1 at *
          generalize R3[i] = a at *
          generalize R3[m1] = b at *
          have hil : (i : Int) < (R3.length : Int) := by omega
          have hml : (m1 : Int) < (R3.length : Int) := by omega
          clear hlead
          replace fin := Aside0.mk fin
          go_wp2_with fail
          refine LE.mono ?_
          rintro e W ⟨rfl, BX⟩
          have F := fin.out W BX
          clear fin LE q0 q1 t1 t1' ea
          replace F := Aside0.mk F
          go_wp2
          refine ⟨F.out, ?_⟩
          simp [intOf]
          omega
        · have hge : ¬ (i : Int) < (R3.length : Int) := by omega
          have hl2' : (2 : Int) ≤ (R3.length : Int) := by omega
          have K := Aside0.mk (BW.out _ BC)
          clear hlen2
          go_wp2
          go_ret
          exact ⟨rfl, K.out⟩
    | true =>
      have hL : greedy (graphP h) (rise h.C) (rise h.C).length [] = some Lo := by
        rw [← hoo.out]
        have h1 := hib.out
        have h2 := hLo.out
        cases hx : ordO h with
        | none => rw [hx] at h1; cases h1
        | some x => rw [hx] at h2; rw [h2]; rfl
      have OF := ord_facts hok.out hL
      have hRn : R3 = [] := round_nil OF.topo (graph_ends hok.out) hRo.out
      have h0 : R3.length = 0 := by rw [hRn]; rfl
      clear hJ4 hRn hrs
      generalize R3.length = rn at h0 ⊢
      subst h0
      have hll := OF.len
      have D4 := OD.out w4 C4 A2' c2' Lo hI4 (by omega)
      rw [ordB_yes OF.ordd] at D4
      have hll2 : Lo.length ≤ 65536 := by omega
      clear hll
      have hla2 : ∀ a ∈ h.A, a.wr = false → a.v ≠ a.t → a.t ∈ Lo ∧ newest ⟨Lo, h.A⟩ (plc Lo a.t).toNat a.item = a.v := fun a ha h1 h2 => ⟨(OF.mem _).2 (hok.out.inC a ha), last_law hok.out OF.topo OF.len OF.mem ha h1 h2⟩
      clear OD GR
      replace OF := Aside0.mk OF
      replace hla2 := Aside0.mk hla2
      replace hL := Aside0.mk hL
      go_wp2_with fail
      refine D4.mono ?_
      rintro e w5 ⟨rfl, B5⟩
      have C5 := below_then C4 C4.size B5
      obtain ⟨b05, b15⟩ := HELD.out w5 C5
      have hI5 := Kd.C_below hI4 B5
      have J0 : ∃ i : Nat, (.int .i64 0 : Value) = .int .i64 (i : Int) ∧ i ≤ h.A.length ∧ Below w5.heap.size w5 w5 := ⟨0, rfl, Nat.zero_le _, Below.refl _ _⟩
      clear D4 b04 b14 hI4 B5
      go_wp2_with fail
      go_loopw [96] (fun v wr => ∃ i : Nat, v = .int .i64 (i : Int) ∧ i ≤ h.A.length ∧ Below w5.heap.size w5 wr) (fun v _ => h.A.length - (intOf v).toNat)
      case atStart => exact J0
      case round =>
        clear J0
        obtain ⟨i, rfl, hi, B⟩ := hrel
        have BC := below_then C5 C5.size B
        by_cases hlt : i < h.A.length
        · obtain ⟨ad, rfl, q0, q1, q2, q3⟩ := CA_at (za.out wr BC) i hlt
          have hil : (i : Int) < (h.A.length : Int) := by omega
          have hmem := List.getElem_mem hlt
          have hlaw := hla2.out _ hmem
          generalize h.A[i] = a at q0 q1 q2 q3 hlaw
          obtain ⟨W2, hW2⟩ : ∃ W2, W2 = wr.alloc (.cells #[.int .i64 a.t, .bool a.wr, .string a.item, .int .i64 a.v] 40) := ⟨_, rfl⟩
          have B2' : Below wr.heap.size wr W2 := by rw [hW2]; exact (Below.refl _ wr).alloc (Nat.le_refl _) _
          have ob : W2.heap[wr.heap.size]? = some (boxA a) := by rw [hW2]; exact heap_alloc_new wr _
          obtain ⟨bn, hbn⟩ : ∃ b, b = wr.heap.size := ⟨_, rfl⟩
          have BB := below_then BC BC.size B2'
          have fin : ∀ W, Below W2.heap.size W2 W → ∃ k : Nat, (.int .i64 ((i : Int) + 1) : Value) = .int .i64 (k : Int) ∧ k ≤ h.A.length ∧ Below w5.heap.size w5 W := fun W BX => ⟨i + 1, by simp, by omega, below_then B B.size (below_then B2' B2'.size BX)⟩
          have d0 := (HELD.out W2 BB).1
          have d1 := (HELD.out W2 BB).2
          have LA2 := fun n ht => LA.out (W2.drewN n) (below_then BB BB.size (drewB W2 n)) A2' c2' Lo a.t a.item (Kd.C_below hI5 (below_then (below_then B B.size B2') (below_then B B.size B2').size (drewB W2 n))) (by omega) ht
          go_upto_region 20 with (fail)
          rw [← hW2, ← hbn]
          rw [← hbn] at ob
          clear hW2 q0 q1 q2 q3
          replace hbn := Aside0.mk hbn
          obtain ⟨r0, r1, r2, r3⟩ := ac_cells ob
          clear ob hmem
          cases k1 : a.wr with
          | true =>
            rw [k1] at r1
            have F := fun n => fin _ (drewB W2 n)
            clear fin LA2 hlaw
            replace F := Aside0.mk F
            replace k1 := Aside0.mk k1
            go_wp2_with fail
            go_quiet (fail)
            go_wp2
            refine ⟨F.out _, ?_⟩
            simp [intOf]
            omega
          | false =>
            rw [k1] at r1
            by_cases hv : a.v = a.t
            · have ev : (a.v != a.t) = false := by simpa using hv
              have F := fun n => fin _ (drewB W2 n)
              clear fin LA2 hlaw
              replace F := Aside0.mk F
              replace k1 := Aside0.mk k1
              replace hv := Aside0.mk hv
              go_wp2_with fail
              go_quiet (fail)
              go_wp2
              refine ⟨F.out _, ?_⟩
              simp [intOf]
              omega
            · have ev : (a.v != a.t) = true := by simpa using hv
              obtain ⟨hin, hnw⟩ := hlaw k1 hv
              have LA3 := fun n => LA2 n hin
              simp only [hnw] at LA3
              have BD := drewB W2 1
              clear LA2 hlaw hnw
              replace fin := Aside0.mk fin
              replace k1 := Aside0.mk k1
              replace hv := Aside0.mk hv
              replace hin := Aside0.mk hin
              go_wp2_with fail
              go_region_held3 (fun V => V.cell? ⟨bx, 0, none⟩ = some (.slice A1 h.C.length c1) ∧ V.cell? ⟨bx, 1, none⟩ = some (.slice (some ad) h.A.length c2) ∧ V.cell? ⟨bn, 0, none⟩ = some (.int .i64 a.t) ∧ V.cell? ⟨bn, 1, none⟩ = some (.bool false) ∧ V.cell? ⟨bn, 2, none⟩ = some (.string a.item) ∧ V.cell? ⟨bn, 3, none⟩ = some (.int .i64 a.v)) (first | exact ⟨d0, d1, r0, r1, r2, r3⟩ | exact ⟨K9 _ _ d0, K9 _ _ d1, K9 _ _ r0, K9 _ _ r1, K9 _ _ r2, K9 _ _ r3⟩)
                ((go_at_call 15; refine (LA3 _).mono ?_; rintro e W' ⟨rfl, B'⟩; have K9 : ∀ q v, W2.cell? q = some v → W'.cell? q = some v := fun q v hv => (B'.cell (World.block_lt_of_cell? _ _ hv)).trans hv))
              have F := fin.out W' (below_then BD BD.size B')
              clear fin d0 d1 r0 r1 r2 r3
              replace F := Aside0.mk F
              go_wp2
              refine ⟨F.out, ?_⟩
              simp [intOf]
              omega
        · have hge : ¬ (i : Int) < (h.A.length : Int) := by omega
          have K := Aside0.mk (BW.out _ BC)
          go_wp2
          go_ret
          exact ⟨rfl, K.out⟩
  · rw [chk_no hok] at OR
    have eo : ordO h = none := if_neg hok
    rw [eo] at OR
    replace eo := Aside0.mk eo
    replace hok := Aside0.mk hok
    clear GR OD LA za
    go_wp2_with fail
    refine OR.mono ?_
    rintro e w2 ⟨v2, rfl, _, B2⟩
    obtain ⟨b02, b12⟩ := HELD.out w2 B2
    have R2 := RO.out w2 B2
    unfold RoPost at R2
    rw [chk_no hok.out] at R2
    clear OR b0 b1 RO
    go_wp2_with fail
    refine R2.mono ?_
    rintro e w3 ⟨v3, R3, rfl, _, B3, _, _⟩
    have C3 := below_then B2 B2.size B3
    have L3 := LV.out w3
    clear R2 b02 b12 B3 B2
    go_wp2_with fail
    refine L3.mono ?_
    rintro e w4 ⟨rfl, B4⟩
    have C4 := below_then C3 C3.size B4
    obtain ⟨b04, b14⟩ := HELD.out w4 C4
    have K4 := CK.out w4 C4
    rw [chk_no hok.out] at K4
    clear L3 C3 B4 LV CK
    go_wp2_with fail
    refine K4.mono ?_
    rintro e w5 ⟨rfl, B5⟩
    have K := Aside0.mk (BW.out _ (below_then C4 C4.size B5))
    clear K4 B5 C4 BW HELD b04 b14
    go_wp2
    go_ret
    exact ⟨rfl, K.out⟩
end Go.Proofs.Ytedcnpaomphffaa
