import Derived.Test.YtbellkkheppofaaZE
namespace Go.Proofs.Ytbellkkheppofaa
open Go.RowKit Go.Maps Go.Sort Go.Lib Go.Proofs.YtbellkkheppofaaW.PrintWords Go.Proofs.YtbellkkheppofaaW.PrintLast Go.Proofs.YtbellkkheppofaaW.PrintMore
set_option linter.unusedVariables false
set_option linter.unusedSimpArgs false
set_option linter.unusedSectionVars false
/-- a row that is spoilt: nothing but its block changes -/
structure Spoil (w1 : World) (v : Value) (n sz ty : Nat) (wr : World) : Prop where
  chg : w1.grownBy wr v.ownBlock
  blk : ∀ g, v.ownBlock = some g → ∃ cur, wr.heap[g]? = some (.cells cur ty (0, 0)) ∧ n * sz ≤ cur.size
theorem Spoil.start {α : Type} {d : Kd α} {e base : Nat} {ok : Nat → Prop} {w : World} {v : Value} {xs : List α} (h : d.R e w base ok v xs) : Spoil w v xs.length d.sz e w := by
  refine ⟨World.grownBy.refl w _, fun g hg => ?_⟩
  obtain ⟨inner, ho⟩ := Kd.R_own h
  rcases ho.2 with ⟨rfl, _⟩ | ⟨g', cap, cur, rfl, _, hh, hnc, _, hcs, _⟩
  · cases hg
  · injection hg with hg
    have hg : g' = g := hg
    subst hg
    exact ⟨cur, hh, by rw [hcs]; exact Nat.mul_le_mul_right _ hnc⟩
theorem Spoil.set {w1 wr : World} {g n c sz ty : Nat} (h : Spoil w1 (.slice (some ⟨g, 0, none⟩) n c) n sz ty wr) (j : Nat) (u : Value) : Spoil w1 (.slice (some ⟨g, 0, none⟩) n c) n sz ty (wr.setCell ⟨g, j, none⟩ u) := by
  obtain ⟨cur, hb, hs⟩ := h.blk g rfl
  refine ⟨trans_grown h.chg (grown_set wr g j u), fun g' hg' => ?_⟩
  injection hg' with hg'
  have hg' : g = g' := hg'
  subst hg'
  exact ⟨_, blk_set hb j u, by simpa using hs⟩
theorem Spoil.cell {w1 wr : World} {g n c sz ty : Nat} (h : Spoil w1 (.slice (some ⟨g, 0, none⟩) n c) n sz ty wr) (j : Nat) (hj : j < n * sz) : (∃ u, wr.cell? ⟨g, j, none⟩ = some u) ∧ wr.frozen? ⟨g, j, none⟩ = false := by
  obtain ⟨cur, hb, hs⟩ := h.blk g rfl
  refine ⟨?_, blk_frozen hb _⟩
  rw [cell_of_row wr g _ cur ty (0, 0) hb]
  exact ⟨_, Array.getElem?_eq_getElem (by omega)⟩
theorem Both.spoilt {w w' : World} {base p b br N : Nat} {most : Int} {L : List (Lk × Int)} {v u : Value} (h : Both w base p b br most L) (r : Rm w base br most L u) (hg : w.grownBy w' v.ownBlock) (hN : ∀ k, v.ownBlock = some k → N ≤ k) (hp : p < N) (hb : b < N) (hr : br < N) (hl : ∀ k, u.ownBlock = some k → k < N) : Both w' base p b br most L ∧ Rm w' base br most L u := by
  have r' : Rm w' base br most L u := r.grown hg (fun e => by have := hN _ e; omega) (fun k e e' => by have := hN _ e; have := hl k e'; omega)
  exact ⟨⟨h.m.kept hg (fun e => by have := hN _ e.symm; omega) (fun e => by have := hN _ e.symm; omega), ⟨u, r'⟩, h.len, h.cap⟩, r'⟩
theorem Both.lt {w : World} {base p b br : Nat} {most : Int} {L : List (Lk × Int)} (h : Both w base p b br most L) : p < w.heap.size ∧ b < w.heap.size ∧ br < w.heap.size ∧ ∀ u, Rm w base br most L u → ∀ k, u.ownBlock = some k → k < w.heap.size := by
  obtain ⟨u, r⟩ := h.r
  exact ⟨World.block_lt_of_cell? _ _ h.m.most, h.m.tab.lt, (Array.getElem?_eq_some_iff.1 r.obj).1, fun u r k hk => (r.row.typed k hk).2.1⟩
/-- the script under way -/
def WI (w : World) (br : Nat) (p b n : Nat) (iv : Value) (wr : World) : Prop :=
  ∃ (k : Nat) (L : List (Lk × Int)), k ≤ n ∧ iv = .int .i64 k ∧ Both wr w.heap.size p b br 64 L ∧ Below w.heap.size w wr
/-- the two rounds -/
def WJ (w : World) (br p b : Nat) (L : List (Lk × Int)) (iv : Value) (wr : World) : Prop :=
  ∃ k : Nat, k ≤ 2 ∧ iv = .int .i64 k ∧ Both wr w.heap.size p b br 64 L ∧ Below w.heap.size w wr
set_option maxHeartbeats 16000000 in
set_option maxRecDepth 100000 in
theorem LockOwn_calls (z : Scr) (tx : Int) (w : World) (hz : z.OK w) (htx : (Lit.int .i64 tx).wf = true) :
    Calls Try.prog 5 #[z.val, .int .i64 tx] w fun e w' => e = .returned (.bool true) ∧ Below w.heap.size w w' := by
  obtain ⟨A, c, xs⟩ := z
  obtain ⟨hC, hx, _⟩ := hz
  unfold Scr.val
  dsimp only at hC hx ⊢
  go_enter Try.func5, Try.ntmps5
  go_wp2_with fail
  refine (begun_calls w).mono ?_
  rintro e w0 ⟨rfl, B0⟩
  go_wp2_with fail
  refine (New_calls 64 w0 (by omega) (by omega)).mono ?_
  rintro e w1 ⟨rfl, M1, B1⟩
  have hb0 := B0.size
  have B1' := below_then B0 B0.size B1
  generalize w0.heap.size + 1 = p at M1 ⊢
  generalize w0.heap.size = b at M1 hb0 ⊢
  clear B1 B0
  go_wp2_with fail
  refine (RNew_calls 64 w1 (by omega) (by omega)).mono ?_
  rintro e w2 ⟨rfl, B2⟩
  have M2 := M1.below B2
  have B3 := below_then B1' B1'.size B2
  have BO := made_both w w2 p b 64 (by omega) (by omega) M2 B3.size
  have B4 := below_alloc B3 (.cells #[.bool true, .int .i64 64, .slice none 0 0] 43)
  have hbr := B3.size
  have hn := hC.2.1
  clear M1 B1' M2 B2 B3
  go_wp2_with fail
  generalize hw3 : w2.alloc (.cells #[.bool true, .int .i64 64, .slice none 0 0] 43) = w3 at BO B4 ⊢
  generalize hbrr : w2.heap.size = br at BO hbr ⊢
  clear hw3 hbrr
  go_loopw [30] (fun iv wr => WI w br p b xs.length iv wr) (fun iv _ => xs.length - (intOf iv).toNat)
  case atStart => exact ⟨0, [], Nat.zero_le _, rfl, BO, B4⟩
  case round =>
    clear BO B4
    obtain ⟨k, L, hk, rfl, BO, B6⟩ := hrel
    by_cases hlt : k < xs.length
    · obtain ⟨ad, cs, rfl, hcl, hcs, hcc⟩ := Kd.C_get (Kd.C_below hC B6) ⟨0, 0, 0, 0, (ByteArray.empty, ByteArray.empty), ByteArray.empty⟩ (k : Int) (by omega) (by omega)
      generalize haa : xs.getD (k : Int).toNat ⟨0, 0, 0, 0, (ByteArray.empty, ByteArray.empty), ByteArray.empty⟩ = x at hcs
      obtain rfl : cs = x.cells := hcs
      have hx1 : x.OK := by
        have hm : x ∈ xs := by
          rw [← haa, Int.toNat_natCast, List.getD_eq_getElem?_getD, List.getElem?_eq_getElem hlt]
          exact List.getElem_mem hlt
        exact hx _ hm
      obtain ⟨d, tx', snap, last, a, u⟩ := x
      have q0 : wr.cell? (ad.add (k * 7)) = some (.int .i64 d) := hcc 0 _ rfl
      have q1 : wr.cell? ⟨(ad.add (k * 7)).block, (ad.add (k * 7)).off + 1, none⟩ = some (.int .i64 tx') := by rw [← add_field _ _ _ (by omega)]; exact hcc 1 _ rfl
      have q2 : wr.cell? ⟨(ad.add (k * 7)).block, (ad.add (k * 7)).off + 2, none⟩ = some (.int .i64 snap) := by rw [← add_field _ _ _ (by omega)]; exact hcc 2 _ rfl
      have q3 : wr.cell? ⟨(ad.add (k * 7)).block, (ad.add (k * 7)).off + 3, none⟩ = some (.int .i64 last) := by rw [← add_field _ _ _ (by omega)]; exact hcc 3 _ rfl
      have q4 : wr.cell? ⟨(ad.add (k * 7)).block, (ad.add (k * 7)).off + 4, none⟩ = some (.string a.1) := by rw [← add_field _ _ _ (by omega)]; exact hcc 4 _ rfl
      have q5 : wr.cell? ⟨(ad.add (k * 7)).block, (ad.add (k * 7)).off + 5, none⟩ = some (.string a.2) := by rw [← add_field _ _ _ (by omega)]; exact hcc 5 _ rfl
      have q6 : wr.cell? ⟨(ad.add (k * 7)).block, (ad.add (k * 7)).off + 6, none⟩ = some (.string u) := by rw [← add_field _ _ _ (by omega)]; exact hcc 6 _ rfl
      clear hcc hcl haa
      obtain ⟨w6, hw6⟩ : ∃ w6, w6 = wr.alloc (.cells #[.int .i64 d, .int .i64 tx', .int .i64 snap, .int .i64 last, .string a.1, .string a.2, .string u] 32) := ⟨_, rfl⟩
      have g6 : wr.grownBy w6 none := by rw [hw6]; exact World.grownBy_alloc _ _ _
      have r0 : w6.heap[wr.heap.size]? = some (.cells #[.int .i64 d, .int .i64 tx', .int .i64 snap, .int .i64 last, .string a.1, .string a.2, .string u] 32 (0, 0)) := by rw [hw6]; exact heap_alloc_new wr _
      have BO6 := BO.keep g6
      have B7 : Below w.heap.size w w6 := B6.grown g6 B6.size (by simp)
      go_upto_region 10 with (fail)
      rw [← hw6]
      clear hw6 q0 q1 q2 q3 q4 q5 q6 g6 BO B6
      generalize wr.heap.size = bx at r0 ⊢
      obtain ⟨s0, s1, s2, s3, s4, s5, s6⟩ := op_cells r0
      by_cases hd : d = 0
      · subst hd
        have ST := step_calls w.heap.size p b br 64 L ⟨0, tx', snap, last, a, u⟩ hx1 _ BO6 B7.size
        simp only [Op.cells] at ST
        go_wp2_with fail
        refine ST.mono ?_
        rintro e w8 ⟨rfl, BO8, C8⟩
        have B9 := C8.under B7 hb0 hbr
        go_wp2
        go_roundw
        case rel => exact ⟨k + 1, _, by omega, by go_num, BO8, B9⟩
        case measure => simp [intOf]; omega
      · have hd' : (d == 0) = false := by simpa using hd
        go_wp2
        go_roundw
        case rel => exact ⟨k + 1, _, by omega, by go_num, BO6, B7⟩
        case measure => simp [intOf]; omega
    · obtain rfl : k = xs.length := by omega
      clear hlt
      go_wp2_with fail
      go_loopw [44] (fun iv wr => WJ w br p b L iv wr) (fun iv _ => 2 - (intOf iv).toNat)
      case atStart => exact ⟨0, by omega, rfl, BO, B6⟩
      case round =>
        clear BO B6
        obtain ⟨k, hk, rfl, BO, B6⟩ := hrel
        by_cases hk2 : k < 2
        · have hlen := BO.len
          obtain ⟨v0, r0⟩ := BO.r
          have H1 := Held_calls p b 64 L tx wr BO.m (by omega)
          go_wp2_with fail
          refine H1.mono ?_
          rintro e w2 ⟨v1, rfl, R1, D1⟩
          clear H1
          have BO2 := BO.keep (grown_of_below D1 none)
          have B7 := below_then B6 B6.size D1
          obtain ⟨v2, r2⟩ := BO2.r
          have H2 := RHeld_calls w.heap.size br 64 L v2 tx w2 r2 (by omega) B7.size
          go_wp2_with fail
          refine H2.mono ?_
          rintro e w3 ⟨v3, rfl, L3, D2⟩
          clear H2
          have BO3 := BO2.keep (grown_of_below D2 none)
          have B8 := below_then B7 B7.size D2
          have R3 := Kd.R_below R1 D2
          have hhl : (heldOf L tx).length ≤ 64 := by
            rw [heldOf_length]
            exact Nat.le_trans (List.length_filter_le _ _) (by omega)
          have H3 := sameLocks_calls _ _ _ _ _ w3 (Lo.ofR R3) L3 (by omega)
          go_wp2_with fail
          refine H3.mono ?_
          rintro e w4 ⟨rfl, D3⟩
          clear H3 L3
          have BO4 := BO3.keep (grown_of_below D3 none)
          have B9 := below_then B8 B8.size D3
          have R4 := Kd.R_below R3 D3
          obtain ⟨pl, bl, brl, ll⟩ := BO.lt
          have ll := ll v0 r0
          have r4 := ((r0.grown (grown_of_below D1 none) (by simp) (by simp)).grown (grown_of_below D2 none) (by simp) (by simp)).grown (grown_of_below D3 none) (by simp) (by simp)
          obtain ⟨N, hN⟩ : ∃ N, N = wr.heap.size := ⟨_, rfl⟩
          have hwN : w.heap.size ≤ N := by rw [hN]; exact B6.size
          rw [← hN] at pl bl brl ll
          obtain ⟨A1, c1, rfl, hc1, _⟩ := Kd.R_reads R4
          have hbase1 : ∀ k, (Value.slice A1 (heldOf L tx).length c1).ownBlock = some k → N ≤ k := by rw [hN]; exact Kd.R_base R4
          clear hN
          have SP := Spoil.start R4
          have hform : 0 < (heldOf L tx).length → ∃ g, A1 = some ⟨g, 0, none⟩ := by
            intro h0
            obtain ⟨inner, ho⟩ := Kd.R_own R4
            obtain ⟨g, cap, he, _⟩ := ho.form h0
            injection he with he
            exact ⟨g, he⟩
          go_wp2_with fail
          go_loopw [56] (fun iv wx => ∃ j : Nat, j ≤ (heldOf L tx).length ∧ iv = .int .i64 j ∧ Spoil w4 (.slice A1 (heldOf L tx).length c1) (heldOf L tx).length 2 23 wx) (fun iv _ => (heldOf L tx).length - (intOf iv).toNat)
          case atStart => exact ⟨0, Nat.zero_le _, rfl, SP⟩
          case round =>
            clear SP
            obtain ⟨j, hj, rfl, SP⟩ := hrel
            by_cases hjl : j < (heldOf L tx).length
            · obtain ⟨g, rfl⟩ := hform (by omega)
              obtain ⟨⟨u0, y0⟩, f0⟩ := SP.cell (j * 2) (by omega)
              obtain ⟨⟨u1, y1⟩, f1⟩ := SP.cell (j * 2 + 1) (by omega)
              go_wp2
              go_roundw
              case rel => exact ⟨j + 1, by omega, by go_num, (SP.set _ _).set _ _⟩
              case measure => simp [intOf]; omega
            · obtain rfl : j = (heldOf L tx).length := by omega
              obtain ⟨BO5, r5⟩ := BO4.spoilt r4 SP.chg hbase1 pl bl brl ll
              have B10 := B9.grown SP.chg B9.size (fun k e => by have := hbase1 k e; omega)
              have hz5 := SP.chg.size
              have H4 := Holders_calls p b 64 L ⟨#[116]⟩ ⟨#[]⟩ ⟨#[]⟩ wr BO5.m (by omega)
              clear SP R1 R3 R4 BO BO2 BO3 BO4 B6 B7 B8 B9 D1 D2 D3 r0 r2 r4 hbase1 hform
              go_wp2_with fail
              refine H4.mono ?_
              rintro e w5 ⟨v5, rfl, R5, D5⟩
              clear H4
              have BO6 := BO5.keep (grown_of_below D5 none)
              have B11 := below_then B10 B10.size D5
              have r6 := r5.grown (grown_of_below D5 none) (by simp) (by simp)
              have H5 := RHolders_calls w.heap.size br 64 L _ ⟨#[116]⟩ ⟨#[]⟩ ⟨#[]⟩ w5 r6 (by omega) B11.size
              go_wp2_with fail
              refine H5.mono ?_
              rintro e w6 ⟨v6, rfl, L6, D6⟩
              clear H5
              have BO7 := BO6.keep (grown_of_below D6 none)
              have B12 := below_then B11 B11.size D6
              have R6 := Kd.R_below R5 D6
              have r7 := r6.grown (grown_of_below D6 none) (by simp) (by simp)
              have hjl2 : (holdersOf L ⟨#[116]⟩ ⟨#[]⟩ ⟨#[]⟩).length ≤ 64 := by
                refine Nat.le_trans (rise_length _) ?_
                rw [List.length_map]
                exact Nat.le_trans (List.length_filter_le _ _) (by omega)
              have H6 := sameNumbers_calls _ _ _ _ _ w6 (Lo.ofR R6) L6 (by omega)
              go_wp2_with fail
              refine H6.mono ?_
              rintro e w7 ⟨rfl, D7⟩
              clear H6 L6
              have BO8 := BO7.keep (grown_of_below D7 none)
              have B13 := below_then B12 B12.size D7
              have R7 := Kd.R_below R6 D7
              have r8 := r7.grown (grown_of_below D7 none) (by simp) (by simp)
              obtain ⟨A2, c2, rfl, hc2, _⟩ := Kd.R_reads R7
              have SP := Spoil.start R7
              have hbase2 : ∀ k, (Value.slice A2 (holdersOf L ⟨#[116]⟩ ⟨#[]⟩ ⟨#[]⟩).length c2).ownBlock = some k → wr.heap.size ≤ k := Kd.R_base R7
              have hform : 0 < (holdersOf L ⟨#[116]⟩ ⟨#[]⟩ ⟨#[]⟩).length → ∃ g, A2 = some ⟨g, 0, none⟩ := by
                intro h0
                obtain ⟨inner, ho⟩ := Kd.R_own R7
                obtain ⟨g, cap, he, _⟩ := ho.form h0
                injection he with he
                exact ⟨g, he⟩
              obtain ⟨pl, bl, brl, ll⟩ := BO5.lt
              have ll := ll v0 r5
              obtain ⟨M, hM⟩ : ∃ M, M = wr.heap.size := ⟨_, rfl⟩
              have hwM : w.heap.size ≤ M := by rw [hM]; exact B10.size
              rw [← hM] at pl bl brl ll hbase2
              clear hM R5 R6 R7 D5 D6 D7 BO5 BO6 BO7 B10 B11 B12 r5 r6 r7
              generalize (holdersOf L ⟨#[116]⟩ ⟨#[]⟩ ⟨#[]⟩).length = n2 at *
              go_wp2_with fail
              go_loopw [72] (fun iv wx => ∃ j : Nat, j ≤ n2 ∧ iv = .int .i64 j ∧ Spoil w7 (.slice A2 n2 c2) n2 1 2 wx) (fun iv _ => n2 - (intOf iv).toNat)
              case atStart => exact ⟨0, Nat.zero_le _, rfl, SP⟩
              case round =>
                clear SP
                obtain ⟨j, hj, rfl, SP⟩ := hrel
                by_cases hjl : j < n2
                · obtain ⟨g, rfl⟩ := hform (by omega)
                  obtain ⟨⟨u0, y0⟩, f0⟩ := SP.cell j (by omega)
                  go_wp2
                  go_roundw
                  case rel => exact ⟨j + 1, by omega, by go_num, SP.set _ _⟩
                  case measure => simp [intOf]; omega
                · obtain rfl : j = n2 := by omega
                  obtain ⟨BO9, r9⟩ := BO8.spoilt r8 SP.chg hbase2 pl bl brl ll
                  have B14 := B13.grown SP.chg B13.size (fun k e => by have := hbase2 k e; omega)
                  go_wp2
                  go_roundw
                  case rel => exact ⟨k + 1, by omega, by go_num, BO9, B14⟩
                  case measure => simp [intOf]; omega
        · obtain rfl : k = 2 := by omega
          go_wp2
          go_ret
          exact ⟨rfl, B6⟩
end Go.Proofs.Ytbellkkheppofaa
