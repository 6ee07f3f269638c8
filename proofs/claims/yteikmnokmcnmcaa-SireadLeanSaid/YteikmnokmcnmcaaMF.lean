import Derived.Test.YteikmnokmcnmcaaME
namespace Go.Proofs.Yteikmnokmcnmcaa
open Go.ChangeShapes Go.WideShapes Go.ChangeAt Go.RowKit Go.Sort Go.Maps Go.Proofs.YteikmnokmcnmcaaW.PrintWords Go.Proofs.YteikmnokmcnmcaaW.PrintLast Go.Proofs.YteikmnokmcnmcaaW.PrintMore
set_option linter.unusedVariables false
set_option linter.unusedSimpArgs false
set_option linter.unusedSectionVars false
/-! ### SireadLean -/
/-- what stays while an operation is looked at -/
structure Env (w : World) (p : Nat) (most : Int) (S : St) (A : Option Addr) (xs : List Sop) (bx : Nat) (o : Sop) (v : Value) (l : List Rd) (W : World) : Prop where
  m : MrS W w.heap.size p most S
  c : dOp.C W A xs.length xs
  box : W.heap[bx]? = some (boxO o)
  row : RowR W w.heap.size v l
  below : Below w.heap.size w W
theorem Env.later {w W W' : World} {p : Nat} {most : Int} {S : St} {A : Option Addr} {xs : List Sop} {bx : Nat} {o : Sop} {v : Value} {l : List Rd} (h : Env w p most S A xs bx o v l W) (B : Below W.heap.size W W') : Env w p most S A xs bx o v l W' :=
  ⟨h.m.kept (grown_of_below B none), Kd.C_below h.c B, blk_below h.box B, h.row.grown (grown_of_below B none) (by simp), below_then h.below h.below.size B⟩
def EJ (w : World) (p : Nat) (most : Int) (S : St) (A : Option Addr) (xs : List Sop) (bx : Nat) (o : Sop) (v : Value) (l : List Rd) (vi : Value) (W : World) : Prop := ∃ i : Nat, vi = .int .i64 (i : Int) ∧ i ≤ l.length ∧ Env w p most S A xs bx o v l W
def BJ (w : World) (p : Nat) (most : Int) (A : Option Addr) (xs : List Sop) (vi : Value) (W : World) : Prop := ∃ (i : Nat) (S : St), vi = .int .i64 (i : Int) ∧ i ≤ xs.length ∧ MrS W w.heap.size p most S ∧ Below w.heap.size w W
set_option maxHeartbeats 8000000 in
set_option maxRecDepth 100000 in
theorem SireadLean_calls (most : Int) (z : Scr) (w : World) (hz : z.OK w) :
    Calls Try.prog 5 #[.int .i64 most, z.val] w fun e w' => e = .returned (.bool true) ∧ Below w.heap.size w w' := by
  obtain ⟨A, c, xs⟩ := z
  obtain ⟨hC, hx, hxl⟩ := hz
  unfold Scr.val
  dsimp only at hC hx hxl ⊢
  have LV := fun W => live_calls W
  by_cases hin : 1 ≤ most ∧ most ≤ 65536
  · have BG := begun_S most w.heap.size w (Nat.le_refl _) hin.1 hin.2
    go_enter Try.func5, Try.ntmps5
    go_wp2_with fail
    refine BG.mono ?_
    rintro e w1 ⟨p, rfl, M1, B1⟩
    obtain ⟨W2, hW2⟩ : ∃ W2, W2 = w1.alloc (.cells #[.int .i64 most, .slice none 0 0] 37) := ⟨_, rfl⟩
    have B2 : Below w1.heap.size w1 W2 := by rw [hW2]; exact (Below.refl _ w1).alloc (Nat.le_refl _) _
    have B12 := below_then B1 B1.size B2
    have M2 := M1.kept (grown_of_below B2 none)
    have LV2 := LV W2
    clear LV BG hin
    go_upto_region 2 with (fail)
    rw [← hW2]
    clear hW2
    go_wp2_with fail
    refine LV2.mono ?_
    rintro e W3 ⟨rfl, B3⟩
    have hJ0 : BJ w p most A xs (.int .i64 0) W3 := ⟨0, St0, rfl, Nat.zero_le _, M2.kept (grown_of_below B3 none), below_then B12 B12.size B3⟩
    have hn := hC.2.1
    clear M1 M2 B1 B2 B12 B3 LV2
    replace hC := Aside0.mk hC
    replace hx := Aside0.mk hx
    go_wp2_with fail
    go_loopw [35] (fun vi wr => BJ w p most A xs vi wr) (fun vi _ => xs.length - (intOf vi).toNat)
    case atStart => exact hJ0
    case round =>
      clear hJ0
      obtain ⟨i, S, rfl, hi, M, B⟩ := hrel
      have C := Kd.C_below hC.out B
      by_cases hlt : i < xs.length
      · obtain ⟨ad, rfl, q0, q1, q2, q3, q4, q5, q6⟩ := op_at C i hlt
        have hxo := hx.out _ (List.getElem_mem hlt)
        generalize xs[i] = o at q0 q1 q2 q3 q4 q5 q6 hxo
        obtain ⟨W4, hW4⟩ : ∃ W4, W4 = wr.alloc (.cells #[.int .i64 o.kind, .int .i64 o.txn, .string o.x.t, .int .i64 o.x.k, .string o.x.f, .string o.x.u, .string o.key] 41) := ⟨_, rfl⟩
        have B4 : Below wr.heap.size wr W4 := by rw [hW4]; exact (Below.refl _ wr).alloc (Nat.le_refl _) _
        have ob4 : W4.heap[wr.heap.size]? = some (boxO o) := by rw [hW4]; exact heap_alloc_new wr _
        obtain ⟨r0, r1, r2, r3, r4, r5, r6⟩ := op_cells ob4
        have M4 := M.kept (grown_of_below B4 none)
        have B14 := below_then B B.size B4
        have NS := Note_S w.heap.size p most S o.txn o.x W4 M4 hxo.x hxo.txn
        have hplt : p < wr.heap.size := M.lt
        have hnn := fun h1 h2 => noteP_n M.inv (most := most) (t := o.txn) (x := o.x) hxo.x M.le M.bot h1 h2
        replace hnn := Aside0.mk hnn
        go_upto_region 7 with (fail)
        rw [← hW4]
        clear hW4 q0 q1 q2 q3 q4 q5 q6
        go_wp2_with fail
        refine NS.mono ?_
        rintro e W5 ⟨rfl, M5, G5⟩
        have hpw := M5.low
        generalize noteP S most o.txn o.x = nt at M5 hnn
        obtain ⟨code, S'⟩ := nt
        dsimp only at M5 hnn ⊢
        have B5 := B14.grown G5 B14.size (fun k hk => by injection hk with hk; omega)
        have ob5 := (G5.block wr.heap.size (Array.getElem?_eq_some_iff.1 ob4).1 (by simp; omega)).trans ob4
        obtain ⟨r0, r1, r2, r3, r4, r5, r6⟩ := op_cells ob5
        have OF := Of_S w.heap.size p most S' o.txn W5 M5
        have hlen := ofP_len M5.inv o.txn
        have hle := M5.le
        have htop := M5.top
        have hlean := sorted_lean M5.inv o.txn
        have hok := ofP_ok M5.inv o.txn
        have hll : (srtC cmpRd (ofP S' o.txn)).length ≤ 65536 := by rw [srtC_length]; omega
        generalize srtC cmpRd (ofP S' o.txn) = l at OF hlean hok hll
        clear NS M M4 B4 B14 G5 B hlen hle htop
        clear C
        replace hlean := Aside0.mk hlean
        replace hok := Aside0.mk hok
        go_wp2_with fail
        refine OF.mono ?_
        rintro e W6 ⟨v, rfl, hv, B6⟩
        have hrow := Lo.ofR hv
        obtain ⟨Al, cl, rfl, hlc, hAl⟩ := hrow.slice
        have B16 := below_then B5 B5.size B6
        obtain ⟨bx, hbx⟩ : ∃ bx, bx = wr.heap.size := ⟨_, rfl⟩
        rw [← hbx] at ob5
        have E0 : EJ w p most S' (some ad) xs bx o (.slice Al l.length cl) l (.int .i64 0) W6 := ⟨0, rfl, Nat.zero_le _, M5.kept (grown_of_below B6 none), Kd.C_below hC.out B16, blk_below ob5 B6, hrow.lower B5.size, B16⟩
        clear hrow hv B16 B6 B5 M5 ob5 OF r0 r1 r2 r3 r4 r5 r6 ob4
        rw [← hbx]
        clear hbx
        go_wp2_with fail
        go_loopw [51] (fun vi W => EJ w p most S' (some ad) xs bx o (.slice Al l.length cl) l vi W) (fun vi _ => l.length - (intOf vi).toNat)
        case atStart => exact E0
        case round =>
          clear E0
          obtain ⟨a, rfl, ha, E1⟩ := hrel
          by_cases hal : a < l.length
          · have E2 : EJ w p most S' (some ad) xs bx o (.slice Al l.length cl) l (.int .i64 0) wr := ⟨0, rfl, Nat.zero_le _, E1⟩
            clear E1
            go_wp2_with fail
            go_loopw [56] (fun vi W => EJ w p most S' (some ad) xs bx o (.slice Al l.length cl) l vi W) (fun vi _ => l.length - (intOf vi).toNat)
            case atStart => exact E2
            case round =>
              clear E2
              obtain ⟨k, rfl, hk, E3⟩ := hrel
              by_cases hkl : k < l.length
              · obtain ⟨g, rfl, _⟩ := hAl (by omega)
                obtain ⟨x0, x1, x2, x3⟩ := RowR.at E3.row a l[a] (List.getElem?_eq_getElem hal)
                obtain ⟨y0, y1, y2, y3⟩ := RowR.at E3.row k l[k] (List.getElem?_eq_getElem hkl)
                by_cases hak : a = k
                · have E4 : EJ w p most S' (some ad) xs bx o (.slice (some ⟨g, 0, none⟩) l.length cl) l (.int .i64 ((k : Int) + 1)) wr.drew := ⟨k + 1, by simp, by omega, E3.later ((Below.refl _ wr).grown (drewG wr) (Nat.le_refl _) (by simp))⟩
                  have hEne : ((a : Int) != (k : Int)) = false := by simp [hak]
                  generalize l[a] = xa at x0 x1 x2 x3
                  clear y0 y1 y2 y3
                  replace hak := Aside0.mk hak
                  replace E3 := Aside0.mk E3
                  replace E4 := Aside0.mk E4
                  go_wp2_with fail
                  go_region
                  all_goals
                    go_wp2
                    refine ⟨E4.out, ?_⟩
                    simp [intOf]
                    omega
                · have hcv := lean_at hlean.out hal hkl hak
                  have CC := fun W => Covers_calls l[a] l[k] (hok.out _ (List.getElem_mem hal)) (hok.out _ (List.getElem_mem hkl)) W
                  rw [hcv] at CC
                  generalize l[a] = xa at x0 x1 x2 x3 CC
                  generalize l[k] = xk at y0 y1 y2 y3 CC
                  have hEne : ((a : Int) != (k : Int)) = true := by simp; omega
                  replace E3 := Aside0.mk E3
                  clear hcv
                  go_wp2_with fail
                  go_region_held3 (fun V => V.cell? ⟨g, a * 4, none⟩ = some (.string xa.t) ∧ V.cell? ⟨g, a * 4 + 1, none⟩ = some (.int .i64 xa.k) ∧ V.cell? ⟨g, a * 4 + 2, none⟩ = some (.string xa.f) ∧ V.cell? ⟨g, a * 4 + 3, none⟩ = some (.string xa.u) ∧ V.cell? ⟨g, k * 4, none⟩ = some (.string xk.t) ∧ V.cell? ⟨g, k * 4 + 1, none⟩ = some (.int .i64 xk.k) ∧ V.cell? ⟨g, k * 4 + 2, none⟩ = some (.string xk.f) ∧ V.cell? ⟨g, k * 4 + 3, none⟩ = some (.string xk.u)) (first | exact ⟨x0, x1, x2, x3, y0, y1, y2, y3⟩ | exact ⟨K9 _ _ x0, K9 _ _ x1, K9 _ _ x2, K9 _ _ x3, K9 _ _ y0, K9 _ _ y1, K9 _ _ y2, K9 _ _ y3⟩)
                    ((go_at_call 9; refine (CC _).mono ?_; rintro e W9 ⟨rfl, D9⟩; have K9 : ∀ q v, wr.cell? q = some v → W9.cell? q = some v := fun q v hv => (D9.cell (World.block_lt_of_cell? _ _ hv)).trans hv))
                  go_wp2
                  refine ⟨⟨k + 1, by simp, by omega, E3.out.later ((below_then ((Below.refl _ wr).grown (drewG wr) (Nat.le_refl _) (by simp)) (Nat.le_refl _) D9))⟩, ?_⟩
                  simp [intOf]
                  omega
              · have E4 : EJ w p most S' (some ad) xs bx o (.slice Al l.length cl) l (.int .i64 ((a : Int) + 1)) wr := ⟨a + 1, by simp, by omega, E3⟩
                obtain rfl : k = l.length := by omega
                clear E3
                go_wp2
                refine ⟨E4, ?_⟩
                simp [intOf]
                omega
          · obtain rfl : a = l.length := by omega
            obtain ⟨r0, r1, r2, r3, r4, r5, r6⟩ := op_cells E1.box
            have E5 : ∀ W, Below wr.heap.size wr W → BJ w p most (some ad) xs (.int .i64 ((i : Int) + 1)) W := fun W B => by
              have E6 := E1.later B
              exact ⟨i + 1, S', by simp, by omega, E6.m, E6.below⟩
            have MY := May_calls o.x wr
            have LN := fun W (B : Below wr.heap.size wr W) => Len_S w.heap.size p most S' W (E1.later B).m
            replace hnn := hnn.out
            have h0 := hn
            clear E1
            by_cases ht : 1 ≤ o.txn
            · cases hmay : mayB o.x with
              | false =>
                rw [hmay] at MY
                clear hnn hmay
                go_wp2_with fail
                refine MY.mono ?_
                rintro e W8 ⟨rfl, B8⟩
                have E6 := E5 _ B8
                go_wp2
                refine ⟨E6, ?_⟩
                simp [intOf]
                omega
              | true =>
                rw [hmay] at MY
                have hn1 := hnn ht hmay
                clear hnn hmay
                have hn0 : (S'.n == 0) = false := by simp; omega
                go_wp2_with fail
                refine MY.mono ?_
                rintro e W8 ⟨rfl, B8⟩
                have E6 := E5 _ B8
                have LN8 := LN _ B8
                by_cases hl0 : l.length = 0
                · have hl1 : ((l.length : Int) == 0) = true := by simp [hl0]
                  go_wp2_with fail
                  refine LN8.mono ?_
                  rintro e W9 ⟨rfl, rfl⟩
                  go_wp2
                  refine ⟨E6, ?_⟩
                  simp [intOf]
                  omega
                · have hl1 : ((l.length : Int) == 0) = false := by simpa using hl0
                  go_wp2
                  refine ⟨E6, ?_⟩
                  simp [intOf]
                  omega
            · clear hnn
              have E6 := E5 _ (Below.refl _ _)
              go_wp2
              refine ⟨E6, ?_⟩
              simp [intOf]
              omega
      · obtain rfl : i = xs.length := by omega
        clear hx hC
        go_wp2
        go_ret
        exact ⟨rfl, B⟩
  · have BG := begun_bad most w (by omega)
    go_enter Try.func5, Try.ntmps5
    go_wp2_with fail
    refine BG.mono ?_
    rintro e w1 ⟨rfl, B1⟩
    obtain ⟨W2, hW2⟩ : ∃ W2, W2 = w1.alloc (.cells #[.int .i64 most, .slice none 0 0] 37) := ⟨_, rfl⟩
    have B2 : Below w1.heap.size w1 W2 := by rw [hW2]; exact (Below.refl _ w1).alloc (Nat.le_refl _) _
    have B12 := below_then B1 B1.size B2
    have LV2 := LV W2
    clear LV BG
    go_upto_region 2 with (fail)
    rw [← hW2]
    clear hW2
    go_wp2_with fail
    refine LV2.mono ?_
    rintro e W3 ⟨rfl, B3⟩
    go_wp2
    go_ret
    exact ⟨rfl, below_then B12 B12.size B3⟩
end Go.Proofs.Yteikmnokmcnmcaa
