import Derived.Test.YteikmnokmcnmcaaSQ
namespace Go.Proofs.Yteikmnokmcnmcaa
open Go.RowKit Go.Maps Go.Sort Go.Lib Go.Proofs.YteikmnokmcnmcaaW.PrintWords Go.Proofs.YteikmnokmcnmcaaW.PrintLast Go.Proofs.YteikmnokmcnmcaaW.PrintMore
set_option linter.unusedVariables false
set_option linter.unusedSimpArgs false
set_option linter.unusedSectionVars false
/-! ### SireadHolds -/
theorem one_readers {base p : Nat} {x : Rd} {w : World} (h : One w base p x) (hm : mayB x = true) (key : ByteArray) :
    Calls Try.prog 13 #[.pointer (some ⟨p, 0, none⟩), .string x.t, .string key] w fun e w' => (∃ A c, e = .returned (.slice A (if holdB x key = true then 1 else 0) c)) ∧ Below w.heap.size w w' := by
  obtain ⟨b, L, R, many, M, hL, hR, hr⟩ := h
  refine (Readers_calls _ _ _ _ _ _ _ x.t key w M (by omega) (fun q => by have := hR q; omega)).mono ?_
  rintro e w' ⟨v, rfl, H, B⟩
  rw [hr hm key] at H
  refine ⟨?_, B⟩
  obtain ⟨A, c, rfl, _⟩ := (Lo.ofR H).slice
  refine ⟨A, c, ?_⟩
  cases holdB x key <;> rfl
theorem covB_parts {a b : Rd} (h : covB a b = true) : a.t.toList = b.t.toList ∧ cov a b = true := by
  unfold covB at h
  simp only [Bool.and_eq_true, beq_iff_eq] at h
  exact h.2.2
set_option maxHeartbeats 8000000 in
set_option maxRecDepth 100000 in
theorem SireadHolds_calls (a b : Rd) (key : ByteArray) (w : World) (ha : a.OK) (hb : b.OK) : Calls Try.prog 4 #[mkR a, mkR b, .string key] w fun e w' => e = .returned (.bool true) ∧ Below w.heap.size w w' := by
  obtain ⟨w2, hw2, B2, oa, ob⟩ := two_boxes w a b
  have hs2 : w2.heap.size = w.heap.size + 2 := by rw [hw2]; simp
  have NA := New_calls 1 w.heap.size w2 B2.size (by omega) (by omega)
  have LV := fun W => live_calls W
  go_enter Try.func4, Try.ntmps4
  go_upto_region 1 with (fail)
  rw [← hw2]
  clear hw2
  obtain ⟨p1, hp1⟩ : ∃ p1, p1 = w2.heap.size + 1 := ⟨_, rfl⟩
  rw [← hp1] at NA
  have hle : w.heap.size + 2 ≤ p1 := by omega
  clear hp1
  go_wp2_with fail
  refine NA.mono ?_
  rintro e w3 ⟨rfl, M1, D3⟩
  have B3 := below_then B2 B2.size D3
  have hp1' : p1 < w3.heap.size := (Array.getElem?_eq_some_iff.1 M1.cells).1
  have NB := New_calls 1 w.heap.size w3 B3.size (by omega) (by omega)
  obtain ⟨p2, hp2⟩ : ∃ p2, p2 = w3.heap.size + 1 := ⟨_, rfl⟩
  rw [← hp2] at NB
  have hne : p1 ≠ p2 := by omega
  have hle2 : w.heap.size + 2 ≤ p2 := by omega
  clear hp2
  go_wp2_with fail
  refine NB.mono ?_
  rintro e w4 ⟨rfl, M2, D4⟩
  have B4 := below_then B3 B3.size D4
  replace M1 := M1.kept (grown_of_below D4 none)
  have LV4 := LV w4
  go_wp2_with fail
  refine LV4.mono ?_
  rintro e w5 ⟨rfl, D5⟩
  have B5 := below_then B4 B4.size D5
  replace M1 := M1.kept (grown_of_below D5 none)
  replace M2 := M2.kept (grown_of_below D5 none)
  have ge2 : w.heap.size ≤ w2.heap.size := B2.size
  replace oa := blk_below (blk_below (blk_below oa D3) D4) D5
  replace ob := blk_below (blk_below (blk_below ob D3) D4) D5
  obtain ⟨ka, hka⟩ : ∃ ka : Int, ka = (if mayB a = true then 0 else 1) := ⟨_, rfl⟩
  obtain ⟨kb, hkb⟩ : ∃ kb : Int, kb = (if mayB b = true then 0 else 1) := ⟨_, rfl⟩
  have N1 := fun n => Note_one w.heap.size p1 w2.heap.size a (w5.drewN n) (M1.kept (drewNG w5 n)) ha B5.size
  have N2 := fun W h1 h2 => Note_one w.heap.size p2 w3.heap.size b W h1 hb h2
  rw [← hka] at N1
  rw [← hkb] at N2
  replace hka := Aside0.mk hka
  replace hkb := Aside0.mk hkb
  clear NA NB LV LV4
  replace D3 := Aside0.mk D3
  replace D4 := Aside0.mk D4
  replace D5 := Aside0.mk D5
  replace B2 := Aside0.mk B2
  replace B3 := Aside0.mk B3
  replace B4 := Aside0.mk B4
  have hna : p1 ≠ w.heap.size := by omega
  have hnb : p1 ≠ w.heap.size + 1 := by omega

  have after1 : ∀ n w6, (w5.drewN n).grownBy w6 (some p1) → w.heap.size ≤ w6.heap.size ∧ Mr w6 w.heap.size p2 w3.heap.size 1 0 [] (fun _ => []) ∧ w6.heap[w.heap.size]? = some (boxR a) ∧ w6.heap[w.heap.size + 1]? = some (boxR b) := fun n w6 G =>
    ⟨Nat.le_trans B5.size G.size, (M2.kept (drewNG w5 n)).beside G ⟨_, _, M1.cells⟩ (fun e => hne e.symm), (G.block _ (Array.getElem?_eq_some_iff.1 oa).1 (by simp; omega)).trans oa, (G.block _ (Array.getElem?_eq_some_iff.1 ob).1 (by simp; omega)).trans ob⟩
  go_wp2_with fail
  go_region_held3 (fun V => V.cell? ⟨w.heap.size, 0, none⟩ = some (.string a.t) ∧ V.cell? ⟨w.heap.size, 1, none⟩ = some (.int .i64 a.k) ∧ V.cell? ⟨w.heap.size, 2, none⟩ = some (.string a.f) ∧ V.cell? ⟨w.heap.size, 3, none⟩ = some (.string a.u) ∧ V.cell? ⟨w.heap.size + 1, 0, none⟩ = some (.string b.t) ∧ V.cell? ⟨w.heap.size + 1, 1, none⟩ = some (.int .i64 b.k) ∧ V.cell? ⟨w.heap.size + 1, 2, none⟩ = some (.string b.f) ∧ V.cell? ⟨w.heap.size + 1, 3, none⟩ = some (.string b.u))
    (first | exact two_at oa ob | exact two_at oa6 ob6 | exact two_at oa7 ob7)
    (first
      | (go_at_call 12; have M2q := M2'; refine (N2 _ M2q hs6).mono ?_; rintro e w7 ⟨rfl, O2, G7⟩; have oa7 := (G7.block _ (Array.getElem?_eq_some_iff.1 oa6).1 (by simp; omega)).trans oa6; have ob7 := (G7.block _ (Array.getElem?_eq_some_iff.1 ob6).1 (by simp; omega)).trans ob6)
      | (go_at_call 12; refine (N1 _).mono ?_; rintro e w6 ⟨rfl, O1, G6⟩; obtain ⟨hs6, M2', oa6, ob6⟩ := after1 _ _ G6))
  have hw67 : w.heap.size ≤ w7.heap.size := Nat.le_trans hs6 G7.size
  have O1' := O1.beside G7 ⟨_, _, M2'.cells⟩ hne
  have B7 : Below w.heap.size w w7 := ((B5.grown (drewNG w5 _) B5.size (by simp)).grown G6 (Nat.le_trans B5.size (drewNG w5 _).size) (fun k hk => by injection hk with hk; omega)).grown G7 hs6 (fun k hk => by injection hk with hk; omega)
  have C1 := Covers_calls a b ha hb w7
  have C2 := fun W => RCovers_calls a b ha hb W
  obtain ⟨a0, a1, a2, a3⟩ := rd_cells oa7
  obtain ⟨b0, b1, b2, b3⟩ := rd_cells ob7
  clear M1 M2 N1 N2 after1 oa6 ob6 G6 G7 M2'
  replace B7 := Aside0.mk B7
  obtain ⟨hka⟩ := hka
  obtain ⟨hkb⟩ := hkb
  cases hma : mayB a with
  | false =>
    rw [hma, if_neg (by decide)] at hka
    subst hka
    clear hkb
    go_wp2
    go_ret
    exact ⟨rfl, B7.out⟩
  | true =>
    rw [hma, if_pos rfl] at hka
    subst hka
    cases hmb : mayB b with
    | false =>
      rw [hmb, if_neg (by decide)] at hkb
      subst hkb
      go_wp2
      go_ret
      exact ⟨rfl, B7.out⟩
    | true =>
      rw [hmb, if_pos rfl] at hkb
      subst hkb
      generalize hcv : covB a b = cv at C1 C2
      go_wp2_with fail
      refine C1.mono ?_
      rintro e w8 ⟨rfl, D8⟩
      have B8 := below_then B7.out B7.out.size D8
      have oa8 := blk_below oa7 D8
      have ob8 := blk_below ob7 D8
      obtain ⟨a0, a1, a2, a3⟩ := rd_cells oa8
      obtain ⟨b0, b1, b2, b3⟩ := rd_cells ob8
      cases cv with
      | false =>
        have C2' := C2 w8
        go_wp2_with fail
        refine C2'.mono ?_
        rintro e w9 ⟨rfl, D9⟩
        go_wp2
        go_ret
        exact ⟨rfl, below_then B8 B8.size D9⟩
      | true =>
        obtain ⟨htl, hc⟩ := covB_parts hcv
        replace O1' := O1'.kept (grown_of_below D8 none)
        have R2 := one_readers (O2.kept (grown_of_below D8 none)) hmb key
        cases hk : holdB b key with
        | false =>
          rw [hk, if_neg (by decide)] at R2
          go_wp2_with fail
          refine R2.mono ?_
          rintro e w9 ⟨⟨A, c, rfl⟩, D9⟩
          go_wp2
          go_ret
          exact ⟨rfl, below_then B8 B8.size D9⟩
        | true =>
          rw [hk, if_pos rfl] at R2
          have hk2 := cov_holds hc hk
          go_wp2_with fail
          refine R2.mono ?_
          rintro e w9 ⟨⟨A, c, rfl⟩, D9⟩
          have R1 := one_readers (O1'.kept (grown_of_below D9 none)) hma key
          rw [hk2, if_pos rfl] at R1
          have oa9 := blk_below oa8 D9
          obtain ⟨c0, c1, c2, c3⟩ := rd_cells oa9
          go_wp2_with fail
          refine R1.mono ?_
          rintro e w10 ⟨⟨A, c, rfl⟩, D10⟩
          go_wp2
          go_ret
          have B9 := below_then B8 B8.size D9
          exact ⟨rfl, below_then B9 B9.size D10⟩
end Go.Proofs.Yteikmnokmcnmcaa
