import Derived.Test.YteikmnokmcnmcaaMB
import Derived.Test.YteikmnokmcnmcaaK1
namespace Go.Proofs.Yteikmnokmcnmcaa
open Go.RowKit Go.Maps Go.Sort Go.Lib Go.Proofs.YteikmnokmcnmcaaW.PrintWords Go.Proofs.YteikmnokmcnmcaaW.PrintLast Go.Proofs.YteikmnokmcnmcaaW.PrintMore
set_option linter.unusedVariables false
set_option linter.unusedSimpArgs false
set_option linter.unusedSectionVars false
/-! ### what covers a note holds each of its keys -/
theorem less_trans {a b c : List UInt8} (h : Op.bytesLess a b = true) (h' : Op.bytesLess b c = true) : Op.bytesLess a c = true := by
  rw [bytesLess_eq, decide_eq_true_eq] at *
  exact List.lt_trans h h'
theorem less_le {a b c : List UInt8} (h : Op.bytesLess a b = true) (h' : Op.bytesLess c b = false) : Op.bytesLess a c = true := by
  rw [bytesLess_eq, decide_eq_true_eq] at h ⊢
  rw [bytesLess_eq, decide_eq_false_iff_not] at h'
  exact Std.lt_of_lt_of_le h (List.not_lt.1 h')
theorem le_trans' {a b c : List UInt8} (h : Op.bytesLess b a = false) (h' : Op.bytesLess c b = false) : Op.bytesLess c a = false := by
  rw [bytesLess_eq, decide_eq_false_iff_not] at *
  exact List.not_lt.2 (List.le_trans (List.not_lt.1 h) (List.not_lt.1 h'))
theorem less_snoc : ∀ (a b : List UInt8), Op.bytesLess a (b ++ [0]) = !Op.bytesLess b a
  | [], [] => rfl
  | [], y :: b => rfl
  | x :: a, [] => by
    simp only [List.nil_append, Op.bytesLess]
    by_cases h : x < 0
    · exact absurd h (by simp)
    · cases a <;> simp [Op.bytesLess, h]
  | x :: a, y :: b => by
    have := less_snoc a b
    simp only [List.cons_append, Op.bytesLess]
    rcases Nat.lt_trichotomy x.toNat y.toNat with h | h | h
    · have h3 : x < y := h
      have h2 : ¬ y < x := UInt8.lt_asymm h3
      have h4 : ¬ y = x := by rintro rfl; omega
      simp [h3, h2, h4]
    · have h := UInt8.toNat_inj.1 h
      subst h
      simp [this]
    · have h3 : y < x := h
      have h2 : ¬ x < y := UInt8.lt_asymm h3
      have h4 : x ≠ y := by rintro rfl; omega
      simp [h3, h2, h4]
theorem less_irrefl (a : List UInt8) : Op.bytesLess a a = false := by
  rw [bytesLess_eq, decide_eq_false_iff_not]
  exact List.lt_irrefl _
theorem less_nil (a : List UInt8) : Op.bytesLess a [] = false := by cases a <;> rfl
theorem holdB_span (y : Rd) (key : ByteArray) : holdB y key = (!Op.bytesLess key.toList (spn y).1.toList && (!(spn y).2.2 || Op.bytesLess key.toList (spn y).2.1.toList)) := by
  unfold holdB spn
  by_cases h1 : y.k = 1
  · simp only [h1, if_true]
    have e : (y.f ++ ⟨#[0]⟩ : ByteArray).toList = y.f.toList ++ [0] := by rw [Lib.toList_data, Lib.toList_data, ByteArray.toList_data_append]
    rw [e, less_snoc]
    by_cases hk : y.f.toList = key.toList
    · simp [hk, less_irrefl]
    · have := gtr_less y.f.toList key.toList
      have e2 : (y.f.toList == key.toList) = false := by simpa using hk
      rw [e2] at this ⊢
      rw [← this]
      cases Op.bytesLess y.f.toList key.toList <;> rfl
  · by_cases h2 : y.k = 2
    · simp [h2, h1]
    · simp [h1, h2, less_nil]
theorem cov_holds {a b : Rd} (h : cov a b = true) {key : ByteArray} (hb : holdB b key = true) : holdB a key = true := by
  rw [holdB_span] at *
  unfold cov at h
  simp only [Bool.and_eq_true, Bool.or_eq_true, Bool.not_eq_true'] at *
  obtain ⟨h1, h2⟩ := h
  obtain ⟨g1, g2⟩ := hb
  refine ⟨le_trans' h1 g1, ?_⟩
  rcases h2 with h2 | ⟨h2, h3⟩
  · exact .inl h2
  · rw [h2] at g2
    rcases g2 with g2 | g2
    · cases g2
    · exact .inr (less_le g2 h3)
end Go.Proofs.Yteikmnokmcnmcaa
namespace Go.Proofs.Yteikmnokmcnmcaa
open Go.RowKit Go.Maps Go.Sort Go.Lib Go.Proofs.YteikmnokmcnmcaaW.PrintWords Go.Proofs.YteikmnokmcnmcaaW.PrintLast Go.Proofs.YteikmnokmcnmcaaW.PrintMore
set_option linter.unusedVariables false
set_option linter.unusedSimpArgs false
set_option linter.unusedSectionVars false
/-! ### one note in a manager of one -/
theorem Mr.beside {w w' : World} {base p b q : Nat} {most many : Int} {L : List (Pl × Sv)} {R : Pl → List Rd} (h : Mr w base p b most many L R) (hg : w.grownBy w' (some q)) (hq : ∃ c s, w.heap[q]? = some (.cells c 55 s)) (hp : p ≠ q) : Mr w' base p b most many L R where
  cells := (hg.block p (Array.getElem?_eq_some_iff.1 h.cells).1 (by simpa using hp)).trans h.cells
  tab := h.tab.kept hg (by
    rintro e
    injection e with e
    subst e
    obtain ⟨es, clock, hb⟩ := h.tab.isMap
    obtain ⟨c, s, hq⟩ := hq
    rw [hb] at hq
    cases hq)
  low := h.low
  rows := fun e he => (h.rows e he).grown hg (fun k hk e' => by
    injection hk with hk
    subst hk
    obtain ⟨_, _, cells, hc⟩ := (h.rows e he).typed _ e'
    obtain ⟨c, s, hq⟩ := hq
    rw [hq] at hc
    injection hc with hc
    injection hc with _ hc
    cases hc)
  off := h.off
  good := h.good
def One (w : World) (base p : Nat) (x : Rd) : Prop := ∃ b L R many, Mr w base p b 1 many L R ∧ L.length ≤ 1 ∧ (∀ q, (R q).length ≤ 1) ∧ (mayB x = true → ∀ key, readersOf L R x.t key = if holdB x key then [1] else [])
theorem One.beside {w w' : World} {base p q : Nat} {x : Rd} (h : One w base p x) (hg : w.grownBy w' (some q)) (hq : ∃ c s, w.heap[q]? = some (.cells c 55 s)) (hp : p ≠ q) : One w' base p x := by
  obtain ⟨b, L, R, many, M, r⟩ := h
  exact ⟨b, L, R, many, M.beside hg hq hp, r⟩
theorem One.kept {w w' : World} {base p : Nat} {x : Rd} (h : One w base p x) (hg : w.grownBy w' none) : One w' base p x := by
  obtain ⟨b, L, R, many, M, r⟩ := h
  exact ⟨b, L, R, many, M.kept hg, r⟩
theorem Note_one (base p b : Nat) (x : Rd) (w : World) (h : Mr w base p b 1 0 [] (fun _ => [])) (hx : x.OK) (hb0 : base ≤ w.heap.size) :
    Calls Try.prog 12 #[.pointer (some ⟨p, 0, none⟩), .int .i64 1, .agg #[.string x.t, .int .i64 x.k, .string x.f, .string x.u]] w fun e w' => e = .returned (.int .i64 (if mayB x = true then 0 else 1)) ∧ One w' base p x ∧ w.grownBy w' (some p) := by
  cases hm : mayB x with
  | false =>
    refine (Note_bad base p b 1 0 [] _ 1 x w h hx (.inr hm)).mono ?_
    rintro e w' ⟨rfl, B⟩
    refine ⟨by simp, ⟨b, _, _, _, h.kept (grown_of_below B none), by simp, by simp, by simp [hm]⟩, grown_of_below B _⟩
  | true =>
    have C2 := Note_calls base p b 1 0 [] (fun _ => []) 1 x w h hx (by omega) (by decide) hm (by simp) (by simp) (by simp) (by omega) (by simp) (by simp [left]) hb0
    refine C2.mono ?_
    rintro e w' ⟨rfl, b2, s2, M2, G2⟩
    refine ⟨by simp, ⟨b2, _, _, _, M2, by rw [upd_length]; simp; split <;> omega, fun q => by split <;> simp [left], fun _ key => ?_⟩, G2⟩
    refine (rise_eq (by split <;> simp) (fun y => ?_)).symm
    cases hh : holdB x key <;> simp [upd, got, hitB, left, hh]
end Go.Proofs.Yteikmnokmcnmcaa
namespace Go.Proofs.Yteikmnokmcnmcaa
open Go.RowKit Go.Maps Go.Sort Go.Lib Go.Proofs.YteikmnokmcnmcaaW.PrintWords Go.Proofs.YteikmnokmcnmcaaW.PrintLast Go.Proofs.YteikmnokmcnmcaaW.PrintMore
set_option linter.unusedVariables false
set_option linter.unusedSimpArgs false
set_option linter.unusedSectionVars false
/-! ### SireadHolds -/
theorem one_readers {base p : Nat} {x : Rd} {w : World} (h : One w base p x) (hm : mayB x = true) (key : ByteArray) :
    Calls Try.prog 13 #[.pointer (some ⟨p, 0, none⟩), .string x.t, .string key] w fun e w' => (∃ A c, e = .returned (.slice A (if holdB x key = true then 1 else 0) c)) ∧ Below w.heap.size w w' := by
  obtain ⟨b, L, R, many, M, hL, hR, hr⟩ := h
  refine (Readers_calls _ _ _ _ _ _ _ x.t key w M (by omega) (fun q => by have := hR q; omega)).mono ?_
  rintro e w' ⟨v, rfl, H, B⟩
  rw [hr hm key] at H
  refine ⟨?_, B⟩
  obtain ⟨A, c, rfl, _⟩ := (Lo.ofR H).slice
  refine ⟨A, c, ?_⟩
  cases holdB x key <;> rfl
theorem covB_parts {a b : Rd} (h : covB a b = true) : a.t.toList = b.t.toList ∧ cov a b = true := by
  unfold covB at h
  simp only [Bool.and_eq_true, beq_iff_eq] at h
  exact h.2.2
set_option maxHeartbeats 8000000 in
set_option maxRecDepth 100000 in
theorem SireadHolds_calls (a b : Rd) (key : ByteArray) (w : World) (ha : a.OK) (hb : b.OK) : Calls Try.prog 4 #[mkR a, mkR b, .string key] w fun e w' => e = .returned (.bool true) ∧ Below w.heap.size w w' := by
  obtain ⟨w2, hw2, B2, oa, ob⟩ := two_boxes w a b
  have hs2 : w2.heap.size = w.heap.size + 2 := by rw [hw2]; simp
  have NA := New_calls 1 w.heap.size w2 B2.size (by omega) (by omega)
  have LV := fun W => live_calls W
  go_enter Try.func4, Try.ntmps4
  go_upto_region 1 with (fail)
  rw [← hw2]
  clear hw2
  obtain ⟨p1, hp1⟩ : ∃ p1, p1 = w2.heap.size + 1 := ⟨_, rfl⟩
  rw [← hp1] at NA
  have hle : w.heap.size + 2 ≤ p1 := by omega
  clear hp1
  go_wp2_with fail
  refine NA.mono ?_
  rintro e w3 ⟨rfl, M1, D3⟩
  have B3 := below_then B2 B2.size D3
  have hp1' : p1 < w3.heap.size := (Array.getElem?_eq_some_iff.1 M1.cells).1
  have NB := New_calls 1 w.heap.size w3 B3.size (by omega) (by omega)
  obtain ⟨p2, hp2⟩ : ∃ p2, p2 = w3.heap.size + 1 := ⟨_, rfl⟩
  rw [← hp2] at NB
  have hne : p1 ≠ p2 := by omega
  have hle2 : w.heap.size + 2 ≤ p2 := by omega
  clear hp2
  go_wp2_with fail
  refine NB.mono ?_
  rintro e w4 ⟨rfl, M2, D4⟩
  have B4 := below_then B3 B3.size D4
  replace M1 := M1.kept (grown_of_below D4 none)
  have LV4 := LV w4
  go_wp2_with fail
  refine LV4.mono ?_
  rintro e w5 ⟨rfl, D5⟩
  have B5 := below_then B4 B4.size D5
  replace M1 := M1.kept (grown_of_below D5 none)
  replace M2 := M2.kept (grown_of_below D5 none)
  have ge2 : w.heap.size ≤ w2.heap.size := B2.size
  replace oa := blk_below (blk_below (blk_below oa D3) D4) D5
  replace ob := blk_below (blk_below (blk_below ob D3) D4) D5
  obtain ⟨ka, hka⟩ : ∃ ka : Int, ka = (if mayB a = true then 0 else 1) := ⟨_, rfl⟩
  obtain ⟨kb, hkb⟩ : ∃ kb : Int, kb = (if mayB b = true then 0 else 1) := ⟨_, rfl⟩
  have N1 := fun n => Note_one w.heap.size p1 w2.heap.size a (w5.drewN n) (M1.kept (drewNG w5 n)) ha B5.size
  have N2 := fun W h1 h2 => Note_one w.heap.size p2 w3.heap.size b W h1 hb h2
  rw [← hka] at N1
  rw [← hkb] at N2
  replace hka := Aside0.mk hka
  replace hkb := Aside0.mk hkb
  clear NA NB LV LV4
  replace D3 := Aside0.mk D3
  replace D4 := Aside0.mk D4
  replace D5 := Aside0.mk D5
  replace B2 := Aside0.mk B2
  replace B3 := Aside0.mk B3
  replace B4 := Aside0.mk B4
  have hna : p1 ≠ w.heap.size := by omega
  have hnb : p1 ≠ w.heap.size + 1 := by omega

  have after1 : ∀ n w6, (w5.drewN n).grownBy w6 (some p1) → w.heap.size ≤ w6.heap.size ∧ Mr w6 w.heap.size p2 w3.heap.size 1 0 [] (fun _ => []) ∧ w6.heap[w.heap.size]? = some (boxR a) ∧ w6.heap[w.heap.size + 1]? = some (boxR b) := fun n w6 G =>
    ⟨Nat.le_trans B5.size G.size, (M2.kept (drewNG w5 n)).beside G ⟨_, _, M1.cells⟩ (fun e => hne e.symm), (G.block _ (Array.getElem?_eq_some_iff.1 oa).1 (by simp; omega)).trans oa, (G.block _ (Array.getElem?_eq_some_iff.1 ob).1 (by simp; omega)).trans ob⟩
  go_wp2_with fail
  go_region_held3 (fun V => V.cell? ⟨w.heap.size, 0, none⟩ = some (.string a.t) ∧ V.cell? ⟨w.heap.size, 1, none⟩ = some (.int .i64 a.k) ∧ V.cell? ⟨w.heap.size, 2, none⟩ = some (.string a.f) ∧ V.cell? ⟨w.heap.size, 3, none⟩ = some (.string a.u) ∧ V.cell? ⟨w.heap.size + 1, 0, none⟩ = some (.string b.t) ∧ V.cell? ⟨w.heap.size + 1, 1, none⟩ = some (.int .i64 b.k) ∧ V.cell? ⟨w.heap.size + 1, 2, none⟩ = some (.string b.f) ∧ V.cell? ⟨w.heap.size + 1, 3, none⟩ = some (.string b.u))
    (first | exact two_at oa ob | exact two_at oa6 ob6 | exact two_at oa7 ob7)
    (first
      | (go_at_call 12; have M2q := M2'; refine (N2 _ M2q hs6).mono ?_; rintro e w7 ⟨rfl, O2, G7⟩; have oa7 := (G7.block _ (Array.getElem?_eq_some_iff.1 oa6).1 (by simp; omega)).trans oa6; have ob7 := (G7.block _ (Array.getElem?_eq_some_iff.1 ob6).1 (by simp; omega)).trans ob6)
      | (go_at_call 12; refine (N1 _).mono ?_; rintro e w6 ⟨rfl, O1, G6⟩; obtain ⟨hs6, M2', oa6, ob6⟩ := after1 _ _ G6))
  have hw67 : w.heap.size ≤ w7.heap.size := Nat.le_trans hs6 G7.size
  have O1' := O1.beside G7 ⟨_, _, M2'.cells⟩ hne
  have B7 : Below w.heap.size w w7 := ((B5.grown (drewNG w5 _) B5.size (by simp)).grown G6 (Nat.le_trans B5.size (drewNG w5 _).size) (fun k hk => by injection hk with hk; omega)).grown G7 hs6 (fun k hk => by injection hk with hk; omega)
  have C1 := Covers_calls a b ha hb w7
  have C2 := fun W => RCovers_calls a b ha hb W
  obtain ⟨a0, a1, a2, a3⟩ := rd_cells oa7
  obtain ⟨b0, b1, b2, b3⟩ := rd_cells ob7
  clear M1 M2 N1 N2 after1 oa6 ob6 G6 G7 M2'
  replace B7 := Aside0.mk B7
  obtain ⟨hka⟩ := hka
  obtain ⟨hkb⟩ := hkb
  cases hma : mayB a with
  | false =>
    rw [hma, if_neg (by decide)] at hka
    subst hka
    clear hkb
    go_wp2
    go_ret
    exact ⟨rfl, B7.out⟩
  | true =>
    rw [hma, if_pos rfl] at hka
    subst hka
    cases hmb : mayB b with
    | false =>
      rw [hmb, if_neg (by decide)] at hkb
      subst hkb
      go_wp2
      go_ret
      exact ⟨rfl, B7.out⟩
    | true =>
      rw [hmb, if_pos rfl] at hkb
      subst hkb
      generalize hcv : covB a b = cv at C1 C2
      go_wp2_with fail
      refine C1.mono ?_
      rintro e w8 ⟨rfl, D8⟩
      have B8 := below_then B7.out B7.out.size D8
      have oa8 := blk_below oa7 D8
      have ob8 := blk_below ob7 D8
      obtain ⟨a0, a1, a2, a3⟩ := rd_cells oa8
      obtain ⟨b0, b1, b2, b3⟩ := rd_cells ob8
      cases cv with
      | false =>
        have C2' := C2 w8
        go_wp2_with fail
        refine C2'.mono ?_
        rintro e w9 ⟨rfl, D9⟩
        go_wp2
        go_ret
        exact ⟨rfl, below_then B8 B8.size D9⟩
      | true =>
        obtain ⟨htl, hc⟩ := covB_parts hcv
        replace O1' := O1'.kept (grown_of_below D8 none)
        have R2 := one_readers (O2.kept (grown_of_below D8 none)) hmb key
        cases hk : holdB b key with
        | false =>
          rw [hk, if_neg (by decide)] at R2
          go_wp2_with fail
          refine R2.mono ?_
          rintro e w9 ⟨⟨A, c, rfl⟩, D9⟩
          go_wp2
          go_ret
          exact ⟨rfl, below_then B8 B8.size D9⟩
        | true =>
          rw [hk, if_pos rfl] at R2
          have hk2 := cov_holds hc hk
          go_wp2_with fail
          refine R2.mono ?_
          rintro e w9 ⟨⟨A, c, rfl⟩, D9⟩
          have R1 := one_readers (O1'.kept (grown_of_below D9 none)) hma key
          rw [hk2, if_pos rfl] at R1
          have oa9 := blk_below oa8 D9
          obtain ⟨c0, c1, c2, c3⟩ := rd_cells oa9
          go_wp2_with fail
          refine R1.mono ?_
          rintro e w10 ⟨⟨A, c, rfl⟩, D10⟩
          go_wp2
          go_ret
          have B9 := below_then B8 B8.size D9
          exact ⟨rfl, below_then B9 B9.size D10⟩
end Go.Proofs.Yteikmnokmcnmcaa
namespace Go.Proofs.Yteikmnokmcnmcaa
open Go.ChangeShapes Go.WideShapes Go.ChangeAt Go.RowKit Go.Proofs.YteikmnokmcnmcaaW.PrintWords Go.Proofs.YteikmnokmcnmcaaW.PrintLast Go.Proofs.YteikmnokmcnmcaaW.PrintMore
set_option linter.unusedVariables false
set_option linter.unusedSimpArgs false
set_option linter.unusedSectionVars false
/-! ### operations as they came; the functions of no manager -/
structure Sop where
  kind : Int
  txn : Int
  x : Rd
  key : ByteArray
structure Sop.OK (o : Sop) : Prop where
  kind : (Lit.int .i64 o.kind).wf = true
  txn : (Lit.int .i64 o.txn).wf = true
  x : o.x.OK
  key : o.key.size ≤ reachBytes
def encO (o : Sop) : List Value := [.int .i64 o.kind, .int .i64 o.txn, .string o.x.t, .int .i64 o.x.k, .string o.x.f, .string o.x.u, .string o.key]
abbrev dOp : Kd Sop := Kd.flat encO 7 (fun _ => rfl) (fun o u hu => by simp only [encO, List.mem_cons, List.not_mem_nil, or_false] at hu; rcases hu with rfl | rfl | rfl | rfl | rfl | rfl | rfl <;> rfl)
abbrev mkO (o : Sop) : Value := .agg #[.int .i64 o.kind, .int .i64 o.txn, .string o.x.t, .int .i64 o.x.k, .string o.x.f, .string o.x.u, .string o.key]
section
variable {H : Type} {enc : TypeId × Value → H} {w : World} {base : Nat} {spare : Nat → Bool} {held : Bool}
set_option maxRecDepth 100000 in
theorem opens_op : Opens enc Try.prog w base spare held 41 dOp Sop.OK := by
  intro fuel cs y h hl
  obtain ⟨hc, hf⟩ := opens_fields Try.underlying41 h hl
  have hc2 : cs.length = 7 := hc.trans (by kernel_rfl)
  match cs, hc2 with
  | [v0, v1, v2, v3, v4, v5, v6], _ =>
    have f0 : FldAt enc Try.prog w base spare held [v0, v1, v2, v3, v4, v5, v6] 3 0 := hf 0 _ rfl
    obtain ⟨n0, y0, t0, g0⟩ := f0
    have f1 : FldAt enc Try.prog w base spare held [v0, v1, v2, v3, v4, v5, v6] 2 1 := hf 1 _ rfl
    obtain ⟨n1, y1, t1, g1⟩ := f1
    have f2 : FldAt enc Try.prog w base spare held [v0, v1, v2, v3, v4, v5, v6] 23 2 := hf 2 _ rfl
    obtain ⟨n2, y2, t2, g2⟩ := f2
    have f3 : FldAt enc Try.prog w base spare held [v0, v1, v2, v3, v4, v5, v6] 9 6 := hf 3 _ rfl
    obtain ⟨n3, y3, t3, g3⟩ := f3
    have k3 : Try.prog.cellsOf 3 = 1 := by kernel_rfl
    have k2 : Try.prog.cellsOf 2 = 1 := by kernel_rfl
    have k23 : Try.prog.cellsOf 23 = 4 := by kernel_rfl
    simp only [k3, k2, k23, cells9, List.drop_zero, List.drop_succ_cons, List.take_succ_cons, List.take_zero] at t0 t1 t2 t3
    obtain ⟨a0, e0, w0⟩ := opens_int (k := .i64) Try.underlying3 _ _ _ t0 g0
    obtain ⟨a1, e1, w1⟩ := opens_int (k := .i64) Try.underlying2 _ _ _ t1 g1
    obtain ⟨x, e2, w2⟩ := opens_rd t2 g2
    obtain ⟨a3, e3, w3⟩ := opens_string Try.underlying9 _ _ _ t3 g3
    cases e0; cases e1; cases e2; cases e3
    exact ⟨⟨a0, a1, x, a3⟩, rfl, ⟨w0, w1, w2, w3⟩⟩
set_option maxRecDepth 100000 in
theorem open_opp {ts : List TypeId} {ds : List (DataW H)} (hsz : (DataW.weightsEach Try.prog ts ds).all (· ≤ reachBytes) = true) {j : Nat} {r : Reach} {b0 : Nat} {v : Value} {d : DataW H} {p : List MemPlace} (ht : ts[j]? = some 41) (hd : ds[j]? = some d)
    (hv : Value.okWide Try.prog w r b0 41 v) (h : DataW.Trod enc Try.prog w base spare held 41 v d p) : ∃ x : Sop, v = mkO x ∧ x.OK := by
  obtain ⟨ca, rfl, hs⟩ := okWide_struct Try.underlying41 hv
  obtain ⟨fuel, hf⟩ := h
  obtain ⟨x, e, hx⟩ := opens_op _ _ _ hf (light_of hsz ht hd)
  refine ⟨x, ?_, hx⟩
  have e' : ca.toList = encO x := e
  rw [← Array.toArray_toList (xs := ca), e']
  rfl
end
set_option maxRecDepth 100000 in
theorem Note_none (v : Value) (t : Int) (x : Rd) (w : World) (h : Mr0 w v) : Calls Try.prog 12 #[v, .int .i64 t, .agg #[.string x.t, .int .i64 x.k, .string x.f, .string x.u]] w fun e w' => e = .returned (.int .i64 2) ∧ Below w.heap.size w w' := by
  obtain ⟨w1, hw1⟩ : ∃ w1, w1 = w.alloc (.cells #[.string x.t, .int .i64 x.k, .string x.f, .string x.u] 23) := ⟨_, rfl⟩
  have B1 : Below w.heap.size w w1 := by rw [hw1]; exact boxed w x
  have N := none0_calls v w1 (by
    rcases h with h | ⟨p, h1, h2⟩
    · exact .inl h
    · exact .inr ⟨p, h1, (B1.cell (World.block_lt_of_cell? _ _ h2)).trans h2⟩)
  go_enter Try.func12, Try.ntmps12
  go_wp2_with fail
  rw [← hw1]
  clear hw1
  refine N.mono ?_
  rintro e w' ⟨rfl, rfl⟩
  go_wp2
  go_ret
  exact ⟨rfl, B1⟩
set_option maxRecDepth 100000 in
theorem Readers_none (v : Value) (tab key : ByteArray) (w : World) (h : Mr0 w v) : Calls Try.prog 13 #[v, .string tab, .string key] w fun e w' => e = .returned (.slice none 0 0) ∧ w = w' := by
  have N := none0_calls v w h
  go_enter Try.func13, Try.ntmps13
  go_wp2_with fail
  refine N.mono ?_
  rintro e w' ⟨rfl, rfl⟩
  go_wp2
  go_ret
  exact ⟨rfl, rfl⟩
set_option maxRecDepth 100000 in
theorem Of_none (v : Value) (t : Int) (w : World) (h : Mr0 w v) : Calls Try.prog 15 #[v, .int .i64 t] w fun e w' => e = .returned (.slice none 0 0) ∧ w = w' := by
  have N := none0_calls v w h
  go_enter Try.func15, Try.ntmps15
  go_wp2_with fail
  refine N.mono ?_
  rintro e w' ⟨rfl, rfl⟩
  go_wp2
  go_ret
  exact ⟨rfl, rfl⟩
set_option maxRecDepth 100000 in
theorem Txns_none (v : Value) (w : World) (h : Mr0 w v) : Calls Try.prog 22 #[v] w fun e w' => e = .returned (.slice none 0 0) ∧ w = w' := by
  have N := none0_calls v w h
  go_enter Try.func22, Try.ntmps22
  go_wp2_with fail
  refine N.mono ?_
  rintro e w' ⟨rfl, rfl⟩
  go_wp2
  go_ret
  exact ⟨rfl, rfl⟩
set_option maxRecDepth 100000 in
theorem Len_none (v : Value) (w : World) (h : Mr0 w v) : Calls Try.prog 17 #[v] w fun e w' => e = .returned (.int .i64 0) ∧ w = w' := by
  have N := none0_calls v w h
  go_enter Try.func17, Try.ntmps17
  go_wp2_with fail
  refine N.mono ?_
  rintro e w' ⟨rfl, rfl⟩
  go_wp2
  go_ret
  exact ⟨rfl, rfl⟩
theorem Mr0.kept {w w' : World} {v : Value} (h : Mr0 w v) (B : Below w.heap.size w w') : Mr0 w' v := by
  rcases h with h | ⟨p, h1, h2⟩
  · exact .inl h
  · exact .inr ⟨p, h1, (B.cell (World.block_lt_of_cell? _ _ h2)).trans h2⟩
set_option maxRecDepth 100000 in
theorem Drop_none (v : Value) (t : Int) (w : World) (h : Mr0 w v) : Calls Try.prog 18 #[v, .int .i64 t] w fun e w' => e = .returned (.int .i64 2) ∧ Below w.heap.size w w' := by
  obtain ⟨w1, hw1⟩ : ∃ w1, w1 = (w.alloc (.cells #[v] 26)).alloc (.cells #[.int .i64 t] 2) := ⟨_, rfl⟩
  have B1 : Below w.heap.size w w1 := by rw [hw1]; exact below_alloc ((Below.refl _ w).alloc (Nat.le_refl _) _) _
  have N := none0_calls v w1 (h.kept B1)
  have o1 : w1.heap[w.heap.size]? = some (.cells #[v] 26 (0, 0)) := by rw [hw1]; exact (Below.heap_alloc _ _ _ (by simp)).trans (heap_alloc_new w _)
  have c1 := cell_of_row w1 _ 0 _ 26 (0, 0) o1
  clear o1
  rcases h with rfl | ⟨p, rfl, hp⟩
  all_goals
    go_enter Try.func18, Try.ntmps18
    go_upto_region 1 with (fail)
    rw [← hw1]
    clear hw1
    go_wp2_with fail
    refine N.mono ?_
    rintro e w' ⟨rfl, rfl⟩
    go_wp2
    go_ret
    exact ⟨rfl, B1⟩
end Go.Proofs.Yteikmnokmcnmcaa
namespace Go.Proofs.Yteikmnokmcnmcaa
open Go.RowKit Go.Maps Go.Proofs.YteikmnokmcnmcaaW.PrintWords Go.Proofs.YteikmnokmcnmcaaW.PrintLast Go.Proofs.YteikmnokmcnmcaaW.PrintMore
set_option linter.unusedVariables false
set_option linter.unusedSimpArgs false
set_option linter.unusedSectionVars false
/-! ### SireadNone -/
set_option maxHeartbeats 8000000 in
set_option maxRecDepth 100000 in
theorem SireadNone_calls (o : Sop) (w : World) (ho : o.OK) : Calls Try.prog 7 #[mkO o] w fun e w' => e = .returned (.bool true) ∧ Below w.heap.size w w' := by
  obtain ⟨kind, txn, ⟨xt, xk, xf, xu⟩, key⟩ := o
  clear ho
  simp only [mkO]
  obtain ⟨w3, hw3⟩ : ∃ w3, w3 = ((w.alloc (.cells #[.int .i64 kind, .int .i64 txn, .string xt, .int .i64 xk, .string xf, .string xu, .string key] 41)).alloc (.cells #[.int .i64 0, .map none, .int .i64 0] 55)).alloc (.cells #[.pointer none, .pointer (some ⟨w.heap.size + 1, 0, none⟩)] 26) := ⟨_, rfl⟩
  have hBw3 : Below w.heap.size w w3 := by rw [hw3]; exact (((Below.refl _ w).alloc (Nat.le_refl _) _).alloc (by simp) _).alloc (by simp; omega) _
  have c1 : w3.cell? ⟨w.heap.size, 1, none⟩ = some (.int .i64 txn) := by rw [hw3]; simp [go_sem]
  have c2 : w3.cell? ⟨w.heap.size, 2, none⟩ = some (.string xt) := by rw [hw3]; simp [go_sem]
  have c3 : w3.cell? ⟨w.heap.size, 3, none⟩ = some (.int .i64 xk) := by rw [hw3]; simp [go_sem]
  have c4 : w3.cell? ⟨w.heap.size, 4, none⟩ = some (.string xf) := by rw [hw3]; simp [go_sem]
  have c5 : w3.cell? ⟨w.heap.size, 5, none⟩ = some (.string xu) := by rw [hw3]; simp [go_sem]
  have c6 : w3.cell? ⟨w.heap.size, 6, none⟩ = some (.string key) := by rw [hw3]; simp [go_sem]
  have s0 : w3.cell? ⟨w.heap.size + 2, 0, none⟩ = some (.pointer none) := by rw [hw3]; simp [go_sem]
  have s1 : w3.cell? ⟨w.heap.size + 2, 1, none⟩ = some (.pointer (some ⟨w.heap.size + 1, 0, none⟩)) := by rw [hw3]; simp [go_sem]
  have m1 : w3.cell? ⟨w.heap.size + 1, 1, none⟩ = some (.map none) := by rw [hw3]; simp [go_sem]
  have F : ∀ W, Below w3.heap.size w3 W → W.cell? ⟨w.heap.size, 1, none⟩ = some (.int .i64 txn) ∧ W.cell? ⟨w.heap.size, 2, none⟩ = some (.string xt) ∧ W.cell? ⟨w.heap.size, 3, none⟩ = some (.int .i64 xk) ∧ W.cell? ⟨w.heap.size, 4, none⟩ = some (.string xf) ∧ W.cell? ⟨w.heap.size, 5, none⟩ = some (.string xu) ∧
      W.cell? ⟨w.heap.size, 6, none⟩ = some (.string key) ∧ W.cell? ⟨w.heap.size + 2, 0, none⟩ = some (.pointer none) ∧ W.cell? ⟨w.heap.size + 2, 1, none⟩ = some (.pointer (some ⟨w.heap.size + 1, 0, none⟩)) ∧ W.cell? ⟨w.heap.size + 1, 1, none⟩ = some (.map none) := fun W hW => by
    have G : ∀ q j v, w3.cell? ⟨q, j, none⟩ = some v → W.cell? ⟨q, j, none⟩ = some v := fun q j v hv => (hW.cell (World.block_lt_of_cell? _ _ hv)).trans hv
    exact ⟨G _ _ _ c1, G _ _ _ c2, G _ _ _ c3, G _ _ _ c4, G _ _ _ c5, G _ _ _ c6, G _ _ _ s0, G _ _ _ s1, G _ _ _ m1⟩
  have Z0 : ∀ W, Below w3.heap.size w3 W → Mr0 W (.pointer none) := fun W _ => .inl rfl
  have Z1 : ∀ W, Below w3.heap.size w3 W → Mr0 W (.pointer (some ⟨w.heap.size + 1, 0, none⟩)) := fun W hW => .inr ⟨_, rfl, (F W hW).2.2.2.2.2.2.2.2⟩
  obtain ⟨W0, hW0⟩ : ∃ W0, W0 = w3 := ⟨_, rfl⟩
  have hB0 : Below w3.heap.size w3 W0 := by rw [hW0]; exact Below.refl _ _
  have LV := fun W => live_calls W
  have Below_then : ∀ {A B : World}, Below w3.heap.size w3 A → Below A.heap.size A B → Below w3.heap.size w3 B := fun h k => below_then h h.size k
  clear c1 c2 c3 c4 c5 c6 s0 s1 m1
  go_enter Try.func7, Try.ntmps7
  go_wp2_with fail
  rw [← hw3, ← hW0]
  clear hW0 hw3
  obtain ⟨c1, c2, c3, c4, c5, c6, s0, s1, _⟩ := F W0 hB0
  refine wp_loop_rounds 3 ?_
  rw [rounds_succ]
  go_wp2_with fail
  refine (Note_none (.pointer none) txn ⟨xt, xk, xf, xu⟩ W0 (Z0 W0 hB0)).mono ?_
  rintro e W1 ⟨rfl, D1⟩
  have hB1' := Below_then hB0 D1
  obtain ⟨c1, c2, c3, c4, c5, c6, s0, s1, _⟩ := F W1 hB1'
  go_wp2_with fail
  refine (Drop_none (.pointer none) txn W1 (Z0 W1 hB1')).mono ?_
  rintro e W2 ⟨rfl, D2⟩
  have hB2' := Below_then hB1' D2
  obtain ⟨c1, c2, c3, c4, c5, c6, s0, s1, _⟩ := F W2 hB2'
  go_wp2_with fail
  refine (Readers_none (.pointer none) xt key W2 (Z0 W2 hB2')).mono ?_
  rintro e W3 ⟨rfl, rfl⟩
  go_wp2_with fail
  refine (Of_none (.pointer none) txn W2 (Z0 W2 hB2')).mono ?_
  rintro e W3 ⟨rfl, rfl⟩
  go_wp2_with fail
  refine (Txns_none (.pointer none) W2 (Z0 W2 hB2')).mono ?_
  rintro e W3 ⟨rfl, rfl⟩
  go_wp2_with fail
  refine (Len_none (.pointer none) W2 (Z0 W2 hB2')).mono ?_
  rintro e W3 ⟨rfl, rfl⟩
  go_wp2_with fail
  clear c1 c2 c3 c4 c5 c6 s0 s1
  revert hB2'
  generalize W2 = W0
  intro hB0
  obtain ⟨c1, c2, c3, c4, c5, c6, s0, s1, _⟩ := F W0 hB0
  rw [rounds_succ]
  go_wp2_with fail
  refine (Note_none (.pointer (some ⟨w.heap.size + 1, 0, none⟩)) txn ⟨xt, xk, xf, xu⟩ W0 (Z1 W0 hB0)).mono ?_
  rintro e W1 ⟨rfl, D1⟩
  have hB1' := Below_then hB0 D1
  obtain ⟨c1, c2, c3, c4, c5, c6, s0, s1, _⟩ := F W1 hB1'
  go_wp2_with fail
  refine (Drop_none (.pointer (some ⟨w.heap.size + 1, 0, none⟩)) txn W1 (Z1 W1 hB1')).mono ?_
  rintro e W2 ⟨rfl, D2⟩
  have hB2' := Below_then hB1' D2
  obtain ⟨c1, c2, c3, c4, c5, c6, s0, s1, _⟩ := F W2 hB2'
  go_wp2_with fail
  refine (Readers_none (.pointer (some ⟨w.heap.size + 1, 0, none⟩)) xt key W2 (Z1 W2 hB2')).mono ?_
  rintro e W3 ⟨rfl, rfl⟩
  go_wp2_with fail
  refine (Of_none (.pointer (some ⟨w.heap.size + 1, 0, none⟩)) txn W2 (Z1 W2 hB2')).mono ?_
  rintro e W3 ⟨rfl, rfl⟩
  go_wp2_with fail
  refine (Txns_none (.pointer (some ⟨w.heap.size + 1, 0, none⟩)) W2 (Z1 W2 hB2')).mono ?_
  rintro e W3 ⟨rfl, rfl⟩
  go_wp2_with fail
  refine (Len_none (.pointer (some ⟨w.heap.size + 1, 0, none⟩)) W2 (Z1 W2 hB2')).mono ?_
  rintro e W3 ⟨rfl, rfl⟩
  go_wp2_with fail
  clear c1 c2 c3 c4 c5 c6 s0 s1
  revert hB2'
  generalize W2 = W0
  intro hB0
  obtain ⟨c1, c2, c3, c4, c5, c6, s0, s1, _⟩ := F W0 hB0
  rw [rounds_succ]
  go_wp2_with fail
  refine (LV _).mono ?_
  rintro e W9 ⟨rfl, D9⟩
  go_wp2
  go_ret
  have hB9 := Below_then hB0 D9
  exact ⟨rfl, below_then hBw3 hBw3.size hB9⟩
end Go.Proofs.Yteikmnokmcnmcaa
namespace Go.Proofs.Yteikmnokmcnmcaa
open Go.RowKit Go.Maps Go.Sort Go.Lib Go.Proofs.YteikmnokmcnmcaaW.PrintWords Go.Proofs.YteikmnokmcnmcaaW.PrintLast Go.Proofs.YteikmnokmcnmcaaW.PrintMore
set_option linter.unusedVariables false
set_option linter.unusedSimpArgs false
set_option linter.unusedSectionVars false
/-! ### cmp.Compare, cmp.Or -/
def cmpS (s u : ByteArray) : Int := if Op.bytesLess s.toList u.toList = true then -1 else if s.toList == u.toList then 0 else 1
def cmpN (s u : Int) : Int := if s < u then -1 else if s = u then 0 else 1
set_option maxRecDepth 100000 in
theorem isNaN57_calls (s : ByteArray) (w : World) : Calls Try.prog 57 #[.string s] w fun e w' => e = .returned (.bool false) ∧ w = w' := by
  go_enter Try.func57, Try.ntmps57
  go_wp2
  go_ret
  exact ⟨by simp, rfl⟩
set_option maxRecDepth 100000 in
theorem isNaN58_calls (s : Int) (w : World) : Calls Try.prog 58 #[.int .i64 s] w fun e w' => e = .returned (.bool false) ∧ w = w' := by
  go_enter Try.func58, Try.ntmps58
  go_wp2
  go_ret
  exact ⟨by simp, rfl⟩
set_option maxRecDepth 100000 in
theorem isNaN76_calls (s : Int) (w : World) : Calls Try.prog 76 #[.int .i64 s] w fun e w' => e = .returned (.bool false) ∧ w = w' := by
  go_enter Try.func76, Try.ntmps76
  go_wp2
  go_ret
  exact ⟨by simp, rfl⟩
set_option maxRecDepth 100000 in
theorem Compare42_calls (s u : ByteArray) (w : World) : Calls Try.prog 42 #[.string s, .string u] w fun e w' => e = .returned (.int .i64 (cmpS s u)) ∧ w = w' := by
  have N := fun s => isNaN57_calls s w
  unfold cmpS
  cases h1 : Op.bytesLess s.toList u.toList with
  | true =>
    simp only [if_true]
    go_enter Try.func42, Try.ntmps42
    go_wp2_with fail
    refine (N s).mono ?_
    rintro e w' ⟨rfl, rfl⟩
    go_wp2_with fail
    refine (N u).mono ?_
    rintro e w' ⟨rfl, rfl⟩
    go_wp2
    go_ret
    exact ⟨rfl, rfl⟩
  | false =>
    simp only [Bool.false_eq_true, if_false]
    cases h2 : s.toList == u.toList with
    | true =>
      simp only [if_true]
      go_enter Try.func42, Try.ntmps42
      go_wp2_with fail
      refine (N s).mono ?_
      rintro e w' ⟨rfl, rfl⟩
      go_wp2_with fail
      refine (N u).mono ?_
      rintro e w' ⟨rfl, rfl⟩
      go_wp2
      go_ret
      exact ⟨rfl, rfl⟩
    | false =>
      simp only [Bool.false_eq_true, if_false]
      go_enter Try.func42, Try.ntmps42
      go_wp2_with fail
      refine (N s).mono ?_
      rintro e w' ⟨rfl, rfl⟩
      go_wp2_with fail
      refine (N u).mono ?_
      rintro e w' ⟨rfl, rfl⟩
      go_wp2
      go_ret
      exact ⟨rfl, rfl⟩
set_option maxRecDepth 100000 in
theorem Compare43_calls (s u : Int) (w : World) : Calls Try.prog 43 #[.int .i64 s, .int .i64 u] w fun e w' => e = .returned (.int .i64 (cmpN s u)) ∧ w = w' := by
  have N := fun s => isNaN58_calls s w
  unfold cmpN
  rcases Int.lt_trichotomy s u with h1 | h1 | h1
  · rw [if_pos h1]
    go_enter Try.func43, Try.ntmps43
    go_wp2_with fail
    refine (N s).mono ?_
    rintro e w' ⟨rfl, rfl⟩
    go_wp2_with fail
    refine (N u).mono ?_
    rintro e w' ⟨rfl, rfl⟩
    go_wp2
    go_ret
    exact ⟨rfl, rfl⟩
  · subst h1
    rw [if_neg (Int.lt_irrefl _), if_pos rfl]
    go_enter Try.func43, Try.ntmps43
    go_wp2_with fail
    refine (N s).mono ?_
    rintro e w' ⟨rfl, rfl⟩
    go_wp2_with fail
    refine (N s).mono ?_
    rintro e w' ⟨rfl, rfl⟩
    go_wp2
    go_ret
    exact ⟨rfl, rfl⟩
  · have h2 : ¬ s < u := by omega
    have h3 : ¬ s = u := by omega
    rw [if_neg h2, if_neg h3]
    go_enter Try.func43, Try.ntmps43
    go_wp2_with fail
    refine (N s).mono ?_
    rintro e w' ⟨rfl, rfl⟩
    go_wp2_with fail
    refine (N u).mono ?_
    rintro e w' ⟨rfl, rfl⟩
    go_wp2
    go_ret
    exact ⟨rfl, rfl⟩
set_option maxRecDepth 100000 in
theorem Compare62_calls (s u : Int) (w : World) : Calls Try.prog 62 #[.int .i64 s, .int .i64 u] w fun e w' => e = .returned (.int .i64 (cmpN s u)) ∧ w = w' := by
  have N := fun s => isNaN76_calls s w
  unfold cmpN
  rcases Int.lt_trichotomy s u with h1 | h1 | h1
  · rw [if_pos h1]
    go_enter Try.func62, Try.ntmps62
    go_wp2_with fail
    refine (N s).mono ?_
    rintro e w' ⟨rfl, rfl⟩
    go_wp2_with fail
    refine (N u).mono ?_
    rintro e w' ⟨rfl, rfl⟩
    go_wp2
    go_ret
    exact ⟨rfl, rfl⟩
  · subst h1
    rw [if_neg (Int.lt_irrefl _), if_pos rfl]
    go_enter Try.func62, Try.ntmps62
    go_wp2_with fail
    refine (N s).mono ?_
    rintro e w' ⟨rfl, rfl⟩
    go_wp2_with fail
    refine (N s).mono ?_
    rintro e w' ⟨rfl, rfl⟩
    go_wp2
    go_ret
    exact ⟨rfl, rfl⟩
  · have h2 : ¬ s < u := by omega
    have h3 : ¬ s = u := by omega
    rw [if_neg h2, if_neg h3]
    go_enter Try.func62, Try.ntmps62
    go_wp2_with fail
    refine (N s).mono ?_
    rintro e w' ⟨rfl, rfl⟩
    go_wp2_with fail
    refine (N u).mono ?_
    rintro e w' ⟨rfl, rfl⟩
    go_wp2
    go_ret
    exact ⟨rfl, rfl⟩
/-- the first that is not nought -/
def fst0 : List Int → Int
  | [] => 0
  | x :: xs => if x ≠ 0 then x else fst0 xs
theorem fst0_drop (xs : List Int) (i : Nat) (x : Int) (h : xs[i]? = some x) : fst0 (xs.drop i) = if x ≠ 0 then x else fst0 (xs.drop (i + 1)) := by
  obtain ⟨hi, rfl⟩ := List.getElem?_eq_some_iff.1 h
  rw [List.drop_eq_getElem_cons hi]
  rfl
def OrJ (w : World) (xs : List Int) (v : Value) (wr : World) : Prop := ∃ i : Nat, v = .int .i64 (i : Int) ∧ i ≤ xs.length ∧ wr = w ∧ fst0 xs = fst0 (xs.drop i)
set_option maxHeartbeats 1000000 in
set_option maxRecDepth 100000 in
theorem Or_calls (g c : Nat) (xs : List Int) (w : World) (hl : xs.length ≤ 65536) (h : ∀ j x, xs[j]? = some x → w.cell? ⟨g, j, none⟩ = some (.int .i64 x)) :
    Calls Try.prog 41 #[.slice (some ⟨g, 0, none⟩) xs.length c] w fun e w' => e = .returned (.int .i64 (fst0 xs)) ∧ w = w' := by
  go_enter Try.func41, Try.ntmps41
  go_wp2_with fail
  go_loopw [8] (fun v wr => OrJ w xs v wr) (fun v _ => xs.length - (intOf v).toNat)
  case atStart => exact ⟨0, rfl, Nat.zero_le _, rfl, rfl⟩
  case round =>
    obtain ⟨i, rfl, hi, rfl, he⟩ := hrel
    by_cases hlt : i < xs.length
    · have hx := h i xs[i] (List.getElem?_eq_getElem hlt)
      have hd := fst0_drop xs i xs[i] (List.getElem?_eq_getElem hlt)
      generalize xs[i] = x at hx hd
      clear h
      by_cases hx0 : x = 0
      · subst hx0
        rw [if_neg (by simp)] at hd
        go_wp2
        go_roundw
        case rel => exact ⟨i + 1, by go_num, by omega, rfl, he.trans hd⟩
        case measure => simp [intOf]; omega
      · have hx1 : (x != 0) = true := by simpa using hx0
        rw [if_pos hx0] at hd
        go_wp2
        go_ret
        exact ⟨by rw [he, hd]; rfl, rfl⟩
    · obtain rfl : i = xs.length := by omega
      rw [List.drop_length] at he
      go_wp2
      go_ret
      exact ⟨by rw [he]; rfl, rfl⟩
end Go.Proofs.Yteikmnokmcnmcaa
namespace Go.Proofs.Yteikmnokmcnmcaa
open Go.RowKit Go.Maps Go.Sort Go.Lib Go.Proofs.YteikmnokmcnmcaaW.PrintWords Go.Proofs.YteikmnokmcnmcaaW.PrintLast Go.Proofs.YteikmnokmcnmcaaW.PrintMore
set_option linter.unusedVariables false
set_option linter.unusedSimpArgs false
set_option linter.unusedSectionVars false
/-! ### the orders of notes and of places -/
def cmpRd (a b : Rd) : Int := fst0 [cmpS a.t b.t, cmpN a.k b.k, cmpS a.f b.f, cmpS a.u b.u]
def cmpPl (a b : Pl) : Int := fst0 [cmpN a.1 b.1, cmpS a.2 b.2]
theorem Or4 (g c : Nat) (A B C D : Int) (w : World) (h0 : w.cell? ⟨g, 0, none⟩ = some (.int .i64 A)) (h1 : w.cell? ⟨g, 1, none⟩ = some (.int .i64 B)) (h2 : w.cell? ⟨g, 2, none⟩ = some (.int .i64 C)) (h3 : w.cell? ⟨g, 3, none⟩ = some (.int .i64 D)) :
    Calls Try.prog 41 #[.slice (some ⟨g, 0, none⟩) 4 c] w fun e w' => e = .returned (.int .i64 (fst0 [A, B, C, D])) ∧ w = w' := by
  refine Or_calls g c [A, B, C, D] w (by simp) fun j x hx => ?_
  match j, hx with
  | 0, hx => injection hx with hx; subst hx; exact h0
  | 1, hx => injection hx with hx; subst hx; exact h1
  | 2, hx => injection hx with hx; subst hx; exact h2
  | 3, hx => injection hx with hx; subst hx; exact h3
theorem Or2 (g c : Nat) (A B : Int) (w : World) (h0 : w.cell? ⟨g, 0, none⟩ = some (.int .i64 A)) (h1 : w.cell? ⟨g, 1, none⟩ = some (.int .i64 B)) :
    Calls Try.prog 41 #[.slice (some ⟨g, 0, none⟩) 2 c] w fun e w' => e = .returned (.int .i64 (fst0 [A, B])) ∧ w = w' := by
  refine Or_calls g c [A, B] w (by simp) fun j x hx => ?_
  match j, hx with
  | 0, hx => injection hx with hx; subst hx; exact h0
  | 1, hx => injection hx with hx; subst hx; exact h1
set_option maxHeartbeats 4000000 in
set_option maxRecDepth 100000 in
theorem closure40 (x y : Rd) (W : World) : Calls Try.prog 40 #[mkR x, mkR y] W fun e w' => e = .returned (.int .i64 (cmpRd x y)) ∧ ∃ q os', w' = grow (W.drewN q) os' := by
  obtain ⟨w1, hw1⟩ : ∃ w1, w1 = (W.alloc (.cells #[.string x.t, .int .i64 x.k, .string x.f, .string x.u] 23)).alloc (.cells #[.string y.t, .int .i64 y.k, .string y.f, .string y.u] 23) := ⟨_, rfl⟩
  have hg : w1 = grow W #[.cells #[.string x.t, .int .i64 x.k, .string x.f, .string x.u] 23, .cells #[.string y.t, .int .i64 y.k, .string y.f, .string y.u] 23] := by rw [hw1, alloc_eq_grow, alloc_eq_grow, grow_grow]; rfl
  obtain ⟨w2, hw2, _, oa, ob⟩ := two_boxes W x y
  rw [← hw1] at hw2
  subst hw2
  have l1 : W.heap.size < w2.heap.size := (Array.getElem?_eq_some_iff.1 oa).1
  have l2 : W.heap.size + 1 < w2.heap.size := (Array.getElem?_eq_some_iff.1 ob).1
  replace hg := Aside0.mk hg
  have oaz := fun o => (((Below.refl _ w2).alloc (Nat.le_refl _) o).block W.heap.size l1).trans oa
  have obz := fun o => (((Below.refl _ w2).alloc (Nat.le_refl _) o).block (W.heap.size + 1) l2).trans ob
  unfold cmpRd
  generalize hA : cmpS x.t y.t = A
  generalize hB : cmpN x.k y.k = B
  generalize hC : cmpS x.f y.f = C
  generalize hD : cmpS x.u y.u = D
  have C1 := fun w => hA ▸ Compare42_calls x.t y.t w
  have C2 := fun w => hB ▸ Compare43_calls x.k y.k w
  have C3 := fun w => hC ▸ Compare42_calls x.f y.f w
  have C4 := fun w => hD ▸ Compare42_calls x.u y.u w
  clear hA hB hC hD
  have OC := fun w h0 h1 h2 h3 => Or4 w2.heap.size 4 A B C D w h0 h1 h2 h3
  generalize fst0 [A, B, C, D] = R at OC ⊢
  go_enter Try.func40, Try.ntmps40
  go_upto_region 1 with fail
  rw [← hw1]
  clear hw1
  go_region_held3 (fun V => V.cell? ⟨W.heap.size, 0, none⟩ = some (.string x.t) ∧ V.cell? ⟨W.heap.size, 1, none⟩ = some (.int .i64 x.k) ∧ V.cell? ⟨W.heap.size, 2, none⟩ = some (.string x.f) ∧ V.cell? ⟨W.heap.size, 3, none⟩ = some (.string x.u) ∧ V.cell? ⟨W.heap.size + 1, 0, none⟩ = some (.string y.t) ∧ V.cell? ⟨W.heap.size + 1, 1, none⟩ = some (.int .i64 y.k) ∧ V.cell? ⟨W.heap.size + 1, 2, none⟩ = some (.string y.f) ∧ V.cell? ⟨W.heap.size + 1, 3, none⟩ = some (.string y.u))
    (first | exact two_at oa ob | exact two_at (oaz _) (obz _))
    (first | (go_at_call 42; with_reducible refine (C1 _).mono ?_; rintro e w' ⟨rfl, rfl⟩) | (go_at_call 42; with_reducible refine (C3 _).mono ?_; rintro e w' ⟨rfl, rfl⟩) | (go_at_call 42; with_reducible refine (C4 _).mono ?_; rintro e w' ⟨rfl, rfl⟩) | (go_at_call 43; with_reducible refine (C2 _).mono ?_; rintro e w' ⟨rfl, rfl⟩) | (go_at_call 41; refine (OC _ (by simp [go_sem]) (by simp [go_sem]) (by simp [go_sem]) (by simp [go_sem])).mono ?_; rintro e w' ⟨rfl, rfl⟩))
  go_wp2
  go_ret
  refine ⟨rfl, ?_⟩
  rw [hg.out]
  rw [alloc_eq_grow, grow_grow]
  exact ⟨1, _, rfl⟩
set_option maxHeartbeats 4000000 in
set_option maxRecDepth 100000 in
theorem closure52 (x y : Pl) (W : World) : Calls Try.prog 52 #[.agg #[.int .i64 x.1, .string x.2], .agg #[.int .i64 y.1, .string y.2]] W fun e w' => e = .returned (.int .i64 (cmpPl x y)) ∧ ∃ q os', w' = grow (W.drewN q) os' := by
  obtain ⟨w1, hw1⟩ : ∃ w1, w1 = (W.alloc (.cells #[.int .i64 x.1, .string x.2] 62)).alloc (.cells #[.int .i64 y.1, .string y.2] 62) := ⟨_, rfl⟩
  have hg : w1 = grow W #[.cells #[.int .i64 x.1, .string x.2] 62, .cells #[.int .i64 y.1, .string y.2] 62] := by rw [hw1, alloc_eq_grow, alloc_eq_grow, grow_grow]; rfl
  have c0 : w1.cell? ⟨W.heap.size, 0, none⟩ = some (.int .i64 x.1) := by rw [hw1]; simp [go_sem]
  have c1 : w1.cell? ⟨W.heap.size, 1, none⟩ = some (.string x.2) := by rw [hw1]; simp [go_sem]
  have d0 : w1.cell? ⟨W.heap.size + 1, 0, none⟩ = some (.int .i64 y.1) := by rw [hw1]; simp [go_sem]
  have d1 : w1.cell? ⟨W.heap.size + 1, 1, none⟩ = some (.string y.2) := by rw [hw1]; simp [go_sem]
  replace hg := Aside0.mk hg
  have e0 := fun o => (((Below.refl _ w1).alloc (Nat.le_refl _) o).cell (World.block_lt_of_cell? _ _ c0)).trans c0
  have e1 := fun o => (((Below.refl _ w1).alloc (Nat.le_refl _) o).cell (World.block_lt_of_cell? _ _ c1)).trans c1
  have f0 := fun o => (((Below.refl _ w1).alloc (Nat.le_refl _) o).cell (World.block_lt_of_cell? _ _ d0)).trans d0
  have f1 := fun o => (((Below.refl _ w1).alloc (Nat.le_refl _) o).cell (World.block_lt_of_cell? _ _ d1)).trans d1
  unfold cmpPl
  generalize hA : cmpN x.1 y.1 = A
  generalize hB : cmpS x.2 y.2 = B
  have C1 := fun w => hA ▸ Compare62_calls x.1 y.1 w
  have C2 := fun w => hB ▸ Compare42_calls x.2 y.2 w
  clear hA hB
  have OC := fun w h0 h1 => Or2 w1.heap.size 2 A B w h0 h1
  generalize fst0 [A, B] = R at OC ⊢
  go_enter Try.func52, Try.ntmps52
  go_upto_region 1 with fail
  rw [← hw1]
  clear hw1
  go_region_held3 (fun V => V.cell? ⟨W.heap.size, 0, none⟩ = some (.int .i64 x.1) ∧ V.cell? ⟨W.heap.size, 1, none⟩ = some (.string x.2) ∧ V.cell? ⟨W.heap.size + 1, 0, none⟩ = some (.int .i64 y.1) ∧ V.cell? ⟨W.heap.size + 1, 1, none⟩ = some (.string y.2)) (first | exact ⟨c0, c1, d0, d1⟩ | exact ⟨e0 _, e1 _, f0 _, f1 _⟩)
    (first | (go_at_call 62; with_reducible refine (C1 _).mono ?_; rintro e w' ⟨rfl, rfl⟩) | (go_at_call 42; with_reducible refine (C2 _).mono ?_; rintro e w' ⟨rfl, rfl⟩) | (go_at_call 41; refine (OC _ (by simp [go_sem]) (by simp [go_sem])).mono ?_; rintro e w' ⟨rfl, rfl⟩))
  go_wp2
  go_ret
  refine ⟨rfl, ?_⟩
  rw [hg.out]
  rw [alloc_eq_grow, grow_grow]
  exact ⟨1, _, rfl⟩
end Go.Proofs.Yteikmnokmcnmcaa
namespace Go.Proofs.Yteikmnokmcnmcaa
open Go.RowKit Go.Maps Go.Sort Go.Lib Go.Proofs.YteikmnokmcnmcaaW.PrintWords Go.Proofs.YteikmnokmcnmcaaW.PrintLast Go.Proofs.YteikmnokmcnmcaaW.PrintMore
set_option linter.unusedVariables false
set_option linter.unusedSimpArgs false
set_option linter.unusedSectionVars false
/-! ### orders by a comparison; the sorts -/
structure Ord3 {α : Type} (c : α → α → Int) : Prop where
  refl : ∀ a, c a a = 0
  anti : ∀ a b, c a b < 0 ↔ 0 < c b a
  trans : ∀ a b d, c a b ≤ 0 → c b d ≤ 0 → c a d ≤ 0 ∧ (c a d = 0 → c a b = 0 ∧ c b d = 0)
section
variable {α β : Type} {c c1 c2 : α → α → Int}
theorem Ord3.lex (h1 : Ord3 c1) (h2 : Ord3 c2) : Ord3 (fun a b => if c1 a b ≠ 0 then c1 a b else c2 a b) where
  refl a := by simp [h1.refl, h2.refl]
  anti a b := by
    have := h1.anti a b
    have := h1.anti b a
    have := h2.anti a b
    by_cases e : c1 a b = 0
    · have e2 : c1 b a = 0 := by omega
      simpa [e, e2] using h2.anti a b
    · have e2 : c1 b a ≠ 0 := by omega
      simpa [e, e2] using h1.anti a b
  trans a b d := by
    intro hab hbd
    have key := h1.trans a b d
    have k2 := h2.trans a b d
    by_cases e1 : c1 a b = 0
    · by_cases e2 : c1 b d = 0
      · obtain ⟨k3, k4⟩ := key (by omega) (by omega)
        have k5 : c1 a d = 0 := by
          have := h1.anti a d
          have k6 := h1.trans d b a (by have := h1.anti b d; have := h1.anti d b; omega) (by have := h1.anti a b; have := h1.anti b a; omega)
          omega
        simp only [e1, e2, k5, ne_eq, not_true_eq_false, if_false] at hab hbd ⊢
        exact k2 hab hbd
      · simp only [e1, e2, ne_eq, not_true_eq_false, not_false_eq_true, if_false, if_true] at hab hbd ⊢
        obtain ⟨k3, k4⟩ := key (by omega) hbd
        have k5 : c1 a d ≠ 0 := fun h => e2 (k4 h).2
        simp only [k5, ne_eq, not_false_eq_true, if_true]
        exact ⟨k3, fun h => (by first | exact absurd h k5 | cases h)⟩
    · by_cases e2 : c1 b d = 0
      · simp only [e1, e2, ne_eq, not_true_eq_false, not_false_eq_true, if_false, if_true] at hab hbd ⊢
        obtain ⟨k3, k4⟩ := key hab (by omega)
        have k5 : c1 a d ≠ 0 := fun h => e1 (k4 h).1
        simp only [k5, ne_eq, not_false_eq_true, if_true]
        exact ⟨k3, fun h => (by first | exact absurd h k5 | cases h)⟩
      · simp only [e1, e2, ne_eq, not_false_eq_true, if_true] at hab hbd ⊢
        obtain ⟨k3, k4⟩ := key hab hbd
        have k5 : c1 a d ≠ 0 := fun h => e1 (k4 h).1
        simp only [k5, ne_eq, not_false_eq_true, if_true]
        exact ⟨k3, fun h => (by first | exact absurd h k5 | cases h)⟩
theorem Ord3.by {c : β → β → Int} (h : Ord3 c) (f : α → β) : Ord3 (fun a b => c (f a) (f b)) where
  refl a := h.refl _
  anti a b := h.anti _ _
  trans a b d := h.trans _ _ _
theorem ord_S : Ord3 cmpS where
  refl a := by simp [cmpS, less_irrefl]
  anti a b := by
    have h := gtr_less a.toList b.toList
    unfold cmpS
    cases h1 : Op.bytesLess a.toList b.toList <;> cases h2 : Op.bytesLess b.toList a.toList <;> cases h3 : (a.toList == b.toList) <;> simp_all
    have h4 := gtr_less b.toList a.toList
    simp_all
  trans a b d := by
    intro hab hbd
    have h1 : Op.bytesLess b.toList a.toList = false := by
      have h := gtr_less a.toList b.toList
      unfold cmpS at hab
      cases h1 : Op.bytesLess a.toList b.toList <;> cases h3 : (a.toList == b.toList) <;> simp_all
    have h2 : Op.bytesLess d.toList b.toList = false := by
      have h := gtr_less b.toList d.toList
      unfold cmpS at hbd
      cases h1 : Op.bytesLess b.toList d.toList <;> cases h3 : (b.toList == d.toList) <;> simp_all
    have h3 := le_trans' h1 h2
    have h4 := gtr_less a.toList d.toList
    rw [h3] at h4
    constructor
    · unfold cmpS
      cases h5 : Op.bytesLess a.toList d.toList <;> cases h6 : (a.toList == d.toList) <;> simp_all
    · intro h0
      have h6 : a.toList = d.toList := by
        unfold cmpS at h0
        cases h5 : Op.bytesLess a.toList d.toList <;> cases h6 : (a.toList == d.toList) <;> simp_all
      have e1 := (leq_iff a.toList b.toList).2 h1
      have e2 := (leq_iff b.toList d.toList).2 h2
      rw [← h6] at h2 e2
      have e3 : a.toList = b.toList := by
        rcases e1 with e1 | e1
        · rw [h2] at e1; cases e1
        · exact e1
      have e4 : b.toList = d.toList := by rw [← e3, h6]
      unfold cmpS
      simp [e3, e4, less_irrefl]
theorem ord_N : Ord3 cmpN where
  refl a := by simp [cmpN]
  anti a b := by unfold cmpN; split <;> split <;> (try split) <;> (try split) <;> omega
  trans a b d := by
    unfold cmpN
    intro h1 h2
    constructor
    · split <;> (try split) <;> (try omega)
    · intro h3
      split at h1 <;> split at h2 <;> (try split at h1) <;> (try split at h2) <;> (try split at h3) <;> (try split at h3) <;> first | omega | (constructor <;> (split <;> (try split) <;> omega))
theorem cmpS_eq {a b : ByteArray} (h : cmpS a b = 0) : a = b := by
  unfold cmpS at h
  split at h
  · omega
  · split at h
    · rename_i h2; exact toList_inj (by simpa using h2)
    · omega
theorem cmpN_eq {a b : Int} (h : cmpN a b = 0) : a = b := by
  unfold cmpN at h
  split at h
  · omega
  · split at h
    · assumption
    · omega
theorem cmpRd_lex (a b : Rd) : cmpRd a b = (if cmpS a.t b.t ≠ 0 then cmpS a.t b.t else if cmpN a.k b.k ≠ 0 then cmpN a.k b.k else if cmpS a.f b.f ≠ 0 then cmpS a.f b.f else cmpS a.u b.u) := by
  unfold cmpRd
  simp only [fst0]
  by_cases h : cmpS a.u b.u = 0 <;> simp [h]
theorem cmpPl_lex (a b : Pl) : cmpPl a b = (if cmpN a.1 b.1 ≠ 0 then cmpN a.1 b.1 else cmpS a.2 b.2) := by
  unfold cmpPl
  simp only [fst0]
  by_cases h : cmpS a.2 b.2 = 0 <;> simp [h]
theorem ord_Rd : Ord3 cmpRd := by
  have e : cmpRd = fun a b => (if cmpS a.t b.t ≠ 0 then cmpS a.t b.t else if cmpN a.k b.k ≠ 0 then cmpN a.k b.k else if cmpS a.f b.f ≠ 0 then cmpS a.f b.f else cmpS a.u b.u) := by
    funext a b; exact cmpRd_lex a b
  rw [e]
  exact (ord_S.by Rd.t).lex ((ord_N.by Rd.k).lex ((ord_S.by Rd.f).lex (ord_S.by Rd.u)))
theorem ord_Pl : Ord3 cmpPl := by
  have e : cmpPl = fun a b => (if cmpN a.1 b.1 ≠ 0 then cmpN a.1 b.1 else cmpS a.2 b.2) := by
    funext a b; exact cmpPl_lex a b
  rw [e]
  exact (ord_N.by Prod.fst).lex (ord_S.by Prod.snd)
theorem cmpRd_eq {a b : Rd} (h : cmpRd a b = 0) : a = b := by
  rw [cmpRd_lex] at h
  by_cases h1 : cmpS a.t b.t = 0
  · by_cases h2 : cmpN a.k b.k = 0
    · by_cases h3 : cmpS a.f b.f = 0
      · simp only [h1, h2, h3, ne_eq, not_true_eq_false, if_false] at h
        have e1 := cmpS_eq h1
        have e2 := cmpN_eq h2
        have e3 := cmpS_eq h3
        have e4 := cmpS_eq h
        cases a; cases b; simp_all
      · simp only [h1, h2, h3, ne_eq, not_true_eq_false, not_false_eq_true, if_false, if_true] at h
    · simp only [h1, h2, ne_eq, not_true_eq_false, not_false_eq_true, if_false, if_true] at h
  · simp only [h1, ne_eq, not_false_eq_true, if_true] at h
theorem cmpPl_eq {a b : Pl} (h : cmpPl a b = 0) : a = b := by
  rw [cmpPl_lex] at h
  by_cases h1 : cmpN a.1 b.1 = 0
  · simp only [h1, ne_eq, not_true_eq_false, if_false] at h
    exact Prod.ext (cmpN_eq h1) (cmpS_eq h)
  · simp only [h1, ne_eq, not_false_eq_true, if_true] at h
end
end Go.Proofs.Yteikmnokmcnmcaa
namespace Go.Proofs.Yteikmnokmcnmcaa
open Go.RowKit Go.Maps Go.Sort Go.Lib Go.Proofs.YteikmnokmcnmcaaW.PrintWords Go.Proofs.YteikmnokmcnmcaaW.PrintLast Go.Proofs.YteikmnokmcnmcaaW.PrintMore
set_option linter.unusedVariables false
set_option linter.unusedSimpArgs false
set_option linter.unusedSectionVars false
/-! ### the sorts of notes and of places -/
section
variable {α : Type} {c : α → α → Int}
theorem Ord3.swo (h : Ord3 c) : SWO (ltOf c) where
  irrefl x := by unfold ltOf; rw [h.refl]; rfl
  trans x y z h1 h2 := by
    unfold ltOf at *
    rw [decide_eq_true_iff] at *
    obtain ⟨k1, k2⟩ := h.trans x y z (by omega) (by omega)
    by_cases e : c x z = 0
    · have := (k2 e).1; omega
    · omega
  ntrans x y z h1 h2 := by
    unfold ltOf at *
    rw [decide_eq_false_iff_not] at *
    have a1 := h.anti y x
    have a2 := h.anti x y
    have a3 := h.anti z y
    have a4 := h.anti y z
    have a5 := h.anti z x
    have a6 := h.anti x z
    obtain ⟨k1, k2⟩ := h.trans z y x (by omega) (by omega)
    omega
theorem Ord3.tot (h : Ord3 c) (he : ∀ a b, c a b = 0 → a = b) (x y : α) (h1 : ltOf c x y = false) (h2 : ltOf c y x = false) : x = y := by
  unfold ltOf at *
  rw [decide_eq_false_iff_not] at *
  have := h.anti x y
  have := h.anti y x
  exact he _ _ (by omega)
/-- sorted by a comparison -/
def srtC (c : α → α → Int) (xs : List α) : List α := xs.mergeSort fun x y => !(ltOf c) y x
theorem srtC_length (xs : List α) : (srtC c xs).length = xs.length := by simp [srtC]
theorem srtC_perm (xs : List α) : (srtC c xs).Perm xs := List.mergeSort_perm _ _
theorem srtC_rising (h : Ord3 c) (xs : List α) : (srtC c xs).Pairwise (fun x y => c x y ≤ 0) := by
  have h1 := List.pairwise_mergeSort (le := fun x y => !(ltOf c) y x) (fun a b d => by
      simp only [Bool.not_eq_true']
      intro k1 k2
      exact h.swo.ntrans _ _ _ k2 k1) (fun a b => by
      unfold ltOf
      simp only [Bool.or_eq_true, Bool.not_eq_true', decide_eq_false_iff_not]
      have := h.anti a b
      omega) xs
  refine h1.imp fun {a b} hab => ?_
  unfold ltOf at hab
  simp only [Bool.not_eq_true', decide_eq_false_iff_not] at hab
  have := h.anti b a
  have := h.anti a b
  omega
end
def cellsP (q : Pl) : List Value := [.int .i64 q.1, .string q.2]
theorem cellsP_one (x : Pl) : ∀ u ∈ cellsP x, u.oneCell' = true := fun u hu => by
  simp [cellsP] at hu
  rcases hu with rfl | rfl <;> rfl
def dR : Kd Rd := Kd.flat cellsR 4 (fun _ => rfl) cellsR_one
def dP : Kd Pl := Kd.flat cellsP 2 (fun _ => rfl) cellsP_one
theorem info62 : (Try.prog.info? 62).map (fun i => (i.zero, i.size, i.bytes)) = some (some (.agg #[.int .i64 0, .string ByteArray.empty]), 2, 24) := by kernel_rfl
instance : Inhabited Rd := ⟨⟨⟨#[]⟩, 0, ⟨#[]⟩, ⟨#[]⟩⟩⟩
set_option maxRecDepth 100000 in
theorem sortR_calls (W : World) (base : Nat) (ok : Nat → Prop) (v : Value) (xs : List Rd) (h : dR.R 23 W base ok v xs) (hl : xs.length < 4611686018427387904) :
    Calls Try.prog 39 #[v, .func (.func 40) #[] #[]] W fun e w' => e = .returned (.tuple #[]) ∧ dR.R 23 w' base ok v (srtC cmpRd xs) ∧ W.grownBy w' v.ownBlock := by
  obtain ⟨inner, ho⟩ := Kd.R_own h
  rcases ho.2 with ⟨rfl, hn⟩ | ⟨g, cap, cur, rfl, hb, hh, _⟩
  · obtain rfl : xs = [] := List.eq_nil_of_length_eq_zero hn
    refine (AnyF.slices_SortFunc_none Try.sortR none 0 _ W).mono ?_
    rintro e w' ⟨rfl, rfl⟩
    exact ⟨rfl, by rw [show srtC cmpRd [] = [] by simp [srtC]]; exact Kd.R_nil _ _ _ _ _, ⟨rfl, rfl, rfl, Nat.le_refl _, fun _ _ _ => rfl⟩⟩
  · have eg : ∀ args w, (callFunc 40 args).run Try.prog w = .ok (.enter 40 args) w := enters_of Try.func40 (by kernel_rfl) rfl
    have hlt : g < W.heap.size := (Array.getElem?_eq_some_iff.1 hh).1
    have hc : CmpLays Try.prog 40 #[] cellsR 4 cmpRd g 0 xs.toArray.size W := fun m os dk _ x y => closure40 x y _
    have hcon := AnyQ.slices_SortFunc_total Try.sortR 4 Try.isAgg23 Try.sizeOf23 cellsR (fun _ => rfl) cellsR_one cmpRd ord_Rd.swo 40 #[] g 0 cap xs.toArray W eg hc (flat_holds h) hlt (by simpa using hl) (ord_Rd.tot fun _ _ => cmpRd_eq)
    rw [show xs.toArray.size = xs.length from rfl] at hcon
    refine Calls.mono hcon ?_
    rintro e w' ⟨rfl, n, os, rfl⟩
    obtain ⟨h2, h3⟩ := flat_sorted h (srtC_length (c := cmpRd) xs) n os
    rw [srtC_length] at h2
    exact ⟨rfl, h2, h3⟩
set_option maxRecDepth 100000 in
theorem sortP_calls (W : World) (base : Nat) (ok : Nat → Prop) (v : Value) (xs : List Pl) (h : dP.R 62 W base ok v xs) (hl : xs.length < 4611686018427387904) :
    Calls Try.prog 60 #[v, .func (.func 52) #[] #[]] W fun e w' => e = .returned (.tuple #[]) ∧ dP.R 62 w' base ok v (srtC cmpPl xs) ∧ W.grownBy w' v.ownBlock := by
  obtain ⟨inner, ho⟩ := Kd.R_own h
  rcases ho.2 with ⟨rfl, hn⟩ | ⟨g, cap, cur, rfl, hb, hh, _⟩
  · obtain rfl : xs = [] := List.eq_nil_of_length_eq_zero hn
    refine (AnyF.slices_SortFunc_none Try.sortP none 0 _ W).mono ?_
    rintro e w' ⟨rfl, rfl⟩
    exact ⟨rfl, by rw [show srtC cmpPl [] = [] by simp [srtC]]; exact Kd.R_nil _ _ _ _ _, ⟨rfl, rfl, rfl, Nat.le_refl _, fun _ _ _ => rfl⟩⟩
  · have eg : ∀ args w, (callFunc 52 args).run Try.prog w = .ok (.enter 52 args) w := enters_of Try.func52 (by kernel_rfl) rfl
    have hlt : g < W.heap.size := (Array.getElem?_eq_some_iff.1 hh).1
    have hc : CmpLays Try.prog 52 #[] cellsP 2 cmpPl g 0 xs.toArray.size W := fun m os dk _ x y => closure52 x y _
    have hcon := AnyQ.slices_SortFunc_total Try.sortP 2 Try.isAgg62 Try.sizeOf62 cellsP (fun _ => rfl) cellsP_one cmpPl ord_Pl.swo 52 #[] g 0 cap xs.toArray W eg hc (flat_holds h) hlt (by simpa using hl) (ord_Pl.tot fun _ _ => cmpPl_eq)
    rw [show xs.toArray.size = xs.length from rfl] at hcon
    refine Calls.mono hcon ?_
    rintro e w' ⟨rfl, n, os, rfl⟩
    obtain ⟨h2, h3⟩ := flat_sorted h (srtC_length (c := cmpPl) xs) n os
    rw [srtC_length] at h2
    exact ⟨rfl, h2, h3⟩
end Go.Proofs.Yteikmnokmcnmcaa
