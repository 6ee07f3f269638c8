/- Cut by a program out of the seat's texts (ZC ZD ZE ZF): what the theorem needs, one behind the other. -/
import Derived.Test.YthaoedfalkebbaaGreatPBK
namespace Go.Proofs.YthaoedfalkebbaaGreat
open Go.ChangeShapes Go.WideShapes Go.ChangeAt Go.RowKit Go.Lib Go.Proofs.YthaoedfalkebbaaGreatW.PrintWords Go.Proofs.YthaoedfalkebbaaGreatW.PrintLast Go.Proofs.YthaoedfalkebbaaGreatW.PrintMore
open Go.Deep (open_slice)
set_option linter.unusedVariables false
set_option linter.unusedSimpArgs false
set_option linter.unusedSectionVars false
theorem cellsT2 : Tryz.prog.cellsOf 2 = 1 := by kernel_rfl
theorem cellsT3 : Tryz.prog.cellsOf 3 = 1 := by kernel_rfl
theorem cells9' : Tryz.prog.cellsOf 9 = 1 := by kernel_rfl
theorem cells23' : Tryz.prog.cellsOf 23 = 2 := by kernel_rfl
section
variable {H : Type} {enc : TypeId × Value → H} {w : World} {base : Nat} {spare : Nat → Bool} {held : Bool}
set_option maxRecDepth 100000 in
theorem opens_lk {fuel : Nat} {cs : List Value} {y : DataW H × List MemPlace} (h : DataW.trod enc Tryz.prog w base spare held fuel 23 cs = some y) (hl : Light Tryz.prog 23 y.1) : ∃ a : Lk, cs = [.string a.1, .string a.2] ∧ LkOK a := by
  obtain ⟨hc, hf⟩ := opens_fields Tryz.underlying23 h hl
  have hc2 : cs.length = 2 := hc.trans cells23'
  match cs, hc2 with
  | [v0, v1], _ =>
    have f0 : FldAt enc Tryz.prog w base spare held [v0, v1] 9 0 := hf 0 _ rfl
    obtain ⟨n0, y0, t0, g0⟩ := f0
    have f1 : FldAt enc Tryz.prog w base spare held [v0, v1] 9 1 := hf 1 _ rfl
    obtain ⟨n1, y1, t1, g1⟩ := f1
    simp only [cells9', List.drop_zero, List.drop_succ_cons, List.take_succ_cons, List.take_zero] at t0 t1
    obtain ⟨s, e0, w0⟩ := opens_string Tryz.underlying9 _ _ _ t0 g0
    obtain ⟨u, e1, w1⟩ := opens_string Tryz.underlying9 _ _ _ t1 g1
    cases e0; cases e1
    exact ⟨(s, u), rfl, w0, w1⟩
def encOn (o : Opn) : List Value := [.int .i64 o.kind, .int .i64 o.tx, .string o.at_.1, .string o.at_.2, .string o.to_, .int .i64 o.last]
abbrev dOn : Kd Opn := Kd.flat encOn 6 (fun _ => rfl) (fun o u hu => by simp only [encOn, List.mem_cons, List.not_mem_nil, or_false] at hu; rcases hu with rfl | rfl | rfl | rfl | rfl | rfl <;> rfl)
set_option maxRecDepth 100000 in
theorem opens_opn : Opens enc Tryz.prog w base spare held 36 dOn Opn.OK := by
  intro fuel cs y h hl
  obtain ⟨hc, hf⟩ := opens_fields Tryz.underlying36 h hl
  have hc6 : cs.length = 6 := hc.trans (by kernel_rfl)
  match cs, hc6 with
  | [v0, v1, v2, v3, v4, v5], _ =>
    have f0 : FldAt enc Tryz.prog w base spare held [v0, v1, v2, v3, v4, v5] 3 0 := hf 0 _ rfl
    obtain ⟨n0, y0, t0, g0⟩ := f0
    have f1 : FldAt enc Tryz.prog w base spare held [v0, v1, v2, v3, v4, v5] 2 1 := hf 1 _ rfl
    obtain ⟨n1, y1, t1, g1⟩ := f1
    have f2 : FldAt enc Tryz.prog w base spare held [v0, v1, v2, v3, v4, v5] 23 2 := hf 2 _ rfl
    obtain ⟨n2, y2, t2, g2⟩ := f2
    have f3 : FldAt enc Tryz.prog w base spare held [v0, v1, v2, v3, v4, v5] 9 4 := hf 3 _ rfl
    obtain ⟨n3, y3, t3, g3⟩ := f3
    have f4 : FldAt enc Tryz.prog w base spare held [v0, v1, v2, v3, v4, v5] 2 5 := hf 4 _ rfl
    obtain ⟨n4, y4, t4, g4⟩ := f4
    simp only [cellsT2, cellsT3, cells9', cells23', List.drop_zero, List.drop_succ_cons, List.take_succ_cons, List.take_zero] at t0 t1 t2 t3 t4
    obtain ⟨a0, e0, w0⟩ := opens_int (k := .i64) Tryz.underlying3 _ _ _ t0 g0
    obtain ⟨a1, e1, w1⟩ := opens_int (k := .i64) Tryz.underlying2 _ _ _ t1 g1
    obtain ⟨a2, e2, w2⟩ := opens_lk t2 g2
    obtain ⟨a3, e3, w3⟩ := opens_string Tryz.underlying9 _ _ _ t3 g3
    obtain ⟨a4, e4, w4⟩ := opens_int (k := .i64) Tryz.underlying2 _ _ _ t4 g4
    cases e0; cases e1; cases e2; cases e3; cases e4
    exact ⟨⟨a0, a1, a2, a3, a4⟩, rfl, ⟨w0, w1, w2, w3, w4⟩⟩
structure Cp.OK (c : Cp) : Prop where
  a : (Lit.int .i64 c.active).wf = true
  k : (Lit.int .i64 c.kept).wf = true
  r : (Lit.int .i64 c.reads).wf = true
  l : (Lit.int .i64 c.locks).wf = true
set_option maxRecDepth 100000 in
theorem open_cp {ts : List TypeId} {ds : List (DataW H)} (hsz : (DataW.weightsEach Tryz.prog ts ds).all (· ≤ reachBytes) = true) {j : Nat} {r : Reach} {b0 : Nat} {v : Value} {d : DataW H} {p : List MemPlace} (ht : ts[j]? = some 31) (hd : ds[j]? = some d)
    (hv : Value.okWide Tryz.prog w r b0 31 v) (h : DataW.Trod enc Tryz.prog w base spare held 31 v d p) : ∃ c : Cp, v = .agg c.cells ∧ c.OK := by
  obtain ⟨cs, rfl, hc, hf⟩ := opens_param Tryz.underlying31 hv h (light_of hsz ht hd)
  have hc4 : cs.length = 4 := hc.trans (by kernel_rfl)
  match cs, hc4 with
  | [v0, v1, v2, v3], _ =>
    have f0 : FldAt enc Tryz.prog w base spare held [v0, v1, v2, v3] 3 0 := hf 0 _ rfl
    obtain ⟨n0, y0, t0, g0⟩ := f0
    have f1 : FldAt enc Tryz.prog w base spare held [v0, v1, v2, v3] 3 1 := hf 1 _ rfl
    obtain ⟨n1, y1, t1, g1⟩ := f1
    have f2 : FldAt enc Tryz.prog w base spare held [v0, v1, v2, v3] 3 2 := hf 2 _ rfl
    obtain ⟨n2, y2, t2, g2⟩ := f2
    have f3 : FldAt enc Tryz.prog w base spare held [v0, v1, v2, v3] 3 3 := hf 3 _ rfl
    obtain ⟨n3, y3, t3, g3⟩ := f3
    simp only [cellsT3, List.drop_zero, List.drop_succ_cons, List.take_succ_cons, List.take_zero] at t0 t1 t2 t3
    obtain ⟨a0, e0, w0⟩ := opens_int (k := .i64) Tryz.underlying3 _ _ _ t0 g0
    obtain ⟨a1, e1, w1⟩ := opens_int (k := .i64) Tryz.underlying3 _ _ _ t1 g1
    obtain ⟨a2, e2, w2⟩ := opens_int (k := .i64) Tryz.underlying3 _ _ _ t2 g2
    obtain ⟨a3, e3, w3⟩ := opens_int (k := .i64) Tryz.underlying3 _ _ _ t3 g3
    cases e0; cases e1; cases e2; cases e3
    exact ⟨⟨a0, a1, a2, a3⟩, rfl, ⟨w0, w1, w2, w3⟩⟩
structure Scp where
  A : Option Addr
  c : Nat
  xs : List Opn
def Scp.val (z : Scp) : Value := .slice z.A z.xs.length z.c
structure Scp.OK (z : Scp) (w : World) : Prop where
  reads : dOn.C w z.A z.xs.length z.xs
  ops : ∀ x ∈ z.xs, x.OK
  len : z.xs.length * 72 ≤ reachBytes
set_option maxRecDepth 100000 in
theorem open_scp {ts : List TypeId} {ds : List (DataW H)} (hsz : (DataW.weightsEach Tryz.prog ts ds).all (· ≤ reachBytes) = true) {j : Nat} {r : Reach} {b0 : Nat} {v : Value} {d : DataW H} {p : List MemPlace} (ht : ts[j]? = some 24) (hd : ds[j]? = some d)
    (hv : Value.okWide Tryz.prog w r b0 24 v) (h : DataW.Trod enc Tryz.prog w base spare held 24 v d p) : ∃ z : Scp, v = z.val ∧ z.OK w := by
  obtain ⟨a, n, c, rfl⟩ := okWide_slice Tryz.underlying24 hv
  obtain ⟨fuel, hf⟩ := h
  obtain ⟨A, c', xs, e, h1, h2, h3, h4, h5⟩ := opens_C (d := dOn) Tryz.underlying24 (by kernel_rfl) opens_opn hf (light_of hsz ht hd)
  simp [Value.cells] at e
  obtain ⟨rfl, rfl, rfl⟩ := e
  refine ⟨⟨a, c, xs⟩, rfl, h3, h5, ?_⟩
  have hb : Tryz.prog.bytesOf 36 = 72 := by kernel_rfl
  rw [hb] at h4
  exact h4
end
end Go.Proofs.YthaoedfalkebbaaGreat
namespace Go.Proofs.YthaoedfalkebbaaGreat
open Go.RowKit Go.Maps Go.Sort Go.Lib Go.Shelf Go.Proofs.YthaoedfalkebbaaGreatW.PrintWords Go.Proofs.YthaoedfalkebbaaGreatW.PrintLast Go.Proofs.YthaoedfalkebbaaGreatW.PrintMore
set_option linter.unusedVariables false
set_option linter.unusedSimpArgs false
set_option linter.unusedSectionVars false
theorem txC_cells {w : World} {q : Nat} {num snap begun ended : Int} {act fin fout : Bool} {v : Value} (h : w.heap[q]? = some (txC num snap act begun ended fin fout v)) :
    w.cell? ⟨q, 0, none⟩ = some (.int .i64 num) ∧ w.cell? ⟨q, 1, none⟩ = some (.int .i64 snap) ∧ w.cell? ⟨q, 2, none⟩ = some (.bool act) ∧ w.cell? ⟨q, 3, none⟩ = some (.int .i64 begun) ∧ w.cell? ⟨q, 4, none⟩ = some (.int .i64 ended) ∧ w.cell? ⟨q, 5, none⟩ = some (.bool fin) ∧ w.cell? ⟨q, 6, none⟩ = some (.bool fout) ∧ w.cell? ⟨q, 7, none⟩ = some v :=
  ⟨cell_of_row w _ 0 _ 101 (0, 0) h, cell_of_row w _ 1 _ 101 (0, 0) h, cell_of_row w _ 2 _ 101 (0, 0) h, cell_of_row w _ 3 _ 101 (0, 0) h, cell_of_row w _ 4 _ 101 (0, 0) h, cell_of_row w _ 5 _ 101 (0, 0) h, cell_of_row w _ 6 _ 101 (0, 0) h, cell_of_row w _ 7 _ 101 (0, 0) h⟩
set_option maxHeartbeats 64000000 in
set_option maxRecDepth 100000 in
theorem Commit_walk1 (p mb lp rp q n0 tl hl ol : Nat) (tx a k r o now last clock num snap begun ended : Int) (act fin fout tr : Bool) (vw : Value) (w : World) (Post : Int → Int → World → Prop) (H2 : World → Prop) (H3 : Option Addr → Nat → World → Prop) (H6 H7 H8 H9 : World → Prop) (hne : p ≠ q)
    (hn0 : 1 ≤ n0 ∧ n0 ≤ 65536) (htl : n0 ≤ tl ∧ tl ≤ 65536) (hhb : hl ≤ 65536) (hob : ol ≤ 9223372036854775000) (hhl : 0 < hl) (hnw : 0 ≤ now ∧ now ≤ 4611686018427387904) (hcl : 0 ≤ clock ∧ clock ≤ 4611686018427387904)
    (htr : tr = true)
    (A : Calls Tryz.prog 39 #[ptr p, .int .i64 tx] w fun e w' => e = .returned (.tuple #[ptr q, .int .i64 0]) ∧ w = w')
    (f5 : w.cell? ⟨q, 5, none⟩ = some (.bool fin)) (f6 : w.cell? ⟨q, 6, none⟩ = some (.bool fout))
    (BOTH : (fin && fout) = true → Calls Tryz.prog 43 #[ptr p, ptr q] w fun e w' => e = .returned (.tuple #[]) ∧ Post 0 100 w')
    (AC : Calls Tryz.prog 26 #[ptr p] w fun e w2 => ∃ A c, e = .returned (.slice A n0 c) ∧ H2 w2)
    (C2 : ∀ W, H2 W → W.cell? ⟨p, 8, none⟩ = some (ptr lp))
    (HE : ∀ W, H2 W → Calls Tryz.prog 51 #[ptr lp, .int .i64 tx] W fun e w3 => ∃ A c, e = .returned (.slice A hl c) ∧ H3 A c w3)
    (C3 : ∀ A c W, H3 A c W → W.heap[p]? = some (hdC a k r o now last clock mb lp rp) ∧ W.heap[q]? = some (txC num snap act begun ended fin fout vw))
    (OF : ∀ A c W, H3 A c W → Calls Tryz.prog 52 #[ptr rp, .int .i64 tx] W fun e w4 => ∃ A' c', e = .returned (.slice A' ol c') ∧ H3 A c w4)
    (D3 : ∀ A c W n, H3 A c W → H3 A c (W.drewN n))
    (LEN : ∀ A c W, H3 A c W → (Builtin.len_ #[86] 3 #[.map (some mb)]).run Tryz.prog W = .ok (.int .i64 (tl : Int)) W)
    (FULL : (fin && fout) = false → 1 < n0 → tr = true → k ≤ (tl : Int) - n0 → ∀ A c W, H3 A c W → Calls Tryz.prog 43 #[ptr p, ptr q] W fun e w' => e = .returned (.tuple #[]) ∧ Post 0 4 w')
    (REL : ∀ A c W, H3 A c W → ∀ W5, W5 = ((((W.setCell ⟨p, 4, none⟩ (.int .i64 (now + 1))).setCell ⟨p, 6, none⟩ (.int .i64 (clock + 1))).setCell ⟨q, 2, none⟩ (.bool false)).setCell ⟨q, 4, none⟩ (.int .i64 (clock + 1))).setCell ⟨q, 7, none⟩ (.slice A hl c) → W5.cell? ⟨p, 8, none⟩ = some (ptr lp) ∧ Calls Tryz.prog 53 #[ptr lp, .int .i64 tx] W5 fun e w6 => ∃ k, e = .returned (.int .i64 k) ∧ H6 w6)
    (C6 : ∀ W, H6 W → W.cell? ⟨p, 9, none⟩ = some (ptr rp))
    (DRP : ∀ W, H6 W → Calls Tryz.prog 54 #[ptr rp, .int .i64 tx] W fun e w7 => ∃ k, e = .returned (.int .i64 k) ∧ H7 w7)
    (DEL : ∀ W, H7 W → W.cell? ⟨p, 7, none⟩ = some (.map (some mb)) ∧ ∃ w8, (Builtin.delete_ #[86, 2] 0 #[.map (some mb), .int .i64 tx]).run Tryz.prog W = .ok (.tuple #[]) w8 ∧ H8 w8)
    (FG6 : ¬ (n0 = 1 ∨ tr = false) → ∀ W, H6 W → Calls Tryz.prog 55 #[ptr p] W fun e w' => e = .returned (.tuple #[]) ∧ H9 w')
    (FG8 : (n0 = 1 ∨ tr = false) → ∀ W, H8 W → Calls Tryz.prog 55 #[ptr p] W fun e w' => e = .returned (.tuple #[]) ∧ H9 w')
    (C9 : ∀ W, H9 W → W.cell? ⟨p, 4, none⟩ = some (.int .i64 (now + 1)))
    (END : (fin && fout) = false → ¬ (1 < n0 ∧ tr = true ∧ k ≤ (tl : Int) - n0) → ∀ W, H9 W → Post (now + 1) 0 W) :
    Calls Tryz.prog 16 #[ptr p, .int .i64 tx] w fun e w' => ∃ x y, e = .returned (.tuple #[.int .i64 x, .int .i64 y]) ∧ Post x y w' := by
  have wn1 : IntKind.i64.wrap (now + 1) = now + 1 := IntWalk.i64_in _ (by omega)
  have wc1 : IntKind.i64.wrap (clock + 1) = clock + 1 := IntWalk.i64_in _ (by omega)
  have wt1 : IntKind.i64.wrap ((tl : Int) - n0) = (tl : Int) - n0 := IntWalk.i64_in _ (by omega)
  replace hne := Aside0.mk hne
  replace C2 := Aside0.mk C2
  replace HE := Aside0.mk HE
  replace C3 := Aside0.mk C3
  replace OF := Aside0.mk OF
  replace D3 := Aside0.mk D3
  replace LEN := Aside0.mk LEN
  replace FULL := Aside0.mk FULL
  replace REL := Aside0.mk REL
  replace C6 := Aside0.mk C6
  replace DRP := Aside0.mk DRP
  replace DEL := Aside0.mk DEL
  replace FG6 := Aside0.mk FG6
  replace FG8 := Aside0.mk FG8
  replace C9 := Aside0.mk C9
  replace END := Aside0.mk END
  replace hnw := Aside0.mk hnw
  replace hcl := Aside0.mk hcl
  cases hb : (fin && fout) with
  | true =>
    have hb1 : fin = true := by revert hb; cases fin <;> simp
    have hb2 : fout = true := by revert hb; cases fout <;> simp
    subst hb1 hb2
    have BT := BOTH rfl
    clear BOTH AC htr hb
    go_enter Tryz.func16, Tryz.ntmps16
    go_wp2_with fail
    refine A.mono ?_
    rintro e w' ⟨rfl, rfl⟩
    go_wp2_with fail
    refine BT.mono ?_
    rintro e w' ⟨rfl, HP⟩
    go_wp2
    go_ret2
    exact ⟨_, _, rfl, HP⟩
  | false =>
    clear BOTH
    replace END := Aside0.mk (END.out hb)
    replace FULL := Aside0.mk (FULL.out hb)
    subst htr
    rcases (show (1 < n0 ∧ k ≤ (tl : Int) - n0) ∨ (1 < n0 ∧ ¬ k ≤ (tl : Int) - n0) ∨ n0 = 1 by omega) with ⟨hn1, hfull⟩ | ⟨hn1, hfull⟩ | hn1
    · rcases (show fin = false ∨ (fin = true ∧ fout = false) by revert hb; cases fin <;> cases fout <;> simp) with hfi | ⟨hfi, hfo⟩
      · subst hfi
        clear hb
        go_enter Tryz.func16, Tryz.ntmps16
        go_wp2_with fail
        refine A.mono ?_
        rintro e w' ⟨rfl, rfl⟩
        go_wp2_with fail
        refine AC.mono ?_
        rintro e w2 ⟨A2, c2, rfl, K2⟩
        have d8 := C2.out w2 K2
        have HE2 := HE.out w2 K2
        clear K2
        go_wp2_with fail
        refine HE2.mono ?_
        rintro e w3 ⟨A3, c3, rfl, K3⟩
        clear HE2 d8
        obtain ⟨oP, oQ⟩ := C3.out A3 c3 w3 K3
        obtain ⟨p0, p1, p4, p5, p6, p7, p8, p9⟩ := hdC_cells oP
        have ln := LEN.out A3 c3 w3 K3
        have K3d : H3 A3 c3 w3.drew := D3.out A3 c3 w3 1 K3
        have lnd := LEN.out A3 c3 w3.drew K3d
        have oPd : w3.drew.heap[p]? = some (hdC a k r o now last clock mb lp rp) := oP
        have oQd : w3.drew.heap[q]? = some (txC num snap act begun ended _ _ vw) := oQ
        clear p0 p4 p5 p6 p8 p9 oP oQ
        replace K3 := Aside0.mk K3
        replace K3d := Aside0.mk K3d
        replace oPd := Aside0.mk oPd
        replace oQd := Aside0.mk oQd
        go_wp2_with fail
        have hgi : (1 : Int) < (n0 : Int) := by omega
        have hgd : decide ((1 : Int) < (n0 : Int)) = true := decide_eq_true hgi
        go_region_held3 (fun V => V.cell? ⟨p, 7, none⟩ = some (.map (some mb)) ∧ V.cell? ⟨p, 1, none⟩ = some (.int .i64 k) ∧ (Builtin.len_ #[86] 3 #[.map (some mb)]).run Tryz.prog V = .ok (.int .i64 (tl : Int)) V) (first | exact ⟨p7, p1, ln⟩ | exact ⟨p7, p1, lnd⟩) (fail)
        generalize w3.drew = wd at *
        have FU := FULL.out hn1 (by first | rfl | trivial) hfull A3 c3 wd K3d.out
        clear ln lnd p1 p7 FULL
        go_wp2_with fail
        refine FU.mono ?_
        rintro e w4 ⟨rfl, HP⟩
        go_wp2
        go_ret2
        exact ⟨_, _, rfl, HP⟩
      · subst hfi hfo
        clear hb
        go_enter Tryz.func16, Tryz.ntmps16
        go_wp2_with fail
        refine A.mono ?_
        rintro e w' ⟨rfl, rfl⟩
        go_wp2_with fail
        refine AC.mono ?_
        rintro e w2 ⟨A2, c2, rfl, K2⟩
        have d8 := C2.out w2 K2
        have HE2 := HE.out w2 K2
        clear K2
        go_wp2_with fail
        refine HE2.mono ?_
        rintro e w3 ⟨A3, c3, rfl, K3⟩
        clear HE2 d8
        obtain ⟨oP, oQ⟩ := C3.out A3 c3 w3 K3
        obtain ⟨p0, p1, p4, p5, p6, p7, p8, p9⟩ := hdC_cells oP
        have ln := LEN.out A3 c3 w3 K3
        have K3d : H3 A3 c3 w3.drew := D3.out A3 c3 w3 1 K3
        have lnd := LEN.out A3 c3 w3.drew K3d
        have oPd : w3.drew.heap[p]? = some (hdC a k r o now last clock mb lp rp) := oP
        have oQd : w3.drew.heap[q]? = some (txC num snap act begun ended _ _ vw) := oQ
        clear p0 p4 p5 p6 p8 p9 oP oQ
        replace K3 := Aside0.mk K3
        replace K3d := Aside0.mk K3d
        replace oPd := Aside0.mk oPd
        replace oQd := Aside0.mk oQd
        go_wp2_with fail
        have hgi : (1 : Int) < (n0 : Int) := by omega
        have hgd : decide ((1 : Int) < (n0 : Int)) = true := decide_eq_true hgi
        go_region_held3 (fun V => V.cell? ⟨p, 7, none⟩ = some (.map (some mb)) ∧ V.cell? ⟨p, 1, none⟩ = some (.int .i64 k) ∧ (Builtin.len_ #[86] 3 #[.map (some mb)]).run Tryz.prog V = .ok (.int .i64 (tl : Int)) V) (first | exact ⟨p7, p1, ln⟩ | exact ⟨p7, p1, lnd⟩) (fail)
        generalize w3.drew = wd at *
        have FU := FULL.out hn1 (by first | rfl | trivial) hfull A3 c3 wd K3d.out
        clear ln lnd p1 p7 FULL
        go_wp2_with fail
        refine FU.mono ?_
        rintro e w4 ⟨rfl, HP⟩
        go_wp2
        go_ret2
        exact ⟨_, _, rfl, HP⟩
    · rcases (show fin = false ∨ (fin = true ∧ fout = false) by revert hb; cases fin <;> cases fout <;> simp) with hfi | ⟨hfi, hfo⟩
      · subst hfi
        clear hb
        go_enter Tryz.func16, Tryz.ntmps16
        go_wp2_with fail
        refine A.mono ?_
        rintro e w' ⟨rfl, rfl⟩
        go_wp2_with fail
        refine AC.mono ?_
        rintro e w2 ⟨A2, c2, rfl, K2⟩
        have d8 := C2.out w2 K2
        have HE2 := HE.out w2 K2
        clear K2
        go_wp2_with fail
        refine HE2.mono ?_
        rintro e w3 ⟨A3, c3, rfl, K3⟩
        clear HE2 d8
        obtain ⟨oP, oQ⟩ := C3.out A3 c3 w3 K3
        obtain ⟨p0, p1, p4, p5, p6, p7, p8, p9⟩ := hdC_cells oP
        have ln := LEN.out A3 c3 w3 K3
        have K3d : H3 A3 c3 w3.drew := D3.out A3 c3 w3 1 K3
        have lnd := LEN.out A3 c3 w3.drew K3d
        have oPd : w3.drew.heap[p]? = some (hdC a k r o now last clock mb lp rp) := oP
        have oQd : w3.drew.heap[q]? = some (txC num snap act begun ended _ _ vw) := oQ
        clear p0 p4 p5 p6 p8 p9 oP oQ
        replace K3 := Aside0.mk K3
        replace K3d := Aside0.mk K3d
        replace oPd := Aside0.mk oPd
        replace oQd := Aside0.mk oQd
        go_wp2_with fail
        have hgi : (1 : Int) < (n0 : Int) := by omega
        have hgd : decide ((1 : Int) < (n0 : Int)) = true := decide_eq_true hgi
        go_region_held3 (fun V => V.cell? ⟨p, 7, none⟩ = some (.map (some mb)) ∧ V.cell? ⟨p, 1, none⟩ = some (.int .i64 k) ∧ (Builtin.len_ #[86] 3 #[.map (some mb)]).run Tryz.prog V = .ok (.int .i64 (tl : Int)) V) (first | exact ⟨p7, p1, ln⟩ | exact ⟨p7, p1, lnd⟩) (fail)
        clear ln lnd p1 p7
        generalize w3.drew = wd at *
        obtain ⟨W5, hW5⟩ : ∃ W5, W5 = ((((wd.setCell ⟨p, 4, none⟩ (.int .i64 (now + 1))).setCell ⟨p, 6, none⟩ (.int .i64 (clock + 1))).setCell ⟨q, 2, none⟩ (.bool false)).setCell ⟨q, 4, none⟩ (.int .i64 (clock + 1))).setCell ⟨q, 7, none⟩ (.slice A3 hl c3) := ⟨_, rfl⟩
        obtain ⟨e8, RL⟩ := REL.out A3 c3 wd K3d.out W5 hW5
        obtain ⟨p0, p1, p4, p5, p6, p7, p8, p9⟩ := hdC_cells oPd.out
        obtain ⟨q0, q1, q2, q3, q4, q5, q6, q7⟩ := txC_cells oQd.out
        have fzp := blk_frozen oPd.out
        have fzq := blk_frozen oQd.out
        have hne2 := hne.out
        have hne3 : q ≠ p := fun e => hne2 e.symm
        go_upto_region 17 with (fail)
        rw [← hW5]
        clear hW5 p0 p1 p4 p5 p6 p7 p8 p9 q0 q1 q2 q3 q4 q5 q6 q7 fzp fzq hne2 hne3
        go_wp2_with fail
        refine RL.mono ?_
        rintro e w6 ⟨k6, rfl, K6⟩
        clear RL e8
        have FG := FG6.out (by rintro (h | h); exact absurd h (by omega); cases h) w6 K6
        clear K6
        go_wp2_with fail
        refine FG.mono ?_
        rintro e w9 ⟨rfl, K9⟩
        clear FG
        have e4 := C9.out w9 K9
        have EN := END.out (by rintro ⟨_, _, h⟩; omega) w9 K9
        go_wp2
        go_ret2
        exact ⟨_, _, rfl, EN⟩
      · subst hfi hfo
        clear hb
        go_enter Tryz.func16, Tryz.ntmps16
        go_wp2_with fail
        refine A.mono ?_
        rintro e w' ⟨rfl, rfl⟩
        go_wp2_with fail
        refine AC.mono ?_
        rintro e w2 ⟨A2, c2, rfl, K2⟩
        have d8 := C2.out w2 K2
        have HE2 := HE.out w2 K2
        clear K2
        go_wp2_with fail
        refine HE2.mono ?_
        rintro e w3 ⟨A3, c3, rfl, K3⟩
        clear HE2 d8
        obtain ⟨oP, oQ⟩ := C3.out A3 c3 w3 K3
        obtain ⟨p0, p1, p4, p5, p6, p7, p8, p9⟩ := hdC_cells oP
        have ln := LEN.out A3 c3 w3 K3
        have K3d : H3 A3 c3 w3.drew := D3.out A3 c3 w3 1 K3
        have lnd := LEN.out A3 c3 w3.drew K3d
        have oPd : w3.drew.heap[p]? = some (hdC a k r o now last clock mb lp rp) := oP
        have oQd : w3.drew.heap[q]? = some (txC num snap act begun ended _ _ vw) := oQ
        clear p0 p4 p5 p6 p8 p9 oP oQ
        replace K3 := Aside0.mk K3
        replace K3d := Aside0.mk K3d
        replace oPd := Aside0.mk oPd
        replace oQd := Aside0.mk oQd
        go_wp2_with fail
        have hgi : (1 : Int) < (n0 : Int) := by omega
        have hgd : decide ((1 : Int) < (n0 : Int)) = true := decide_eq_true hgi
        go_region_held3 (fun V => V.cell? ⟨p, 7, none⟩ = some (.map (some mb)) ∧ V.cell? ⟨p, 1, none⟩ = some (.int .i64 k) ∧ (Builtin.len_ #[86] 3 #[.map (some mb)]).run Tryz.prog V = .ok (.int .i64 (tl : Int)) V) (first | exact ⟨p7, p1, ln⟩ | exact ⟨p7, p1, lnd⟩) (fail)
        clear ln lnd p1 p7
        generalize w3.drew = wd at *
        obtain ⟨W5, hW5⟩ : ∃ W5, W5 = ((((wd.setCell ⟨p, 4, none⟩ (.int .i64 (now + 1))).setCell ⟨p, 6, none⟩ (.int .i64 (clock + 1))).setCell ⟨q, 2, none⟩ (.bool false)).setCell ⟨q, 4, none⟩ (.int .i64 (clock + 1))).setCell ⟨q, 7, none⟩ (.slice A3 hl c3) := ⟨_, rfl⟩
        obtain ⟨e8, RL⟩ := REL.out A3 c3 wd K3d.out W5 hW5
        obtain ⟨p0, p1, p4, p5, p6, p7, p8, p9⟩ := hdC_cells oPd.out
        obtain ⟨q0, q1, q2, q3, q4, q5, q6, q7⟩ := txC_cells oQd.out
        have fzp := blk_frozen oPd.out
        have fzq := blk_frozen oQd.out
        have hne2 := hne.out
        have hne3 : q ≠ p := fun e => hne2 e.symm
        go_upto_region 17 with (fail)
        rw [← hW5]
        clear hW5 p0 p1 p4 p5 p6 p7 p8 p9 q0 q1 q2 q3 q4 q5 q6 q7 fzp fzq hne2 hne3
        go_wp2_with fail
        refine RL.mono ?_
        rintro e w6 ⟨k6, rfl, K6⟩
        clear RL e8
        have FG := FG6.out (by rintro (h | h); exact absurd h (by omega); cases h) w6 K6
        clear K6
        go_wp2_with fail
        refine FG.mono ?_
        rintro e w9 ⟨rfl, K9⟩
        clear FG
        have e4 := C9.out w9 K9
        have EN := END.out (by rintro ⟨_, _, h⟩; omega) w9 K9
        go_wp2
        go_ret2
        exact ⟨_, _, rfl, EN⟩
    · subst hn1
      rcases (show fin = false ∨ (fin = true ∧ fout = false) by revert hb; cases fin <;> cases fout <;> simp) with hfi | ⟨hfi, hfo⟩
      · subst hfi
        clear hb
        go_enter Tryz.func16, Tryz.ntmps16
        go_wp2_with fail
        refine A.mono ?_
        rintro e w' ⟨rfl, rfl⟩
        go_wp2_with fail
        refine AC.mono ?_
        rintro e w2 ⟨A2, c2, rfl, K2⟩
        have d8 := C2.out w2 K2
        have HE2 := HE.out w2 K2
        clear K2
        go_wp2_with fail
        refine HE2.mono ?_
        rintro e w3 ⟨A3, c3, rfl, K3⟩
        clear HE2 d8
        obtain ⟨oP, oQ⟩ := C3.out A3 c3 w3 K3
        obtain ⟨p0, p1, p4, p5, p6, p7, p8, p9⟩ := hdC_cells oP
        have ln := LEN.out A3 c3 w3 K3
        have K3d : H3 A3 c3 w3.drew := D3.out A3 c3 w3 1 K3
        have lnd := LEN.out A3 c3 w3.drew K3d
        have oPd : w3.drew.heap[p]? = some (hdC a k r o now last clock mb lp rp) := oP
        have oQd : w3.drew.heap[q]? = some (txC num snap act begun ended _ _ vw) := oQ
        clear p0 p4 p5 p6 p8 p9 oP oQ
        replace K3 := Aside0.mk K3
        replace K3d := Aside0.mk K3d
        replace oPd := Aside0.mk oPd
        replace oQd := Aside0.mk oQd
        go_wp2_with fail
        go_region
        clear ln lnd p1 p7
        generalize w3.drew = wd at *
        obtain ⟨W5, hW5⟩ : ∃ W5, W5 = ((((wd.setCell ⟨p, 4, none⟩ (.int .i64 (now + 1))).setCell ⟨p, 6, none⟩ (.int .i64 (clock + 1))).setCell ⟨q, 2, none⟩ (.bool false)).setCell ⟨q, 4, none⟩ (.int .i64 (clock + 1))).setCell ⟨q, 7, none⟩ (.slice A3 hl c3) := ⟨_, rfl⟩
        obtain ⟨e8, RL⟩ := REL.out A3 c3 wd K3d.out W5 hW5
        obtain ⟨p0, p1, p4, p5, p6, p7, p8, p9⟩ := hdC_cells oPd.out
        obtain ⟨q0, q1, q2, q3, q4, q5, q6, q7⟩ := txC_cells oQd.out
        have fzp := blk_frozen oPd.out
        have fzq := blk_frozen oQd.out
        have hne2 := hne.out
        have hne3 : q ≠ p := fun e => hne2 e.symm
        go_upto_region 17 with (fail)
        rw [← hW5]
        clear hW5 p0 p1 p4 p5 p6 p7 p8 p9 q0 q1 q2 q3 q4 q5 q6 q7 fzp fzq hne2 hne3
        go_wp2_with fail
        refine RL.mono ?_
        rintro e w6 ⟨k6, rfl, K6⟩
        clear RL e8
        have e9 := C6.out w6 K6
        have DR := DRP.out w6 K6
        go_wp2_with fail
        refine DR.mono ?_
        rintro e w7 ⟨k7, rfl, K7⟩
        obtain ⟨e7, w8, hdel, K8⟩ := DEL.out w7 K7
        have FG := FG8.out (by simp) w8 K8
        clear DR e9 K6 K7 K8
        go_wp2_with fail
        refine FG.mono ?_
        rintro e w9 ⟨rfl, K9⟩
        clear FG hdel e7
        have e4 := C9.out w9 K9
        have EN := END.out (by simp) w9 K9
        go_wp2
        go_ret2
        exact ⟨_, _, rfl, EN⟩
      · subst hfi hfo
        clear hb
        go_enter Tryz.func16, Tryz.ntmps16
        go_wp2_with fail
        refine A.mono ?_
        rintro e w' ⟨rfl, rfl⟩
        go_wp2_with fail
        refine AC.mono ?_
        rintro e w2 ⟨A2, c2, rfl, K2⟩
        have d8 := C2.out w2 K2
        have HE2 := HE.out w2 K2
        clear K2
        go_wp2_with fail
        refine HE2.mono ?_
        rintro e w3 ⟨A3, c3, rfl, K3⟩
        clear HE2 d8
        obtain ⟨oP, oQ⟩ := C3.out A3 c3 w3 K3
        obtain ⟨p0, p1, p4, p5, p6, p7, p8, p9⟩ := hdC_cells oP
        have ln := LEN.out A3 c3 w3 K3
        have K3d : H3 A3 c3 w3.drew := D3.out A3 c3 w3 1 K3
        have lnd := LEN.out A3 c3 w3.drew K3d
        have oPd : w3.drew.heap[p]? = some (hdC a k r o now last clock mb lp rp) := oP
        have oQd : w3.drew.heap[q]? = some (txC num snap act begun ended _ _ vw) := oQ
        clear p0 p4 p5 p6 p8 p9 oP oQ
        replace K3 := Aside0.mk K3
        replace K3d := Aside0.mk K3d
        replace oPd := Aside0.mk oPd
        replace oQd := Aside0.mk oQd
        go_wp2_with fail
        go_region
        clear ln lnd p1 p7
        generalize w3.drew = wd at *
        obtain ⟨W5, hW5⟩ : ∃ W5, W5 = ((((wd.setCell ⟨p, 4, none⟩ (.int .i64 (now + 1))).setCell ⟨p, 6, none⟩ (.int .i64 (clock + 1))).setCell ⟨q, 2, none⟩ (.bool false)).setCell ⟨q, 4, none⟩ (.int .i64 (clock + 1))).setCell ⟨q, 7, none⟩ (.slice A3 hl c3) := ⟨_, rfl⟩
        obtain ⟨e8, RL⟩ := REL.out A3 c3 wd K3d.out W5 hW5
        obtain ⟨p0, p1, p4, p5, p6, p7, p8, p9⟩ := hdC_cells oPd.out
        obtain ⟨q0, q1, q2, q3, q4, q5, q6, q7⟩ := txC_cells oQd.out
        have fzp := blk_frozen oPd.out
        have fzq := blk_frozen oQd.out
        have hne2 := hne.out
        have hne3 : q ≠ p := fun e => hne2 e.symm
        go_upto_region 17 with (fail)
        rw [← hW5]
        clear hW5 p0 p1 p4 p5 p6 p7 p8 p9 q0 q1 q2 q3 q4 q5 q6 q7 fzp fzq hne2 hne3
        go_wp2_with fail
        refine RL.mono ?_
        rintro e w6 ⟨k6, rfl, K6⟩
        clear RL e8
        have e9 := C6.out w6 K6
        have DR := DRP.out w6 K6
        go_wp2_with fail
        refine DR.mono ?_
        rintro e w7 ⟨k7, rfl, K7⟩
        obtain ⟨e7, w8, hdel, K8⟩ := DEL.out w7 K7
        have FG := FG8.out (by simp) w8 K8
        clear DR e9 K6 K7 K8
        go_wp2_with fail
        refine FG.mono ?_
        rintro e w9 ⟨rfl, K9⟩
        clear FG hdel e7
        have e4 := C9.out w9 K9
        have EN := END.out (by simp) w9 K9
        go_wp2
        go_ret2
        exact ⟨_, _, rfl, EN⟩
end Go.Proofs.YthaoedfalkebbaaGreat
namespace Go.Proofs.YthaoedfalkebbaaGreat
open Go.RowKit Go.Maps Go.Sort Go.Lib Go.Shelf Go.Proofs.YthaoedfalkebbaaGreatW.PrintWords Go.Proofs.YthaoedfalkebbaaGreatW.PrintLast Go.Proofs.YthaoedfalkebbaaGreatW.PrintMore
set_option linter.unusedVariables false
set_option linter.unusedSimpArgs false
set_option linter.unusedSectionVars false
set_option maxHeartbeats 64000000 in
set_option maxRecDepth 100000 in
theorem Commit_walk2 (p mb lp rp q n0 tl  ol : Nat) (tx a k r o now last clock num snap begun ended : Int) (act fin fout tr : Bool) (vw : Value) (w : World) (Post : Int → Int → World → Prop) (H2 : World → Prop) (H3 : Option Addr → Nat → World → Prop) (H6 H7 H8 H9 : World → Prop) (hne : p ≠ q)
    (hn0 : 1 ≤ n0 ∧ n0 ≤ 65536) (htl : n0 ≤ tl ∧ tl ≤ 65536) (hhb : 0 ≤ 65536) (hob : ol ≤ 9223372036854775000)  (hnw : 0 ≤ now ∧ now ≤ 4611686018427387904) (hcl : 0 ≤ clock ∧ clock ≤ 4611686018427387904)
    (htr : tr = decide (0 < ol))
    (A : Calls Tryz.prog 39 #[ptr p, .int .i64 tx] w fun e w' => e = .returned (.tuple #[ptr q, .int .i64 0]) ∧ w = w')
    (f5 : w.cell? ⟨q, 5, none⟩ = some (.bool fin)) (f6 : w.cell? ⟨q, 6, none⟩ = some (.bool fout))
    (BOTH : (fin && fout) = true → Calls Tryz.prog 43 #[ptr p, ptr q] w fun e w' => e = .returned (.tuple #[]) ∧ Post 0 100 w')
    (AC : Calls Tryz.prog 26 #[ptr p] w fun e w2 => ∃ A c, e = .returned (.slice A n0 c) ∧ H2 w2)
    (C2 : ∀ W, H2 W → W.cell? ⟨p, 8, none⟩ = some (ptr lp))
    (HE : ∀ W, H2 W → Calls Tryz.prog 51 #[ptr lp, .int .i64 tx] W fun e w3 => ∃ A c, e = .returned (.slice A 0 c) ∧ H3 A c w3)
    (C3 : ∀ A c W, H3 A c W → W.heap[p]? = some (hdC a k r o now last clock mb lp rp) ∧ W.heap[q]? = some (txC num snap act begun ended fin fout vw))
    (OF : ∀ A c W, H3 A c W → Calls Tryz.prog 52 #[ptr rp, .int .i64 tx] W fun e w4 => ∃ A' c', e = .returned (.slice A' ol c') ∧ H3 A c w4)
    (D3 : ∀ A c W n, H3 A c W → H3 A c (W.drewN n))
    (LEN : ∀ A c W, H3 A c W → (Builtin.len_ #[86] 3 #[.map (some mb)]).run Tryz.prog W = .ok (.int .i64 (tl : Int)) W)
    (FULL : (fin && fout) = false → 1 < n0 → tr = true → k ≤ (tl : Int) - n0 → ∀ A c W, H3 A c W → Calls Tryz.prog 43 #[ptr p, ptr q] W fun e w' => e = .returned (.tuple #[]) ∧ Post 0 4 w')
    (REL : ∀ A c W, H3 A c W → ∀ W5, W5 = (((W.setCell ⟨p, 6, none⟩ (.int .i64 (clock + 1))).setCell ⟨q, 2, none⟩ (.bool false)).setCell ⟨q, 4, none⟩ (.int .i64 (clock + 1))).setCell ⟨q, 7, none⟩ (.slice A 0 c) → W5.cell? ⟨p, 8, none⟩ = some (ptr lp) ∧ Calls Tryz.prog 53 #[ptr lp, .int .i64 tx] W5 fun e w6 => ∃ k, e = .returned (.int .i64 k) ∧ H6 w6)
    (C6 : ∀ W, H6 W → W.cell? ⟨p, 9, none⟩ = some (ptr rp))
    (DRP : ∀ W, H6 W → Calls Tryz.prog 54 #[ptr rp, .int .i64 tx] W fun e w7 => ∃ k, e = .returned (.int .i64 k) ∧ H7 w7)
    (DEL : ∀ W, H7 W → W.cell? ⟨p, 7, none⟩ = some (.map (some mb)) ∧ ∃ w8, (Builtin.delete_ #[86, 2] 0 #[.map (some mb), .int .i64 tx]).run Tryz.prog W = .ok (.tuple #[]) w8 ∧ H8 w8)
    (FG6 : ¬ (n0 = 1 ∨ tr = false) → ∀ W, H6 W → Calls Tryz.prog 55 #[ptr p] W fun e w' => e = .returned (.tuple #[]) ∧ H9 w')
    (FG8 : (n0 = 1 ∨ tr = false) → ∀ W, H8 W → Calls Tryz.prog 55 #[ptr p] W fun e w' => e = .returned (.tuple #[]) ∧ H9 w')
    (C9 : ∀ W, H9 W → W.cell? ⟨p, 4, none⟩ = some (.int .i64 now))
    (END : (fin && fout) = false → ¬ (1 < n0 ∧ tr = true ∧ k ≤ (tl : Int) - n0) → ∀ W, H9 W → Post now 0 W) :
    Calls Tryz.prog 16 #[ptr p, .int .i64 tx] w fun e w' => ∃ x y, e = .returned (.tuple #[.int .i64 x, .int .i64 y]) ∧ Post x y w' := by
  have wn1 : IntKind.i64.wrap (now + 1) = now + 1 := IntWalk.i64_in _ (by omega)
  have wc1 : IntKind.i64.wrap (clock + 1) = clock + 1 := IntWalk.i64_in _ (by omega)
  have wt1 : IntKind.i64.wrap ((tl : Int) - n0) = (tl : Int) - n0 := IntWalk.i64_in _ (by omega)
  replace hne := Aside0.mk hne
  replace C2 := Aside0.mk C2
  replace HE := Aside0.mk HE
  replace C3 := Aside0.mk C3
  replace OF := Aside0.mk OF
  replace D3 := Aside0.mk D3
  replace LEN := Aside0.mk LEN
  replace FULL := Aside0.mk FULL
  replace REL := Aside0.mk REL
  replace C6 := Aside0.mk C6
  replace DRP := Aside0.mk DRP
  replace DEL := Aside0.mk DEL
  replace FG6 := Aside0.mk FG6
  replace FG8 := Aside0.mk FG8
  replace C9 := Aside0.mk C9
  replace END := Aside0.mk END
  replace hnw := Aside0.mk hnw
  replace hcl := Aside0.mk hcl
  cases hb : (fin && fout) with
  | true =>
    have hb1 : fin = true := by revert hb; cases fin <;> simp
    have hb2 : fout = true := by revert hb; cases fout <;> simp
    subst hb1 hb2
    have BT := BOTH rfl
    clear BOTH AC htr hb
    go_enter Tryz.func16, Tryz.ntmps16
    go_wp2_with fail
    refine A.mono ?_
    rintro e w' ⟨rfl, rfl⟩
    go_wp2_with fail
    refine BT.mono ?_
    rintro e w' ⟨rfl, HP⟩
    go_wp2
    go_ret2
    exact ⟨_, _, rfl, HP⟩
  | false =>
    clear BOTH
    replace END := Aside0.mk (END.out hb)
    replace FULL := Aside0.mk (FULL.out hb)
    subst htr
    rcases (show (1 < n0 ∧ 0 < ol ∧ k ≤ (tl : Int) - n0) ∨ (1 < n0 ∧ 0 < ol ∧ ¬ k ≤ (tl : Int) - n0) ∨ (n0 = 1 ∧ 0 < ol) ∨ (1 < n0 ∧ ol = 0) ∨ (n0 = 1 ∧ ol = 0) by omega) with ⟨hn1, hol, hfull⟩ | ⟨hn1, hol, hfull⟩ | ⟨hn1, hol⟩ | ⟨hn1, hol⟩ | ⟨hn1, hol⟩
    · rcases (show fin = false ∨ (fin = true ∧ fout = false) by revert hb; cases fin <;> cases fout <;> simp) with hfi | ⟨hfi, hfo⟩
      · subst hfi
        clear hb
        have hot : decide (0 < ol) = true := decide_eq_true hol
        rw [hot] at FULL FG6 FG8 END
        clear hot
        go_enter Tryz.func16, Tryz.ntmps16
        go_wp2_with fail
        refine A.mono ?_
        rintro e w' ⟨rfl, rfl⟩
        go_wp2_with fail
        refine AC.mono ?_
        rintro e w2 ⟨A2, c2, rfl, K2⟩
        have d8 := C2.out w2 K2
        have HE2 := HE.out w2 K2
        clear K2
        go_wp2_with fail
        refine HE2.mono ?_
        rintro e w3' ⟨A3, c3, rfl, K3⟩
        clear HE2 d8
        have d9 := (hdC_cells (C3.out A3 c3 w3' K3).1).2.2.2.2.2.2.2
        have OF2 := OF.out A3 c3 w3' K3
        clear K3
        go_wp2_with fail
        refine OF2.mono ?_
        rintro e w3 ⟨A4, c4, rfl, K3⟩
        clear OF2 d9 w3'
        obtain ⟨oP, oQ⟩ := C3.out A3 c3 w3 K3
        obtain ⟨p0, p1, p4, p5, p6, p7, p8, p9⟩ := hdC_cells oP
        have ln := LEN.out A3 c3 w3 K3
        have K3d : H3 A3 c3 w3.drew := D3.out A3 c3 w3 1 K3
        have lnd := LEN.out A3 c3 w3.drew K3d
        have oPd : w3.drew.heap[p]? = some (hdC a k r o now last clock mb lp rp) := oP
        have oQd : w3.drew.heap[q]? = some (txC num snap act begun ended _ _ vw) := oQ
        clear p0 p4 p5 p6 p8 p9 oP oQ
        replace K3 := Aside0.mk K3
        replace K3d := Aside0.mk K3d
        replace oPd := Aside0.mk oPd
        replace oQd := Aside0.mk oQd
        go_wp2_with fail
        have hgi : (1 : Int) < (n0 : Int) := by omega
        have hgd : decide ((1 : Int) < (n0 : Int)) = true := decide_eq_true hgi
        go_region_held3 (fun V => V.cell? ⟨p, 7, none⟩ = some (.map (some mb)) ∧ V.cell? ⟨p, 1, none⟩ = some (.int .i64 k) ∧ (Builtin.len_ #[86] 3 #[.map (some mb)]).run Tryz.prog V = .ok (.int .i64 (tl : Int)) V) (first | exact ⟨p7, p1, ln⟩ | exact ⟨p7, p1, lnd⟩) (fail)
        generalize w3.drew = wd at *
        have FU := FULL.out hn1 (by first | rfl | trivial) hfull A3 c3 wd K3d.out
        clear ln lnd p1 p7 FULL
        go_wp2_with fail
        refine FU.mono ?_
        rintro e w4 ⟨rfl, HP⟩
        go_wp2
        go_ret2
        exact ⟨_, _, rfl, HP⟩
      · subst hfi hfo
        clear hb
        have hot : decide (0 < ol) = true := decide_eq_true hol
        rw [hot] at FULL FG6 FG8 END
        clear hot
        go_enter Tryz.func16, Tryz.ntmps16
        go_wp2_with fail
        refine A.mono ?_
        rintro e w' ⟨rfl, rfl⟩
        go_wp2_with fail
        refine AC.mono ?_
        rintro e w2 ⟨A2, c2, rfl, K2⟩
        have d8 := C2.out w2 K2
        have HE2 := HE.out w2 K2
        clear K2
        go_wp2_with fail
        refine HE2.mono ?_
        rintro e w3' ⟨A3, c3, rfl, K3⟩
        clear HE2 d8
        have d9 := (hdC_cells (C3.out A3 c3 w3' K3).1).2.2.2.2.2.2.2
        have OF2 := OF.out A3 c3 w3' K3
        clear K3
        go_wp2_with fail
        refine OF2.mono ?_
        rintro e w3 ⟨A4, c4, rfl, K3⟩
        clear OF2 d9 w3'
        obtain ⟨oP, oQ⟩ := C3.out A3 c3 w3 K3
        obtain ⟨p0, p1, p4, p5, p6, p7, p8, p9⟩ := hdC_cells oP
        have ln := LEN.out A3 c3 w3 K3
        have K3d : H3 A3 c3 w3.drew := D3.out A3 c3 w3 1 K3
        have lnd := LEN.out A3 c3 w3.drew K3d
        have oPd : w3.drew.heap[p]? = some (hdC a k r o now last clock mb lp rp) := oP
        have oQd : w3.drew.heap[q]? = some (txC num snap act begun ended _ _ vw) := oQ
        clear p0 p4 p5 p6 p8 p9 oP oQ
        replace K3 := Aside0.mk K3
        replace K3d := Aside0.mk K3d
        replace oPd := Aside0.mk oPd
        replace oQd := Aside0.mk oQd
        go_wp2_with fail
        have hgi : (1 : Int) < (n0 : Int) := by omega
        have hgd : decide ((1 : Int) < (n0 : Int)) = true := decide_eq_true hgi
        go_region_held3 (fun V => V.cell? ⟨p, 7, none⟩ = some (.map (some mb)) ∧ V.cell? ⟨p, 1, none⟩ = some (.int .i64 k) ∧ (Builtin.len_ #[86] 3 #[.map (some mb)]).run Tryz.prog V = .ok (.int .i64 (tl : Int)) V) (first | exact ⟨p7, p1, ln⟩ | exact ⟨p7, p1, lnd⟩) (fail)
        generalize w3.drew = wd at *
        have FU := FULL.out hn1 (by first | rfl | trivial) hfull A3 c3 wd K3d.out
        clear ln lnd p1 p7 FULL
        go_wp2_with fail
        refine FU.mono ?_
        rintro e w4 ⟨rfl, HP⟩
        go_wp2
        go_ret2
        exact ⟨_, _, rfl, HP⟩
    · rcases (show fin = false ∨ (fin = true ∧ fout = false) by revert hb; cases fin <;> cases fout <;> simp) with hfi | ⟨hfi, hfo⟩
      · subst hfi
        clear hb
        have hot : decide (0 < ol) = true := decide_eq_true hol
        rw [hot] at FULL FG6 FG8 END
        clear hot
        go_enter Tryz.func16, Tryz.ntmps16
        go_wp2_with fail
        refine A.mono ?_
        rintro e w' ⟨rfl, rfl⟩
        go_wp2_with fail
        refine AC.mono ?_
        rintro e w2 ⟨A2, c2, rfl, K2⟩
        have d8 := C2.out w2 K2
        have HE2 := HE.out w2 K2
        clear K2
        go_wp2_with fail
        refine HE2.mono ?_
        rintro e w3' ⟨A3, c3, rfl, K3⟩
        clear HE2 d8
        have d9 := (hdC_cells (C3.out A3 c3 w3' K3).1).2.2.2.2.2.2.2
        have OF2 := OF.out A3 c3 w3' K3
        clear K3
        go_wp2_with fail
        refine OF2.mono ?_
        rintro e w3 ⟨A4, c4, rfl, K3⟩
        clear OF2 d9 w3'
        obtain ⟨oP, oQ⟩ := C3.out A3 c3 w3 K3
        obtain ⟨p0, p1, p4, p5, p6, p7, p8, p9⟩ := hdC_cells oP
        have ln := LEN.out A3 c3 w3 K3
        have K3d : H3 A3 c3 w3.drew := D3.out A3 c3 w3 1 K3
        have lnd := LEN.out A3 c3 w3.drew K3d
        have oPd : w3.drew.heap[p]? = some (hdC a k r o now last clock mb lp rp) := oP
        have oQd : w3.drew.heap[q]? = some (txC num snap act begun ended _ _ vw) := oQ
        clear p0 p4 p5 p6 p8 p9 oP oQ
        replace K3 := Aside0.mk K3
        replace K3d := Aside0.mk K3d
        replace oPd := Aside0.mk oPd
        replace oQd := Aside0.mk oQd
        go_wp2_with fail
        have hgi : (1 : Int) < (n0 : Int) := by omega
        have hgd : decide ((1 : Int) < (n0 : Int)) = true := decide_eq_true hgi
        go_region_held3 (fun V => V.cell? ⟨p, 7, none⟩ = some (.map (some mb)) ∧ V.cell? ⟨p, 1, none⟩ = some (.int .i64 k) ∧ (Builtin.len_ #[86] 3 #[.map (some mb)]).run Tryz.prog V = .ok (.int .i64 (tl : Int)) V) (first | exact ⟨p7, p1, ln⟩ | exact ⟨p7, p1, lnd⟩) (fail)
        clear ln lnd p1 p7
        generalize w3.drew = wd at *
        obtain ⟨W5, hW5⟩ : ∃ W5, W5 = (((wd.setCell ⟨p, 6, none⟩ (.int .i64 (clock + 1))).setCell ⟨q, 2, none⟩ (.bool false)).setCell ⟨q, 4, none⟩ (.int .i64 (clock + 1))).setCell ⟨q, 7, none⟩ (.slice A3 0 c3) := ⟨_, rfl⟩
        obtain ⟨e8, RL⟩ := REL.out A3 c3 wd K3d.out W5 hW5
        obtain ⟨p0, p1, p4, p5, p6, p7, p8, p9⟩ := hdC_cells oPd.out
        obtain ⟨q0, q1, q2, q3, q4, q5, q6, q7⟩ := txC_cells oQd.out
        have fzp := blk_frozen oPd.out
        have fzq := blk_frozen oQd.out
        have hne2 := hne.out
        have hne3 : q ≠ p := fun e => hne2 e.symm
        go_upto_region 17 with (fail)
        rw [← hW5]
        clear hW5 p0 p1 p4 p5 p6 p7 p8 p9 q0 q1 q2 q3 q4 q5 q6 q7 fzp fzq hne2 hne3
        go_wp2_with fail
        refine RL.mono ?_
        rintro e w6 ⟨k6, rfl, K6⟩
        clear RL e8
        have FG := FG6.out (by rintro (h | h); exact absurd h (by omega); cases h) w6 K6
        clear K6
        go_wp2_with fail
        refine FG.mono ?_
        rintro e w9 ⟨rfl, K9⟩
        clear FG
        have e4 := C9.out w9 K9
        have EN := END.out (by rintro ⟨_, _, h⟩; omega) w9 K9
        go_wp2
        go_ret2
        exact ⟨_, _, rfl, EN⟩
      · subst hfi hfo
        clear hb
        have hot : decide (0 < ol) = true := decide_eq_true hol
        rw [hot] at FULL FG6 FG8 END
        clear hot
        go_enter Tryz.func16, Tryz.ntmps16
        go_wp2_with fail
        refine A.mono ?_
        rintro e w' ⟨rfl, rfl⟩
        go_wp2_with fail
        refine AC.mono ?_
        rintro e w2 ⟨A2, c2, rfl, K2⟩
        have d8 := C2.out w2 K2
        have HE2 := HE.out w2 K2
        clear K2
        go_wp2_with fail
        refine HE2.mono ?_
        rintro e w3' ⟨A3, c3, rfl, K3⟩
        clear HE2 d8
        have d9 := (hdC_cells (C3.out A3 c3 w3' K3).1).2.2.2.2.2.2.2
        have OF2 := OF.out A3 c3 w3' K3
        clear K3
        go_wp2_with fail
        refine OF2.mono ?_
        rintro e w3 ⟨A4, c4, rfl, K3⟩
        clear OF2 d9 w3'
        obtain ⟨oP, oQ⟩ := C3.out A3 c3 w3 K3
        obtain ⟨p0, p1, p4, p5, p6, p7, p8, p9⟩ := hdC_cells oP
        have ln := LEN.out A3 c3 w3 K3
        have K3d : H3 A3 c3 w3.drew := D3.out A3 c3 w3 1 K3
        have lnd := LEN.out A3 c3 w3.drew K3d
        have oPd : w3.drew.heap[p]? = some (hdC a k r o now last clock mb lp rp) := oP
        have oQd : w3.drew.heap[q]? = some (txC num snap act begun ended _ _ vw) := oQ
        clear p0 p4 p5 p6 p8 p9 oP oQ
        replace K3 := Aside0.mk K3
        replace K3d := Aside0.mk K3d
        replace oPd := Aside0.mk oPd
        replace oQd := Aside0.mk oQd
        go_wp2_with fail
        have hgi : (1 : Int) < (n0 : Int) := by omega
        have hgd : decide ((1 : Int) < (n0 : Int)) = true := decide_eq_true hgi
        go_region_held3 (fun V => V.cell? ⟨p, 7, none⟩ = some (.map (some mb)) ∧ V.cell? ⟨p, 1, none⟩ = some (.int .i64 k) ∧ (Builtin.len_ #[86] 3 #[.map (some mb)]).run Tryz.prog V = .ok (.int .i64 (tl : Int)) V) (first | exact ⟨p7, p1, ln⟩ | exact ⟨p7, p1, lnd⟩) (fail)
        clear ln lnd p1 p7
        generalize w3.drew = wd at *
        obtain ⟨W5, hW5⟩ : ∃ W5, W5 = (((wd.setCell ⟨p, 6, none⟩ (.int .i64 (clock + 1))).setCell ⟨q, 2, none⟩ (.bool false)).setCell ⟨q, 4, none⟩ (.int .i64 (clock + 1))).setCell ⟨q, 7, none⟩ (.slice A3 0 c3) := ⟨_, rfl⟩
        obtain ⟨e8, RL⟩ := REL.out A3 c3 wd K3d.out W5 hW5
        obtain ⟨p0, p1, p4, p5, p6, p7, p8, p9⟩ := hdC_cells oPd.out
        obtain ⟨q0, q1, q2, q3, q4, q5, q6, q7⟩ := txC_cells oQd.out
        have fzp := blk_frozen oPd.out
        have fzq := blk_frozen oQd.out
        have hne2 := hne.out
        have hne3 : q ≠ p := fun e => hne2 e.symm
        go_upto_region 17 with (fail)
        rw [← hW5]
        clear hW5 p0 p1 p4 p5 p6 p7 p8 p9 q0 q1 q2 q3 q4 q5 q6 q7 fzp fzq hne2 hne3
        go_wp2_with fail
        refine RL.mono ?_
        rintro e w6 ⟨k6, rfl, K6⟩
        clear RL e8
        have FG := FG6.out (by rintro (h | h); exact absurd h (by omega); cases h) w6 K6
        clear K6
        go_wp2_with fail
        refine FG.mono ?_
        rintro e w9 ⟨rfl, K9⟩
        clear FG
        have e4 := C9.out w9 K9
        have EN := END.out (by rintro ⟨_, _, h⟩; omega) w9 K9
        go_wp2
        go_ret2
        exact ⟨_, _, rfl, EN⟩
    · subst hn1
      rcases (show fin = false ∨ (fin = true ∧ fout = false) by revert hb; cases fin <;> cases fout <;> simp) with hfi | ⟨hfi, hfo⟩
      · subst hfi
        clear hb
        have hot : decide (0 < ol) = true := decide_eq_true hol
        rw [hot] at FULL FG6 FG8 END
        clear hot
        go_enter Tryz.func16, Tryz.ntmps16
        go_wp2_with fail
        refine A.mono ?_
        rintro e w' ⟨rfl, rfl⟩
        go_wp2_with fail
        refine AC.mono ?_
        rintro e w2 ⟨A2, c2, rfl, K2⟩
        have d8 := C2.out w2 K2
        have HE2 := HE.out w2 K2
        clear K2
        go_wp2_with fail
        refine HE2.mono ?_
        rintro e w3' ⟨A3, c3, rfl, K3⟩
        clear HE2 d8
        have d9 := (hdC_cells (C3.out A3 c3 w3' K3).1).2.2.2.2.2.2.2
        have OF2 := OF.out A3 c3 w3' K3
        clear K3
        go_wp2_with fail
        refine OF2.mono ?_
        rintro e w3 ⟨A4, c4, rfl, K3⟩
        clear OF2 d9 w3'
        obtain ⟨oP, oQ⟩ := C3.out A3 c3 w3 K3
        obtain ⟨p0, p1, p4, p5, p6, p7, p8, p9⟩ := hdC_cells oP
        have ln := LEN.out A3 c3 w3 K3
        have K3d : H3 A3 c3 w3.drew := D3.out A3 c3 w3 1 K3
        have lnd := LEN.out A3 c3 w3.drew K3d
        have oPd : w3.drew.heap[p]? = some (hdC a k r o now last clock mb lp rp) := oP
        have oQd : w3.drew.heap[q]? = some (txC num snap act begun ended _ _ vw) := oQ
        clear p0 p4 p5 p6 p8 p9 oP oQ
        replace K3 := Aside0.mk K3
        replace K3d := Aside0.mk K3d
        replace oPd := Aside0.mk oPd
        replace oQd := Aside0.mk oQd
        go_wp2_with fail
        go_region
        clear ln lnd p1 p7
        generalize w3.drew = wd at *
        obtain ⟨W5, hW5⟩ : ∃ W5, W5 = (((wd.setCell ⟨p, 6, none⟩ (.int .i64 (clock + 1))).setCell ⟨q, 2, none⟩ (.bool false)).setCell ⟨q, 4, none⟩ (.int .i64 (clock + 1))).setCell ⟨q, 7, none⟩ (.slice A3 0 c3) := ⟨_, rfl⟩
        obtain ⟨e8, RL⟩ := REL.out A3 c3 wd K3d.out W5 hW5
        obtain ⟨p0, p1, p4, p5, p6, p7, p8, p9⟩ := hdC_cells oPd.out
        obtain ⟨q0, q1, q2, q3, q4, q5, q6, q7⟩ := txC_cells oQd.out
        have fzp := blk_frozen oPd.out
        have fzq := blk_frozen oQd.out
        have hne2 := hne.out
        have hne3 : q ≠ p := fun e => hne2 e.symm
        go_upto_region 17 with (fail)
        rw [← hW5]
        clear hW5 p0 p1 p4 p5 p6 p7 p8 p9 q0 q1 q2 q3 q4 q5 q6 q7 fzp fzq hne2 hne3
        go_wp2_with fail
        refine RL.mono ?_
        rintro e w6 ⟨k6, rfl, K6⟩
        clear RL e8
        have e9 := C6.out w6 K6
        have DR := DRP.out w6 K6
        go_wp2_with fail
        refine DR.mono ?_
        rintro e w7 ⟨k7, rfl, K7⟩
        obtain ⟨e7, w8, hdel, K8⟩ := DEL.out w7 K7
        have FG := FG8.out (by simp) w8 K8
        clear DR e9 K6 K7 K8
        go_wp2_with fail
        refine FG.mono ?_
        rintro e w9 ⟨rfl, K9⟩
        clear FG hdel e7
        have e4 := C9.out w9 K9
        have EN := END.out (by simp) w9 K9
        go_wp2
        go_ret2
        exact ⟨_, _, rfl, EN⟩
      · subst hfi hfo
        clear hb
        have hot : decide (0 < ol) = true := decide_eq_true hol
        rw [hot] at FULL FG6 FG8 END
        clear hot
        go_enter Tryz.func16, Tryz.ntmps16
        go_wp2_with fail
        refine A.mono ?_
        rintro e w' ⟨rfl, rfl⟩
        go_wp2_with fail
        refine AC.mono ?_
        rintro e w2 ⟨A2, c2, rfl, K2⟩
        have d8 := C2.out w2 K2
        have HE2 := HE.out w2 K2
        clear K2
        go_wp2_with fail
        refine HE2.mono ?_
        rintro e w3' ⟨A3, c3, rfl, K3⟩
        clear HE2 d8
        have d9 := (hdC_cells (C3.out A3 c3 w3' K3).1).2.2.2.2.2.2.2
        have OF2 := OF.out A3 c3 w3' K3
        clear K3
        go_wp2_with fail
        refine OF2.mono ?_
        rintro e w3 ⟨A4, c4, rfl, K3⟩
        clear OF2 d9 w3'
        obtain ⟨oP, oQ⟩ := C3.out A3 c3 w3 K3
        obtain ⟨p0, p1, p4, p5, p6, p7, p8, p9⟩ := hdC_cells oP
        have ln := LEN.out A3 c3 w3 K3
        have K3d : H3 A3 c3 w3.drew := D3.out A3 c3 w3 1 K3
        have lnd := LEN.out A3 c3 w3.drew K3d
        have oPd : w3.drew.heap[p]? = some (hdC a k r o now last clock mb lp rp) := oP
        have oQd : w3.drew.heap[q]? = some (txC num snap act begun ended _ _ vw) := oQ
        clear p0 p4 p5 p6 p8 p9 oP oQ
        replace K3 := Aside0.mk K3
        replace K3d := Aside0.mk K3d
        replace oPd := Aside0.mk oPd
        replace oQd := Aside0.mk oQd
        go_wp2_with fail
        go_region
        clear ln lnd p1 p7
        generalize w3.drew = wd at *
        obtain ⟨W5, hW5⟩ : ∃ W5, W5 = (((wd.setCell ⟨p, 6, none⟩ (.int .i64 (clock + 1))).setCell ⟨q, 2, none⟩ (.bool false)).setCell ⟨q, 4, none⟩ (.int .i64 (clock + 1))).setCell ⟨q, 7, none⟩ (.slice A3 0 c3) := ⟨_, rfl⟩
        obtain ⟨e8, RL⟩ := REL.out A3 c3 wd K3d.out W5 hW5
        obtain ⟨p0, p1, p4, p5, p6, p7, p8, p9⟩ := hdC_cells oPd.out
        obtain ⟨q0, q1, q2, q3, q4, q5, q6, q7⟩ := txC_cells oQd.out
        have fzp := blk_frozen oPd.out
        have fzq := blk_frozen oQd.out
        have hne2 := hne.out
        have hne3 : q ≠ p := fun e => hne2 e.symm
        go_upto_region 17 with (fail)
        rw [← hW5]
        clear hW5 p0 p1 p4 p5 p6 p7 p8 p9 q0 q1 q2 q3 q4 q5 q6 q7 fzp fzq hne2 hne3
        go_wp2_with fail
        refine RL.mono ?_
        rintro e w6 ⟨k6, rfl, K6⟩
        clear RL e8
        have e9 := C6.out w6 K6
        have DR := DRP.out w6 K6
        go_wp2_with fail
        refine DR.mono ?_
        rintro e w7 ⟨k7, rfl, K7⟩
        obtain ⟨e7, w8, hdel, K8⟩ := DEL.out w7 K7
        have FG := FG8.out (by simp) w8 K8
        clear DR e9 K6 K7 K8
        go_wp2_with fail
        refine FG.mono ?_
        rintro e w9 ⟨rfl, K9⟩
        clear FG hdel e7
        have e4 := C9.out w9 K9
        have EN := END.out (by simp) w9 K9
        go_wp2
        go_ret2
        exact ⟨_, _, rfl, EN⟩
    · rcases (show fin = false ∨ (fin = true ∧ fout = false) by revert hb; cases fin <;> cases fout <;> simp) with hfi | ⟨hfi, hfo⟩
      · subst hfi
        clear hb
        subst hol
        rw [show decide ((0 : Nat) < 0) = false from rfl] at FULL FG6 FG8 END
        go_enter Tryz.func16, Tryz.ntmps16
        go_wp2_with fail
        refine A.mono ?_
        rintro e w' ⟨rfl, rfl⟩
        go_wp2_with fail
        refine AC.mono ?_
        rintro e w2 ⟨A2, c2, rfl, K2⟩
        have d8 := C2.out w2 K2
        have HE2 := HE.out w2 K2
        clear K2
        go_wp2_with fail
        refine HE2.mono ?_
        rintro e w3' ⟨A3, c3, rfl, K3⟩
        clear HE2 d8
        have d9 := (hdC_cells (C3.out A3 c3 w3' K3).1).2.2.2.2.2.2.2
        have OF2 := OF.out A3 c3 w3' K3
        clear K3
        go_wp2_with fail
        refine OF2.mono ?_
        rintro e w3 ⟨A4, c4, rfl, K3⟩
        clear OF2 d9 w3'
        obtain ⟨oP, oQ⟩ := C3.out A3 c3 w3 K3
        obtain ⟨p0, p1, p4, p5, p6, p7, p8, p9⟩ := hdC_cells oP
        have ln := LEN.out A3 c3 w3 K3
        have K3d : H3 A3 c3 w3.drew := D3.out A3 c3 w3 1 K3
        have lnd := LEN.out A3 c3 w3.drew K3d
        have oPd : w3.drew.heap[p]? = some (hdC a k r o now last clock mb lp rp) := oP
        have oQd : w3.drew.heap[q]? = some (txC num snap act begun ended _ _ vw) := oQ
        clear p0 p4 p5 p6 p8 p9 oP oQ
        replace K3 := Aside0.mk K3
        replace K3d := Aside0.mk K3d
        replace oPd := Aside0.mk oPd
        replace oQd := Aside0.mk oQd
        go_wp2_with fail
        have hgi : (1 : Int) < (n0 : Int) := by omega
        have hgd : decide ((1 : Int) < (n0 : Int)) = true := decide_eq_true hgi
        go_region
        clear ln lnd p1 p7
        generalize w3.drew = wd at *
        obtain ⟨W5, hW5⟩ : ∃ W5, W5 = (((wd.setCell ⟨p, 6, none⟩ (.int .i64 (clock + 1))).setCell ⟨q, 2, none⟩ (.bool false)).setCell ⟨q, 4, none⟩ (.int .i64 (clock + 1))).setCell ⟨q, 7, none⟩ (.slice A3 0 c3) := ⟨_, rfl⟩
        obtain ⟨e8, RL⟩ := REL.out A3 c3 wd K3d.out W5 hW5
        obtain ⟨p0, p1, p4, p5, p6, p7, p8, p9⟩ := hdC_cells oPd.out
        obtain ⟨q0, q1, q2, q3, q4, q5, q6, q7⟩ := txC_cells oQd.out
        have fzp := blk_frozen oPd.out
        have fzq := blk_frozen oQd.out
        have hne2 := hne.out
        have hne3 : q ≠ p := fun e => hne2 e.symm
        go_upto_region 17 with (fail)
        rw [← hW5]
        clear hW5 p0 p1 p4 p5 p6 p7 p8 p9 q0 q1 q2 q3 q4 q5 q6 q7 fzp fzq hne2 hne3
        go_wp2_with fail
        refine RL.mono ?_
        rintro e w6 ⟨k6, rfl, K6⟩
        clear RL e8
        have e9 := C6.out w6 K6
        have DR := DRP.out w6 K6
        go_wp2_with fail
        refine DR.mono ?_
        rintro e w7 ⟨k7, rfl, K7⟩
        obtain ⟨e7, w8, hdel, K8⟩ := DEL.out w7 K7
        have FG := FG8.out (by simp) w8 K8
        clear DR e9 K6 K7 K8
        go_wp2_with fail
        refine FG.mono ?_
        rintro e w9 ⟨rfl, K9⟩
        clear FG hdel e7
        have e4 := C9.out w9 K9
        have EN := END.out (by simp) w9 K9
        go_wp2
        go_ret2
        exact ⟨_, _, rfl, EN⟩
      · subst hfi hfo
        clear hb
        subst hol
        rw [show decide ((0 : Nat) < 0) = false from rfl] at FULL FG6 FG8 END
        go_enter Tryz.func16, Tryz.ntmps16
        go_wp2_with fail
        refine A.mono ?_
        rintro e w' ⟨rfl, rfl⟩
        go_wp2_with fail
        refine AC.mono ?_
        rintro e w2 ⟨A2, c2, rfl, K2⟩
        have d8 := C2.out w2 K2
        have HE2 := HE.out w2 K2
        clear K2
        go_wp2_with fail
        refine HE2.mono ?_
        rintro e w3' ⟨A3, c3, rfl, K3⟩
        clear HE2 d8
        have d9 := (hdC_cells (C3.out A3 c3 w3' K3).1).2.2.2.2.2.2.2
        have OF2 := OF.out A3 c3 w3' K3
        clear K3
        go_wp2_with fail
        refine OF2.mono ?_
        rintro e w3 ⟨A4, c4, rfl, K3⟩
        clear OF2 d9 w3'
        obtain ⟨oP, oQ⟩ := C3.out A3 c3 w3 K3
        obtain ⟨p0, p1, p4, p5, p6, p7, p8, p9⟩ := hdC_cells oP
        have ln := LEN.out A3 c3 w3 K3
        have K3d : H3 A3 c3 w3.drew := D3.out A3 c3 w3 1 K3
        have lnd := LEN.out A3 c3 w3.drew K3d
        have oPd : w3.drew.heap[p]? = some (hdC a k r o now last clock mb lp rp) := oP
        have oQd : w3.drew.heap[q]? = some (txC num snap act begun ended _ _ vw) := oQ
        clear p0 p4 p5 p6 p8 p9 oP oQ
        replace K3 := Aside0.mk K3
        replace K3d := Aside0.mk K3d
        replace oPd := Aside0.mk oPd
        replace oQd := Aside0.mk oQd
        go_wp2_with fail
        have hgi : (1 : Int) < (n0 : Int) := by omega
        have hgd : decide ((1 : Int) < (n0 : Int)) = true := decide_eq_true hgi
        go_region
        clear ln lnd p1 p7
        generalize w3.drew = wd at *
        obtain ⟨W5, hW5⟩ : ∃ W5, W5 = (((wd.setCell ⟨p, 6, none⟩ (.int .i64 (clock + 1))).setCell ⟨q, 2, none⟩ (.bool false)).setCell ⟨q, 4, none⟩ (.int .i64 (clock + 1))).setCell ⟨q, 7, none⟩ (.slice A3 0 c3) := ⟨_, rfl⟩
        obtain ⟨e8, RL⟩ := REL.out A3 c3 wd K3d.out W5 hW5
        obtain ⟨p0, p1, p4, p5, p6, p7, p8, p9⟩ := hdC_cells oPd.out
        obtain ⟨q0, q1, q2, q3, q4, q5, q6, q7⟩ := txC_cells oQd.out
        have fzp := blk_frozen oPd.out
        have fzq := blk_frozen oQd.out
        have hne2 := hne.out
        have hne3 : q ≠ p := fun e => hne2 e.symm
        go_upto_region 17 with (fail)
        rw [← hW5]
        clear hW5 p0 p1 p4 p5 p6 p7 p8 p9 q0 q1 q2 q3 q4 q5 q6 q7 fzp fzq hne2 hne3
        go_wp2_with fail
        refine RL.mono ?_
        rintro e w6 ⟨k6, rfl, K6⟩
        clear RL e8
        have e9 := C6.out w6 K6
        have DR := DRP.out w6 K6
        go_wp2_with fail
        refine DR.mono ?_
        rintro e w7 ⟨k7, rfl, K7⟩
        obtain ⟨e7, w8, hdel, K8⟩ := DEL.out w7 K7
        have FG := FG8.out (by simp) w8 K8
        clear DR e9 K6 K7 K8
        go_wp2_with fail
        refine FG.mono ?_
        rintro e w9 ⟨rfl, K9⟩
        clear FG hdel e7
        have e4 := C9.out w9 K9
        have EN := END.out (by simp) w9 K9
        go_wp2
        go_ret2
        exact ⟨_, _, rfl, EN⟩
    · subst hn1
      rcases (show fin = false ∨ (fin = true ∧ fout = false) by revert hb; cases fin <;> cases fout <;> simp) with hfi | ⟨hfi, hfo⟩
      · subst hfi
        clear hb
        subst hol
        rw [show decide ((0 : Nat) < 0) = false from rfl] at FULL FG6 FG8 END
        go_enter Tryz.func16, Tryz.ntmps16
        go_wp2_with fail
        refine A.mono ?_
        rintro e w' ⟨rfl, rfl⟩
        go_wp2_with fail
        refine AC.mono ?_
        rintro e w2 ⟨A2, c2, rfl, K2⟩
        have d8 := C2.out w2 K2
        have HE2 := HE.out w2 K2
        clear K2
        go_wp2_with fail
        refine HE2.mono ?_
        rintro e w3' ⟨A3, c3, rfl, K3⟩
        clear HE2 d8
        have d9 := (hdC_cells (C3.out A3 c3 w3' K3).1).2.2.2.2.2.2.2
        have OF2 := OF.out A3 c3 w3' K3
        clear K3
        go_wp2_with fail
        refine OF2.mono ?_
        rintro e w3 ⟨A4, c4, rfl, K3⟩
        clear OF2 d9 w3'
        obtain ⟨oP, oQ⟩ := C3.out A3 c3 w3 K3
        obtain ⟨p0, p1, p4, p5, p6, p7, p8, p9⟩ := hdC_cells oP
        have ln := LEN.out A3 c3 w3 K3
        have K3d : H3 A3 c3 w3.drew := D3.out A3 c3 w3 1 K3
        have lnd := LEN.out A3 c3 w3.drew K3d
        have oPd : w3.drew.heap[p]? = some (hdC a k r o now last clock mb lp rp) := oP
        have oQd : w3.drew.heap[q]? = some (txC num snap act begun ended _ _ vw) := oQ
        clear p0 p4 p5 p6 p8 p9 oP oQ
        replace K3 := Aside0.mk K3
        replace K3d := Aside0.mk K3d
        replace oPd := Aside0.mk oPd
        replace oQd := Aside0.mk oQd
        go_wp2_with fail
        go_region
        clear ln lnd p1 p7
        generalize w3.drew = wd at *
        obtain ⟨W5, hW5⟩ : ∃ W5, W5 = (((wd.setCell ⟨p, 6, none⟩ (.int .i64 (clock + 1))).setCell ⟨q, 2, none⟩ (.bool false)).setCell ⟨q, 4, none⟩ (.int .i64 (clock + 1))).setCell ⟨q, 7, none⟩ (.slice A3 0 c3) := ⟨_, rfl⟩
        obtain ⟨e8, RL⟩ := REL.out A3 c3 wd K3d.out W5 hW5
        obtain ⟨p0, p1, p4, p5, p6, p7, p8, p9⟩ := hdC_cells oPd.out
        obtain ⟨q0, q1, q2, q3, q4, q5, q6, q7⟩ := txC_cells oQd.out
        have fzp := blk_frozen oPd.out
        have fzq := blk_frozen oQd.out
        have hne2 := hne.out
        have hne3 : q ≠ p := fun e => hne2 e.symm
        go_upto_region 17 with (fail)
        rw [← hW5]
        clear hW5 p0 p1 p4 p5 p6 p7 p8 p9 q0 q1 q2 q3 q4 q5 q6 q7 fzp fzq hne2 hne3
        go_wp2_with fail
        refine RL.mono ?_
        rintro e w6 ⟨k6, rfl, K6⟩
        clear RL e8
        have e9 := C6.out w6 K6
        have DR := DRP.out w6 K6
        go_wp2_with fail
        refine DR.mono ?_
        rintro e w7 ⟨k7, rfl, K7⟩
        obtain ⟨e7, w8, hdel, K8⟩ := DEL.out w7 K7
        have FG := FG8.out (by simp) w8 K8
        clear DR e9 K6 K7 K8
        go_wp2_with fail
        refine FG.mono ?_
        rintro e w9 ⟨rfl, K9⟩
        clear FG hdel e7
        have e4 := C9.out w9 K9
        have EN := END.out (by simp) w9 K9
        go_wp2
        go_ret2
        exact ⟨_, _, rfl, EN⟩
      · subst hfi hfo
        clear hb
        subst hol
        rw [show decide ((0 : Nat) < 0) = false from rfl] at FULL FG6 FG8 END
        go_enter Tryz.func16, Tryz.ntmps16
        go_wp2_with fail
        refine A.mono ?_
        rintro e w' ⟨rfl, rfl⟩
        go_wp2_with fail
        refine AC.mono ?_
        rintro e w2 ⟨A2, c2, rfl, K2⟩
        have d8 := C2.out w2 K2
        have HE2 := HE.out w2 K2
        clear K2
        go_wp2_with fail
        refine HE2.mono ?_
        rintro e w3' ⟨A3, c3, rfl, K3⟩
        clear HE2 d8
        have d9 := (hdC_cells (C3.out A3 c3 w3' K3).1).2.2.2.2.2.2.2
        have OF2 := OF.out A3 c3 w3' K3
        clear K3
        go_wp2_with fail
        refine OF2.mono ?_
        rintro e w3 ⟨A4, c4, rfl, K3⟩
        clear OF2 d9 w3'
        obtain ⟨oP, oQ⟩ := C3.out A3 c3 w3 K3
        obtain ⟨p0, p1, p4, p5, p6, p7, p8, p9⟩ := hdC_cells oP
        have ln := LEN.out A3 c3 w3 K3
        have K3d : H3 A3 c3 w3.drew := D3.out A3 c3 w3 1 K3
        have lnd := LEN.out A3 c3 w3.drew K3d
        have oPd : w3.drew.heap[p]? = some (hdC a k r o now last clock mb lp rp) := oP
        have oQd : w3.drew.heap[q]? = some (txC num snap act begun ended _ _ vw) := oQ
        clear p0 p4 p5 p6 p8 p9 oP oQ
        replace K3 := Aside0.mk K3
        replace K3d := Aside0.mk K3d
        replace oPd := Aside0.mk oPd
        replace oQd := Aside0.mk oQd
        go_wp2_with fail
        go_region
        clear ln lnd p1 p7
        generalize w3.drew = wd at *
        obtain ⟨W5, hW5⟩ : ∃ W5, W5 = (((wd.setCell ⟨p, 6, none⟩ (.int .i64 (clock + 1))).setCell ⟨q, 2, none⟩ (.bool false)).setCell ⟨q, 4, none⟩ (.int .i64 (clock + 1))).setCell ⟨q, 7, none⟩ (.slice A3 0 c3) := ⟨_, rfl⟩
        obtain ⟨e8, RL⟩ := REL.out A3 c3 wd K3d.out W5 hW5
        obtain ⟨p0, p1, p4, p5, p6, p7, p8, p9⟩ := hdC_cells oPd.out
        obtain ⟨q0, q1, q2, q3, q4, q5, q6, q7⟩ := txC_cells oQd.out
        have fzp := blk_frozen oPd.out
        have fzq := blk_frozen oQd.out
        have hne2 := hne.out
        have hne3 : q ≠ p := fun e => hne2 e.symm
        go_upto_region 17 with (fail)
        rw [← hW5]
        clear hW5 p0 p1 p4 p5 p6 p7 p8 p9 q0 q1 q2 q3 q4 q5 q6 q7 fzp fzq hne2 hne3
        go_wp2_with fail
        refine RL.mono ?_
        rintro e w6 ⟨k6, rfl, K6⟩
        clear RL e8
        have e9 := C6.out w6 K6
        have DR := DRP.out w6 K6
        go_wp2_with fail
        refine DR.mono ?_
        rintro e w7 ⟨k7, rfl, K7⟩
        obtain ⟨e7, w8, hdel, K8⟩ := DEL.out w7 K7
        have FG := FG8.out (by simp) w8 K8
        clear DR e9 K6 K7 K8
        go_wp2_with fail
        refine FG.mono ?_
        rintro e w9 ⟨rfl, K9⟩
        clear FG hdel e7
        have e4 := C9.out w9 K9
        have EN := END.out (by simp) w9 K9
        go_wp2
        go_ret2
        exact ⟨_, _, rfl, EN⟩
end Go.Proofs.YthaoedfalkebbaaGreat
namespace Go.Proofs.YthaoedfalkebbaaGreat
open Go.RowKit Go.Maps Go.Sort Go.Lib Go.Shelf Go.Proofs.YthaoedfalkebbaaGreatW.PrintWords Go.Proofs.YthaoedfalkebbaaGreatW.PrintLast Go.Proofs.YthaoedfalkebbaaGreatW.PrintMore
set_option linter.unusedVariables false
set_option linter.unusedSimpArgs false
set_option linter.unusedSectionVars false
theorem held_perm (L : List (Lk × Int)) (n : Int) : (Lck.heldOf L n).Perm (heldOf L n) := by
  unfold Lck.heldOf heldOf Lck.srt
  exact (List.mergeSort_perm ..).trans (by rfl)
theorem held_nil (L : List (Lk × Int)) (n : Int) : ((Lck.heldOf L n).length = 0) ↔ heldOf L n = [] := by
  rw [(held_perm L n).length_eq, List.length_eq_zero_iff]
/-- one is over: its cells -/
theorem Pm.ended {w W : World} {base : Nat} {l : Loc} {S : Sm St} (h : Pm w base l S) {t : Tx} (ht : t ∈ S.txs) {now' clock' : Int} {v : Value} {ws : List Lk} (F : Fr (fun k => k = l.p ∨ k = l.Q t.num) w W)
    (hh : W.heap[l.p]? = some (hdCells { S with now := now', clock := clock' } l.mb l.lp l.rp)) (hq : W.heap[l.Q t.num]? = some (txCells { t with act := false, ended := clock', wrote := ws } v)) {ws' : List Lk} (hv : Lo Lck.cellsL 2 23 W base v ws') (hl : ws'.length ≤ 4096) (he : ∀ a, a ∈ ws' ↔ a ∈ ws) (hF : ∀ b, v.ownBlock = some b → ¬ l.F b) :
    Pm W base l { S with now := now', clock := clock', txs := S.txs.map (fun o => if o.num == t.num then { o with act := false, ended := clock', wrote := ws } else o) } := by
  obtain ⟨hk, k1, k2, k3, k4, k5, k6, k7, k8, k9, k10, k11, k12⟩ := h.kinds
  obtain ⟨q1, q2, q3, q4, q5, q6⟩ := hk t ht
  have nu : ∀ x : Tx, (if x.num == t.num then ({ x with act := false, ended := clock', wrote := ws } : Tx) else x).num = x.num := fun x => by split <;> rfl
  have hL : txL l.Q (S.txs.map (fun o => if o.num == t.num then ({ o with act := false, ended := clock', wrote := ws } : Tx) else o)) = txL l.Q S.txs := by
    unfold txL
    rw [List.map_map]
    apply List.map_congr_left
    intro x _
    simp only [Function.comp]
    rw [nu]
  have hm : ∀ u, u ∈ S.txs.map (fun o => if o.num == t.num then ({ o with act := false, ended := clock', wrote := ws } : Tx) else o) → ∃ x ∈ S.txs, u = if x.num == t.num then { x with act := false, ended := clock', wrote := ws } else x := fun u hu => by
    obtain ⟨x, hx, e⟩ := List.mem_map.1 hu
    exact ⟨x, hx, e.symm⟩
  have no : ∀ k, k ≠ l.p → k ≠ l.Q t.num → ¬ (k = l.p ∨ k = l.Q t.num) := fun k h1 h2 h => by rcases h with h | h; exact h1 h; exact h2 h
  constructor
  · exact hh
  · show TabT W l.mb (S.txs.map _).length (txL l.Q (S.txs.map _))
    rw [hL, List.length_map]
    exact h.tab.fr F (no _ (fun e => k1 e.symm) (fun e => q2 e.symm))
  · intro u hu
    obtain ⟨x, hx, rfl⟩ := hm u hu
    rw [nu]
    by_cases e : x.num = t.num
    · have ex : x = t := dist_inj h.dist hx ht e
      subst ex
      rw [if_pos (by simp)]
      exact ⟨v, hq, ws', hv, hl, he, hF⟩
    · rw [if_neg (by simpa using e)]
      obtain ⟨v2, h1, ws2, h2, h3⟩ := h.tx x hx
      refine ⟨v2, F.block _ _ (no _ (hk x hx).1 (fun e3 => e (h.qinj x hx t ht e3))) h1, ws2, h2.move fun g hg => ?_, h3⟩
      obtain ⟨_, _, cells, hc⟩ := h2.typed g hg
      refine (F.block g _ (fun e3 => ?_) hc).trans hc.symm
      rcases e3 with e3 | e3
      · rw [e3, h.head] at hc
        unfold hdCells at hc
        simp at hc
      · obtain ⟨v4, h4, _⟩ := h.tx t ht
        rw [e3, h4] at hc
        unfold txCells at hc
        simp at hc
  · intro u hu u2 hu2 e
    obtain ⟨x, hx, rfl⟩ := hm u hu
    obtain ⟨y, hy, rfl⟩ := hm u2 hu2
    rw [nu, nu] at e ⊢
    exact h.qinj x hx y hy e
  · exact h.locks.fr F (no _ (fun e => k2 e.symm) (fun e => q3 e.symm)) (no _ (fun e => k3 e.symm) (fun e => q4 e.symm))
  · obtain ⟨c, s, hc⟩ := h.lkind
    exact ⟨c, s, F.block _ _ (no _ (fun e => k2 e.symm) (fun e => q3 e.symm)) hc⟩
  · refine h.reads.fr F (no _ (fun e => k4 e.symm) (fun e => q5 e.symm)) (no _ (fun e => k5 e.symm) (fun e => q6 e.symm)) (fun k c s hk2 hc => ?_)
    rcases hk2 with e3 | e3
    · rw [e3, h.head] at hc
      unfold hdCells at hc
      simp at hc
    · obtain ⟨v4, h4, _⟩ := h.tx t ht
      rw [e3, h4] at hc
      unfold txCells at hc
      simp at hc
  · show (S.txs.map _).Pairwise _
    rw [List.pairwise_map]
    exact h.dist.imp (fun {a b} h => by rw [nu, nu]; exact h)
  · intro u hu
    obtain ⟨x, hx, rfl⟩ := hm u hu
    rw [nu]
    exact h.nums x hx
  · show (S.txs.map _).length ≤ _
    rw [List.length_map]
    exact h.few
  · exact h.ne1
  · exact h.ne2
  · exact h.ne3
  · refine ⟨h.low.1, h.low.2.1, h.low.2.2.1, h.low.2.2.2.1, h.low.2.2.2.2.1, fun u hu => ?_⟩
    obtain ⟨x, hx, rfl⟩ := hm u hu
    rw [nu]
    exact h.low.2.2.2.2.2 x hx
theorem set3_q {X : World} {q : Nat} {t : Tx} {v v' : Value} {c' : Int} (ws : List Lk) (h : X.heap[q]? = some (txCells t v)) : (((X.setCell ⟨q, 2, none⟩ (.bool false)).setCell ⟨q, 4, none⟩ (.int .i64 c')).setCell ⟨q, 7, none⟩ v').heap[q]? = some (txCells { t with act := false, ended := c', wrote := ws } v') := by
  rw [blk_set (blk_set (blk_set h 2 _) 4 _) 7 _]
  rfl
theorem set3_g (X : World) (q : Nat) (a b c : Value) : X.grownBy (((X.setCell ⟨q, 2, none⟩ a).setCell ⟨q, 4, none⟩ b).setCell ⟨q, 7, none⟩ c) (some q) := trans_grown (trans_grown (grown_set _ _ _ _) (grown_set _ _ _ _)) (grown_set _ _ _ _)
/-- the cells are stored: what then lies -/
theorem commit_set {w W X W5 : World} {base : Nat} {l : Loc} {S : Sm St} {t : Tx} {now' : Int} {A : Option Addr} {c : Nat} (h : Pm w base l S) (K N : Int) (hC : Cap S K N) (ht : t ∈ S.txs) (hF : ∀ k, l.F k → k < w.heap.size) (B : Below w.heap.size w W)
    (hv : Lo Lck.cellsL 2 23 W w.heap.size (.slice A (Lck.heldOf S.locks t.num).length c) (Lck.heldOf S.locks t.num))
    (GX : W.grownBy X (some l.p)) (hX : X.heap[l.p]? = some (hdCells { S with now := now', clock := S.clock + 1 } l.mb l.lp l.rp))
    (hW5 : W5 = ((X.setCell ⟨l.Q t.num, 2, none⟩ (.bool false)).setCell ⟨l.Q t.num, 4, none⟩ (.int .i64 (S.clock + 1))).setCell ⟨l.Q t.num, 7, none⟩ (.slice A (Lck.heldOf S.locks t.num).length c)) :
    Pm W5 base l { S with now := now', clock := S.clock + 1, txs := S.txs.map (fun o => if o.num == t.num then { o with act := false, ended := S.clock + 1, wrote := heldOf S.locks t.num } else o) } ∧ Fr (fun k => k = l.p ∨ k = l.Q t.num) w W5 := by
  obtain ⟨hk, _⟩ := h.kinds
  obtain ⟨q1, _⟩ := hk t ht
  obtain ⟨vt, hvt, _⟩ := (h.below B).tx t ht
  have hq : X.heap[l.Q t.num]? = some (txCells t vt) := (GX.block _ (Array.getElem?_eq_some_iff.1 hvt).1 (fun e => by injection e with e; exact q1 e)).trans hvt
  have G5 := set3_g X (l.Q t.num) (.bool false) (.int .i64 (S.clock + 1)) (.slice A (Lck.heldOf S.locks t.num).length c)
  rw [← hW5] at G5
  have F1 : Fr (fun k => k = l.p ∨ k = l.Q t.num) w X := (Fr.ofBelow (O := fun k => k = l.p ∨ k = l.Q t.num) B).trans (Fr.grown GX) (fun k hk _ => by injection hk with hk; exact .inl hk.symm)
  have F5 : Fr (fun k => k = l.p ∨ k = l.Q t.num) w W5 := F1.trans (Fr.grown G5) (fun k hk _ => by injection hk with hk; exact .inr hk.symm)
  have hp5 : W5.heap[l.p]? = some (hdCells { S with now := now', clock := S.clock + 1 } l.mb l.lp l.rp) := (G5.block _ (Array.getElem?_eq_some_iff.1 hX).1 (fun e => by injection e with e; exact q1 e.symm)).trans hX
  have hq5 : W5.heap[l.Q t.num]? = some (txCells { t with act := false, ended := S.clock + 1, wrote := heldOf S.locks t.num } (.slice A (Lck.heldOf S.locks t.num).length c)) := by
    rw [hW5]
    exact set3_q _ hq
  have lp := h.lts _ (.inl rfl)
  have lq := h.lts _ (.inr (.inr (.inr (.inr (.inr ⟨t, ht, rfl⟩)))))
  have hv5 : Lo Lck.cellsL 2 23 W5 w.heap.size (.slice A (Lck.heldOf S.locks t.num).length c) (Lck.heldOf S.locks t.num) := by
    refine hv.move fun b hb => ?_
    obtain ⟨b1, b2, _⟩ := hv.typed b hb
    have e1 := GX.block b b2 (fun e => by injection e with e; omega)
    have e2 := G5.block b (by have := GX.size; omega) (fun e => by injection e with e; omega)
    exact e2.trans e1
  refine ⟨h.ended ht F5 hp5 hq5 (hv5.lower (by have := h.low.1; omega)) ?_ (fun a => (held_perm S.locks t.num).mem_iff) (fun b hb hbF => ?_), F5⟩
  · have := held_len S.locks t.num
    have := hC.lck4
    omega
  · have h1 := (hv5.typed b hb).1
    have h2 := hF b hbF
    omega
end Go.Proofs.YthaoedfalkebbaaGreat
