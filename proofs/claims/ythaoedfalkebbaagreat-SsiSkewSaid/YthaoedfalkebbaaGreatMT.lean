import Derived.Test.YthaoedfalkebbaaGreatMS
namespace Go.Proofs.YthaoedfalkebbaaGreat
open Go.RowKit Go.Maps Go.Sort Go.Lib Go.Shelf Go.Proofs.YthaoedfalkebbaaGreatW.PrintWords Go.Proofs.YthaoedfalkebbaaGreatW.PrintLast Go.Proofs.YthaoedfalkebbaaGreatW.PrintMore
set_option linter.unusedVariables false
set_option linter.unusedSimpArgs false
set_option linter.unusedSectionVars false
/-! ### Commit, walked -/
theorem txC_cells {w : World} {q : Nat} {num snap begun ended : Int} {act fin fout : Bool} {v : Value} (h : w.heap[q]? = some (txC num snap act begun ended fin fout v)) :
    w.cell? ⟨q, 0, none⟩ = some (.int .i64 num) ∧ w.cell? ⟨q, 1, none⟩ = some (.int .i64 snap) ∧ w.cell? ⟨q, 2, none⟩ = some (.bool act) ∧ w.cell? ⟨q, 3, none⟩ = some (.int .i64 begun) ∧ w.cell? ⟨q, 4, none⟩ = some (.int .i64 ended) ∧ w.cell? ⟨q, 5, none⟩ = some (.bool fin) ∧ w.cell? ⟨q, 6, none⟩ = some (.bool fout) ∧ w.cell? ⟨q, 7, none⟩ = some v :=
  ⟨cell_of_row w _ 0 _ 101 (0, 0) h, cell_of_row w _ 1 _ 101 (0, 0) h, cell_of_row w _ 2 _ 101 (0, 0) h, cell_of_row w _ 3 _ 101 (0, 0) h, cell_of_row w _ 4 _ 101 (0, 0) h, cell_of_row w _ 5 _ 101 (0, 0) h, cell_of_row w _ 6 _ 101 (0, 0) h, cell_of_row w _ 7 _ 101 (0, 0) h⟩
set_option maxHeartbeats 64000000 in
set_option maxRecDepth 100000 in
theorem Commit_walk1 (p mb lp rp q n0 tl hl ol : Nat) (tx a k r o now last clock num snap begun ended : Int) (act fin fout tr : Bool) (vw : Value) (w : World) (Post : Int → Int → World → Prop) (H2 : World → Prop) (H3 : Option Addr → Nat → World → Prop) (H6 H7 H8 H9 : World → Prop) (hne : p ≠ q)
    (hn0 : 1 ≤ n0 ∧ n0 ≤ 65536) (htl : n0 ≤ tl ∧ tl ≤ 65536) (hhb : hl ≤ 65536) (hob : ol ≤ 9223372036854775000) (hhl : 0 < hl) (hnw : 0 ≤ now ∧ now ≤ 4611686018427387904) (hcl : 0 ≤ clock ∧ clock ≤ 4611686018427387904)
    (htr : tr = true)
    (A : Calls Tryz.prog 39 #[ptr p, .int .i64 tx] w fun e w' => e = .returned (.tuple #[ptr q, .int .i64 0]) ∧ w = w')
    (f5 : w.cell? ⟨q, 5, none⟩ = some (.bool fin)) (f6 : w.cell? ⟨q, 6, none⟩ = some (.bool fout))
    (BOTH : (fin && fout) = true → Calls Tryz.prog 43 #[ptr p, ptr q] w fun e w' => e = .returned (.tuple #[]) ∧ Post 0 100 w')
    (AC : Calls Tryz.prog 26 #[ptr p] w fun e w2 => ∃ A c, e = .returned (.slice A n0 c) ∧ H2 w2)
    (C2 : ∀ W, H2 W → W.cell? ⟨p, 8, none⟩ = some (ptr lp))
    (HE : ∀ W, H2 W → Calls Tryz.prog 51 #[ptr lp, .int .i64 tx] W fun e w3 => ∃ A c, e = .returned (.slice A hl c) ∧ H3 A c w3)
    (C3 : ∀ A c W, H3 A c W → W.heap[p]? = some (hdC a k r o now last clock mb lp rp) ∧ W.heap[q]? = some (txC num snap act begun ended fin fout vw))
    (OF : ∀ A c W, H3 A c W → Calls Tryz.prog 52 #[ptr rp, .int .i64 tx] W fun e w4 => ∃ A' c', e = .returned (.slice A' ol c') ∧ H3 A c w4)
    (D3 : ∀ A c W n, H3 A c W → H3 A c (W.drewN n))
    (LEN : ∀ A c W, H3 A c W → (Builtin.len_ #[86] 3 #[.map (some mb)]).run Tryz.prog W = .ok (.int .i64 (tl : Int)) W)
    (FULL : (fin && fout) = false → 1 < n0 → tr = true → k ≤ (tl : Int) - n0 → ∀ A c W, H3 A c W → Calls Tryz.prog 43 #[ptr p, ptr q] W fun e w' => e = .returned (.tuple #[]) ∧ Post 0 4 w')
    (REL : ∀ A c W, H3 A c W → ∀ W5, W5 = ((((W.setCell ⟨p, 4, none⟩ (.int .i64 (now + 1))).setCell ⟨p, 6, none⟩ (.int .i64 (clock + 1))).setCell ⟨q, 2, none⟩ (.bool false)).setCell ⟨q, 4, none⟩ (.int .i64 (clock + 1))).setCell ⟨q, 7, none⟩ (.slice A hl c) → W5.cell? ⟨p, 8, none⟩ = some (ptr lp) ∧ Calls Tryz.prog 53 #[ptr lp, .int .i64 tx] W5 fun e w6 => ∃ k, e = .returned (.int .i64 k) ∧ H6 w6)
    (C6 : ∀ W, H6 W → W.cell? ⟨p, 9, none⟩ = some (ptr rp))
    (DRP : ∀ W, H6 W → Calls Tryz.prog 54 #[ptr rp, .int .i64 tx] W fun e w7 => ∃ k, e = .returned (.int .i64 k) ∧ H7 w7)
    (DEL : ∀ W, H7 W → W.cell? ⟨p, 7, none⟩ = some (.map (some mb)) ∧ ∃ w8, (Builtin.delete_ #[86, 2] 0 #[.map (some mb), .int .i64 tx]).run Tryz.prog W = .ok (.tuple #[]) w8 ∧ H8 w8)
    (FG6 : ¬ (n0 = 1 ∨ tr = false) → ∀ W, H6 W → Calls Tryz.prog 55 #[ptr p] W fun e w' => e = .returned (.tuple #[]) ∧ H9 w')
    (FG8 : (n0 = 1 ∨ tr = false) → ∀ W, H8 W → Calls Tryz.prog 55 #[ptr p] W fun e w' => e = .returned (.tuple #[]) ∧ H9 w')
    (C9 : ∀ W, H9 W → W.cell? ⟨p, 4, none⟩ = some (.int .i64 (now + 1)))
    (END : (fin && fout) = false → ¬ (1 < n0 ∧ tr = true ∧ k ≤ (tl : Int) - n0) → ∀ W, H9 W → Post (now + 1) 0 W) :
    Calls Tryz.prog 16 #[ptr p, .int .i64 tx] w fun e w' => ∃ x y, e = .returned (.tuple #[.int .i64 x, .int .i64 y]) ∧ Post x y w' := by
  have wn1 : IntKind.i64.wrap (now + 1) = now + 1 := IntWalk.i64_in _ (by omega)
  have wc1 : IntKind.i64.wrap (clock + 1) = clock + 1 := IntWalk.i64_in _ (by omega)
  have wt1 : IntKind.i64.wrap ((tl : Int) - n0) = (tl : Int) - n0 := IntWalk.i64_in _ (by omega)
  replace hne := Aside0.mk hne
  replace C2 := Aside0.mk C2
  replace HE := Aside0.mk HE
  replace C3 := Aside0.mk C3
  replace OF := Aside0.mk OF
  replace D3 := Aside0.mk D3
  replace LEN := Aside0.mk LEN
  replace FULL := Aside0.mk FULL
  replace REL := Aside0.mk REL
  replace C6 := Aside0.mk C6
  replace DRP := Aside0.mk DRP
  replace DEL := Aside0.mk DEL
  replace FG6 := Aside0.mk FG6
  replace FG8 := Aside0.mk FG8
  replace C9 := Aside0.mk C9
  replace END := Aside0.mk END
  replace hnw := Aside0.mk hnw
  replace hcl := Aside0.mk hcl
  cases hb : (fin && fout) with
  | true =>
    have hb1 : fin = true := by revert hb; cases fin <;> simp
    have hb2 : fout = true := by revert hb; cases fout <;> simp
    subst hb1 hb2
    have BT := BOTH rfl
    clear BOTH AC htr hb
    go_enter Tryz.func16, Tryz.ntmps16
    go_wp2_with fail
    refine A.mono ?_
    rintro e w' ⟨rfl, rfl⟩
    go_wp2_with fail
    refine BT.mono ?_
    rintro e w' ⟨rfl, HP⟩
    go_wp2
    go_ret2
    exact ⟨_, _, rfl, HP⟩
  | false =>
    clear BOTH
    replace END := Aside0.mk (END.out hb)
    replace FULL := Aside0.mk (FULL.out hb)
    subst htr
    rcases (show (1 < n0 ∧ k ≤ (tl : Int) - n0) ∨ (1 < n0 ∧ ¬ k ≤ (tl : Int) - n0) ∨ n0 = 1 by omega) with ⟨hn1, hfull⟩ | ⟨hn1, hfull⟩ | hn1
    · rcases (show fin = false ∨ (fin = true ∧ fout = false) by revert hb; cases fin <;> cases fout <;> simp) with hfi | ⟨hfi, hfo⟩
      · subst hfi
        clear hb
        go_enter Tryz.func16, Tryz.ntmps16
        go_wp2_with fail
        refine A.mono ?_
        rintro e w' ⟨rfl, rfl⟩
        go_wp2_with fail
        refine AC.mono ?_
        rintro e w2 ⟨A2, c2, rfl, K2⟩
        have d8 := C2.out w2 K2
        have HE2 := HE.out w2 K2
        clear K2
        go_wp2_with fail
        refine HE2.mono ?_
        rintro e w3 ⟨A3, c3, rfl, K3⟩
        clear HE2 d8
        obtain ⟨oP, oQ⟩ := C3.out A3 c3 w3 K3
        obtain ⟨p0, p1, p4, p5, p6, p7, p8, p9⟩ := hdC_cells oP
        have ln := LEN.out A3 c3 w3 K3
        have K3d : H3 A3 c3 w3.drew := D3.out A3 c3 w3 1 K3
        have lnd := LEN.out A3 c3 w3.drew K3d
        have oPd : w3.drew.heap[p]? = some (hdC a k r o now last clock mb lp rp) := oP
        have oQd : w3.drew.heap[q]? = some (txC num snap act begun ended _ _ vw) := oQ
        clear p0 p4 p5 p6 p8 p9 oP oQ
        replace K3 := Aside0.mk K3
        replace K3d := Aside0.mk K3d
        replace oPd := Aside0.mk oPd
        replace oQd := Aside0.mk oQd
        go_wp2_with fail
        have hgi : (1 : Int) < (n0 : Int) := by omega
        have hgd : decide ((1 : Int) < (n0 : Int)) = true := decide_eq_true hgi
        go_region_held3 (fun V => V.cell? ⟨p, 7, none⟩ = some (.map (some mb)) ∧ V.cell? ⟨p, 1, none⟩ = some (.int .i64 k) ∧ (Builtin.len_ #[86] 3 #[.map (some mb)]).run Tryz.prog V = .ok (.int .i64 (tl : Int)) V) (first | exact ⟨p7, p1, ln⟩ | exact ⟨p7, p1, lnd⟩) (fail)
        generalize w3.drew = wd at *
        have FU := FULL.out hn1 (by first | rfl | trivial) hfull A3 c3 wd K3d.out
        clear ln lnd p1 p7 FULL
        go_wp2_with fail
        refine FU.mono ?_
        rintro e w4 ⟨rfl, HP⟩
        go_wp2
        go_ret2
        exact ⟨_, _, rfl, HP⟩
      · subst hfi hfo
        clear hb
        go_enter Tryz.func16, Tryz.ntmps16
        go_wp2_with fail
        refine A.mono ?_
        rintro e w' ⟨rfl, rfl⟩
        go_wp2_with fail
        refine AC.mono ?_
        rintro e w2 ⟨A2, c2, rfl, K2⟩
        have d8 := C2.out w2 K2
        have HE2 := HE.out w2 K2
        clear K2
        go_wp2_with fail
        refine HE2.mono ?_
        rintro e w3 ⟨A3, c3, rfl, K3⟩
        clear HE2 d8
        obtain ⟨oP, oQ⟩ := C3.out A3 c3 w3 K3
        obtain ⟨p0, p1, p4, p5, p6, p7, p8, p9⟩ := hdC_cells oP
        have ln := LEN.out A3 c3 w3 K3
        have K3d : H3 A3 c3 w3.drew := D3.out A3 c3 w3 1 K3
        have lnd := LEN.out A3 c3 w3.drew K3d
        have oPd : w3.drew.heap[p]? = some (hdC a k r o now last clock mb lp rp) := oP
        have oQd : w3.drew.heap[q]? = some (txC num snap act begun ended _ _ vw) := oQ
        clear p0 p4 p5 p6 p8 p9 oP oQ
        replace K3 := Aside0.mk K3
        replace K3d := Aside0.mk K3d
        replace oPd := Aside0.mk oPd
        replace oQd := Aside0.mk oQd
        go_wp2_with fail
        have hgi : (1 : Int) < (n0 : Int) := by omega
        have hgd : decide ((1 : Int) < (n0 : Int)) = true := decide_eq_true hgi
        go_region_held3 (fun V => V.cell? ⟨p, 7, none⟩ = some (.map (some mb)) ∧ V.cell? ⟨p, 1, none⟩ = some (.int .i64 k) ∧ (Builtin.len_ #[86] 3 #[.map (some mb)]).run Tryz.prog V = .ok (.int .i64 (tl : Int)) V) (first | exact ⟨p7, p1, ln⟩ | exact ⟨p7, p1, lnd⟩) (fail)
        generalize w3.drew = wd at *
        have FU := FULL.out hn1 (by first | rfl | trivial) hfull A3 c3 wd K3d.out
        clear ln lnd p1 p7 FULL
        go_wp2_with fail
        refine FU.mono ?_
        rintro e w4 ⟨rfl, HP⟩
        go_wp2
        go_ret2
        exact ⟨_, _, rfl, HP⟩
    · rcases (show fin = false ∨ (fin = true ∧ fout = false) by revert hb; cases fin <;> cases fout <;> simp) with hfi | ⟨hfi, hfo⟩
      · subst hfi
        clear hb
        go_enter Tryz.func16, Tryz.ntmps16
        go_wp2_with fail
        refine A.mono ?_
        rintro e w' ⟨rfl, rfl⟩
        go_wp2_with fail
        refine AC.mono ?_
        rintro e w2 ⟨A2, c2, rfl, K2⟩
        have d8 := C2.out w2 K2
        have HE2 := HE.out w2 K2
        clear K2
        go_wp2_with fail
        refine HE2.mono ?_
        rintro e w3 ⟨A3, c3, rfl, K3⟩
        clear HE2 d8
        obtain ⟨oP, oQ⟩ := C3.out A3 c3 w3 K3
        obtain ⟨p0, p1, p4, p5, p6, p7, p8, p9⟩ := hdC_cells oP
        have ln := LEN.out A3 c3 w3 K3
        have K3d : H3 A3 c3 w3.drew := D3.out A3 c3 w3 1 K3
        have lnd := LEN.out A3 c3 w3.drew K3d
        have oPd : w3.drew.heap[p]? = some (hdC a k r o now last clock mb lp rp) := oP
        have oQd : w3.drew.heap[q]? = some (txC num snap act begun ended _ _ vw) := oQ
        clear p0 p4 p5 p6 p8 p9 oP oQ
        replace K3 := Aside0.mk K3
        replace K3d := Aside0.mk K3d
        replace oPd := Aside0.mk oPd
        replace oQd := Aside0.mk oQd
        go_wp2_with fail
        have hgi : (1 : Int) < (n0 : Int) := by omega
        have hgd : decide ((1 : Int) < (n0 : Int)) = true := decide_eq_true hgi
        go_region_held3 (fun V => V.cell? ⟨p, 7, none⟩ = some (.map (some mb)) ∧ V.cell? ⟨p, 1, none⟩ = some (.int .i64 k) ∧ (Builtin.len_ #[86] 3 #[.map (some mb)]).run Tryz.prog V = .ok (.int .i64 (tl : Int)) V) (first | exact ⟨p7, p1, ln⟩ | exact ⟨p7, p1, lnd⟩) (fail)
        clear ln lnd p1 p7
        generalize w3.drew = wd at *
        obtain ⟨W5, hW5⟩ : ∃ W5, W5 = ((((wd.setCell ⟨p, 4, none⟩ (.int .i64 (now + 1))).setCell ⟨p, 6, none⟩ (.int .i64 (clock + 1))).setCell ⟨q, 2, none⟩ (.bool false)).setCell ⟨q, 4, none⟩ (.int .i64 (clock + 1))).setCell ⟨q, 7, none⟩ (.slice A3 hl c3) := ⟨_, rfl⟩
        obtain ⟨e8, RL⟩ := REL.out A3 c3 wd K3d.out W5 hW5
        obtain ⟨p0, p1, p4, p5, p6, p7, p8, p9⟩ := hdC_cells oPd.out
        obtain ⟨q0, q1, q2, q3, q4, q5, q6, q7⟩ := txC_cells oQd.out
        have fzp := blk_frozen oPd.out
        have fzq := blk_frozen oQd.out
        have hne2 := hne.out
        have hne3 : q ≠ p := fun e => hne2 e.symm
        go_upto_region 17 with (fail)
        rw [← hW5]
        clear hW5 p0 p1 p4 p5 p6 p7 p8 p9 q0 q1 q2 q3 q4 q5 q6 q7 fzp fzq hne2 hne3
        go_wp2_with fail
        refine RL.mono ?_
        rintro e w6 ⟨k6, rfl, K6⟩
        clear RL e8
        have FG := FG6.out (by rintro (h | h); exact absurd h (by omega); cases h) w6 K6
        clear K6
        go_wp2_with fail
        refine FG.mono ?_
        rintro e w9 ⟨rfl, K9⟩
        clear FG
        have e4 := C9.out w9 K9
        have EN := END.out (by rintro ⟨_, _, h⟩; omega) w9 K9
        go_wp2
        go_ret2
        exact ⟨_, _, rfl, EN⟩
      · subst hfi hfo
        clear hb
        go_enter Tryz.func16, Tryz.ntmps16
        go_wp2_with fail
        refine A.mono ?_
        rintro e w' ⟨rfl, rfl⟩
        go_wp2_with fail
        refine AC.mono ?_
        rintro e w2 ⟨A2, c2, rfl, K2⟩
        have d8 := C2.out w2 K2
        have HE2 := HE.out w2 K2
        clear K2
        go_wp2_with fail
        refine HE2.mono ?_
        rintro e w3 ⟨A3, c3, rfl, K3⟩
        clear HE2 d8
        obtain ⟨oP, oQ⟩ := C3.out A3 c3 w3 K3
        obtain ⟨p0, p1, p4, p5, p6, p7, p8, p9⟩ := hdC_cells oP
        have ln := LEN.out A3 c3 w3 K3
        have K3d : H3 A3 c3 w3.drew := D3.out A3 c3 w3 1 K3
        have lnd := LEN.out A3 c3 w3.drew K3d
        have oPd : w3.drew.heap[p]? = some (hdC a k r o now last clock mb lp rp) := oP
        have oQd : w3.drew.heap[q]? = some (txC num snap act begun ended _ _ vw) := oQ
        clear p0 p4 p5 p6 p8 p9 oP oQ
        replace K3 := Aside0.mk K3
        replace K3d := Aside0.mk K3d
        replace oPd := Aside0.mk oPd
        replace oQd := Aside0.mk oQd
        go_wp2_with fail
        have hgi : (1 : Int) < (n0 : Int) := by omega
        have hgd : decide ((1 : Int) < (n0 : Int)) = true := decide_eq_true hgi
        go_region_held3 (fun V => V.cell? ⟨p, 7, none⟩ = some (.map (some mb)) ∧ V.cell? ⟨p, 1, none⟩ = some (.int .i64 k) ∧ (Builtin.len_ #[86] 3 #[.map (some mb)]).run Tryz.prog V = .ok (.int .i64 (tl : Int)) V) (first | exact ⟨p7, p1, ln⟩ | exact ⟨p7, p1, lnd⟩) (fail)
        clear ln lnd p1 p7
        generalize w3.drew = wd at *
        obtain ⟨W5, hW5⟩ : ∃ W5, W5 = ((((wd.setCell ⟨p, 4, none⟩ (.int .i64 (now + 1))).setCell ⟨p, 6, none⟩ (.int .i64 (clock + 1))).setCell ⟨q, 2, none⟩ (.bool false)).setCell ⟨q, 4, none⟩ (.int .i64 (clock + 1))).setCell ⟨q, 7, none⟩ (.slice A3 hl c3) := ⟨_, rfl⟩
        obtain ⟨e8, RL⟩ := REL.out A3 c3 wd K3d.out W5 hW5
        obtain ⟨p0, p1, p4, p5, p6, p7, p8, p9⟩ := hdC_cells oPd.out
        obtain ⟨q0, q1, q2, q3, q4, q5, q6, q7⟩ := txC_cells oQd.out
        have fzp := blk_frozen oPd.out
        have fzq := blk_frozen oQd.out
        have hne2 := hne.out
        have hne3 : q ≠ p := fun e => hne2 e.symm
        go_upto_region 17 with (fail)
        rw [← hW5]
        clear hW5 p0 p1 p4 p5 p6 p7 p8 p9 q0 q1 q2 q3 q4 q5 q6 q7 fzp fzq hne2 hne3
        go_wp2_with fail
        refine RL.mono ?_
        rintro e w6 ⟨k6, rfl, K6⟩
        clear RL e8
        have FG := FG6.out (by rintro (h | h); exact absurd h (by omega); cases h) w6 K6
        clear K6
        go_wp2_with fail
        refine FG.mono ?_
        rintro e w9 ⟨rfl, K9⟩
        clear FG
        have e4 := C9.out w9 K9
        have EN := END.out (by rintro ⟨_, _, h⟩; omega) w9 K9
        go_wp2
        go_ret2
        exact ⟨_, _, rfl, EN⟩
    · subst hn1
      rcases (show fin = false ∨ (fin = true ∧ fout = false) by revert hb; cases fin <;> cases fout <;> simp) with hfi | ⟨hfi, hfo⟩
      · subst hfi
        clear hb
        go_enter Tryz.func16, Tryz.ntmps16
        go_wp2_with fail
        refine A.mono ?_
        rintro e w' ⟨rfl, rfl⟩
        go_wp2_with fail
        refine AC.mono ?_
        rintro e w2 ⟨A2, c2, rfl, K2⟩
        have d8 := C2.out w2 K2
        have HE2 := HE.out w2 K2
        clear K2
        go_wp2_with fail
        refine HE2.mono ?_
        rintro e w3 ⟨A3, c3, rfl, K3⟩
        clear HE2 d8
        obtain ⟨oP, oQ⟩ := C3.out A3 c3 w3 K3
        obtain ⟨p0, p1, p4, p5, p6, p7, p8, p9⟩ := hdC_cells oP
        have ln := LEN.out A3 c3 w3 K3
        have K3d : H3 A3 c3 w3.drew := D3.out A3 c3 w3 1 K3
        have lnd := LEN.out A3 c3 w3.drew K3d
        have oPd : w3.drew.heap[p]? = some (hdC a k r o now last clock mb lp rp) := oP
        have oQd : w3.drew.heap[q]? = some (txC num snap act begun ended _ _ vw) := oQ
        clear p0 p4 p5 p6 p8 p9 oP oQ
        replace K3 := Aside0.mk K3
        replace K3d := Aside0.mk K3d
        replace oPd := Aside0.mk oPd
        replace oQd := Aside0.mk oQd
        go_wp2_with fail
        go_region
        clear ln lnd p1 p7
        generalize w3.drew = wd at *
        obtain ⟨W5, hW5⟩ : ∃ W5, W5 = ((((wd.setCell ⟨p, 4, none⟩ (.int .i64 (now + 1))).setCell ⟨p, 6, none⟩ (.int .i64 (clock + 1))).setCell ⟨q, 2, none⟩ (.bool false)).setCell ⟨q, 4, none⟩ (.int .i64 (clock + 1))).setCell ⟨q, 7, none⟩ (.slice A3 hl c3) := ⟨_, rfl⟩
        obtain ⟨e8, RL⟩ := REL.out A3 c3 wd K3d.out W5 hW5
        obtain ⟨p0, p1, p4, p5, p6, p7, p8, p9⟩ := hdC_cells oPd.out
        obtain ⟨q0, q1, q2, q3, q4, q5, q6, q7⟩ := txC_cells oQd.out
        have fzp := blk_frozen oPd.out
        have fzq := blk_frozen oQd.out
        have hne2 := hne.out
        have hne3 : q ≠ p := fun e => hne2 e.symm
        go_upto_region 17 with (fail)
        rw [← hW5]
        clear hW5 p0 p1 p4 p5 p6 p7 p8 p9 q0 q1 q2 q3 q4 q5 q6 q7 fzp fzq hne2 hne3
        go_wp2_with fail
        refine RL.mono ?_
        rintro e w6 ⟨k6, rfl, K6⟩
        clear RL e8
        have e9 := C6.out w6 K6
        have DR := DRP.out w6 K6
        go_wp2_with fail
        refine DR.mono ?_
        rintro e w7 ⟨k7, rfl, K7⟩
        obtain ⟨e7, w8, hdel, K8⟩ := DEL.out w7 K7
        have FG := FG8.out (by simp) w8 K8
        clear DR e9 K6 K7 K8
        go_wp2_with fail
        refine FG.mono ?_
        rintro e w9 ⟨rfl, K9⟩
        clear FG hdel e7
        have e4 := C9.out w9 K9
        have EN := END.out (by simp) w9 K9
        go_wp2
        go_ret2
        exact ⟨_, _, rfl, EN⟩
      · subst hfi hfo
        clear hb
        go_enter Tryz.func16, Tryz.ntmps16
        go_wp2_with fail
        refine A.mono ?_
        rintro e w' ⟨rfl, rfl⟩
        go_wp2_with fail
        refine AC.mono ?_
        rintro e w2 ⟨A2, c2, rfl, K2⟩
        have d8 := C2.out w2 K2
        have HE2 := HE.out w2 K2
        clear K2
        go_wp2_with fail
        refine HE2.mono ?_
        rintro e w3 ⟨A3, c3, rfl, K3⟩
        clear HE2 d8
        obtain ⟨oP, oQ⟩ := C3.out A3 c3 w3 K3
        obtain ⟨p0, p1, p4, p5, p6, p7, p8, p9⟩ := hdC_cells oP
        have ln := LEN.out A3 c3 w3 K3
        have K3d : H3 A3 c3 w3.drew := D3.out A3 c3 w3 1 K3
        have lnd := LEN.out A3 c3 w3.drew K3d
        have oPd : w3.drew.heap[p]? = some (hdC a k r o now last clock mb lp rp) := oP
        have oQd : w3.drew.heap[q]? = some (txC num snap act begun ended _ _ vw) := oQ
        clear p0 p4 p5 p6 p8 p9 oP oQ
        replace K3 := Aside0.mk K3
        replace K3d := Aside0.mk K3d
        replace oPd := Aside0.mk oPd
        replace oQd := Aside0.mk oQd
        go_wp2_with fail
        go_region
        clear ln lnd p1 p7
        generalize w3.drew = wd at *
        obtain ⟨W5, hW5⟩ : ∃ W5, W5 = ((((wd.setCell ⟨p, 4, none⟩ (.int .i64 (now + 1))).setCell ⟨p, 6, none⟩ (.int .i64 (clock + 1))).setCell ⟨q, 2, none⟩ (.bool false)).setCell ⟨q, 4, none⟩ (.int .i64 (clock + 1))).setCell ⟨q, 7, none⟩ (.slice A3 hl c3) := ⟨_, rfl⟩
        obtain ⟨e8, RL⟩ := REL.out A3 c3 wd K3d.out W5 hW5
        obtain ⟨p0, p1, p4, p5, p6, p7, p8, p9⟩ := hdC_cells oPd.out
        obtain ⟨q0, q1, q2, q3, q4, q5, q6, q7⟩ := txC_cells oQd.out
        have fzp := blk_frozen oPd.out
        have fzq := blk_frozen oQd.out
        have hne2 := hne.out
        have hne3 : q ≠ p := fun e => hne2 e.symm
        go_upto_region 17 with (fail)
        rw [← hW5]
        clear hW5 p0 p1 p4 p5 p6 p7 p8 p9 q0 q1 q2 q3 q4 q5 q6 q7 fzp fzq hne2 hne3
        go_wp2_with fail
        refine RL.mono ?_
        rintro e w6 ⟨k6, rfl, K6⟩
        clear RL e8
        have e9 := C6.out w6 K6
        have DR := DRP.out w6 K6
        go_wp2_with fail
        refine DR.mono ?_
        rintro e w7 ⟨k7, rfl, K7⟩
        obtain ⟨e7, w8, hdel, K8⟩ := DEL.out w7 K7
        have FG := FG8.out (by simp) w8 K8
        clear DR e9 K6 K7 K8
        go_wp2_with fail
        refine FG.mono ?_
        rintro e w9 ⟨rfl, K9⟩
        clear FG hdel e7
        have e4 := C9.out w9 K9
        have EN := END.out (by simp) w9 K9
        go_wp2
        go_ret2
        exact ⟨_, _, rfl, EN⟩
end Go.Proofs.YthaoedfalkebbaaGreat
