/- Cut by a program out of the seat's texts (VB ZD ZE ZF ZG): what the theorem needs, one behind the other. -/
import Derived.Test.YthaoedfalkebbaaGreatPCL
import Derived.Test.YthaoedfalkebbaaGreatRows
namespace Go.Proofs.YthaoedfalkebbaaGreat
open Go.ChangeShapes Go.WideShapes Go.ChangeAt Go.RowKit Go.Lib Go.Proofs.YthaoedfalkebbaaGreatW.PrintWords Go.Proofs.YthaoedfalkebbaaGreatW.PrintLast Go.Proofs.YthaoedfalkebbaaGreatW.PrintMore
set_option linter.unusedVariables false
set_option linter.unusedSimpArgs false
set_option linter.unusedSectionVars false
theorem bulk_count {H : Type} : ∀ (l : List (DataW H)), l.length ≤ Rows.uptoBulkAll l
  | [] => Nat.zero_le _
  | d :: l => by
    have h := bulk_count l
    have h1 : 1 ≤ Rows.uptoBulk d := by
      cases d with
      | lit l => cases l <;> simp [Rows.uptoBulk]
      | nil => simp [Rows.uptoBulk]
      | ptr d => simp [Rows.uptoBulk]
      | slice elems spare => simp [Rows.uptoBulk]
      | agg parts => simp [Rows.uptoBulk]
      | iface t d => simp [Rows.uptoBulk]
      | map entries => simp [Rows.uptoBulk]
      | held h => simp [Rows.uptoBulk]
    simp only [Rows.uptoBulkAll, List.length_cons]
    omega
end Go.Proofs.YthaoedfalkebbaaGreat
namespace Go.Proofs.YthaoedfalkebbaaGreat
open Go.RowKit Go.Maps Go.Sort Go.Lib Go.Shelf Go.Proofs.YthaoedfalkebbaaGreatW.PrintWords Go.Proofs.YthaoedfalkebbaaGreatW.PrintLast Go.Proofs.YthaoedfalkebbaaGreatW.PrintMore
set_option linter.unusedVariables false
set_option linter.unusedSimpArgs false
set_option linter.unusedSectionVars false
theorem txC_cells {w : World} {q : Nat} {num snap begun ended : Int} {act fin fout : Bool} {v : Value} (h : w.heap[q]? = some (txC num snap act begun ended fin fout v)) :
    w.cell? ⟨q, 0, none⟩ = some (.int .i64 num) ∧ w.cell? ⟨q, 1, none⟩ = some (.int .i64 snap) ∧ w.cell? ⟨q, 2, none⟩ = some (.bool act) ∧ w.cell? ⟨q, 3, none⟩ = some (.int .i64 begun) ∧ w.cell? ⟨q, 4, none⟩ = some (.int .i64 ended) ∧ w.cell? ⟨q, 5, none⟩ = some (.bool fin) ∧ w.cell? ⟨q, 6, none⟩ = some (.bool fout) ∧ w.cell? ⟨q, 7, none⟩ = some v :=
  ⟨cell_of_row w _ 0 _ 101 (0, 0) h, cell_of_row w _ 1 _ 101 (0, 0) h, cell_of_row w _ 2 _ 101 (0, 0) h, cell_of_row w _ 3 _ 101 (0, 0) h, cell_of_row w _ 4 _ 101 (0, 0) h, cell_of_row w _ 5 _ 101 (0, 0) h, cell_of_row w _ 6 _ 101 (0, 0) h, cell_of_row w _ 7 _ 101 (0, 0) h⟩
set_option maxHeartbeats 64000000 in
set_option maxRecDepth 100000 in
theorem Commit_walk1 (p mb lp rp q n0 tl hl ol : Nat) (tx a k r o now last clock num snap begun ended : Int) (act fin fout tr : Bool) (vw : Value) (w : World) (Post : Int → Int → World → Prop) (H2 : World → Prop) (H3 : Option Addr → Nat → World → Prop) (H6 H7 H8 H9 : World → Prop) (hne : p ≠ q)
    (hn0 : 1 ≤ n0 ∧ n0 ≤ 65536) (htl : n0 ≤ tl ∧ tl ≤ 65536) (hhb : hl ≤ 65536) (hob : ol ≤ 9223372036854775000) (hhl : 0 < hl) (hnw : 0 ≤ now ∧ now ≤ 4611686018427387904) (hcl : 0 ≤ clock ∧ clock ≤ 4611686018427387904)
    (htr : tr = true)
    (A : Calls Tryz.prog 39 #[ptr p, .int .i64 tx] w fun e w' => e = .returned (.tuple #[ptr q, .int .i64 0]) ∧ w = w')
    (f5 : w.cell? ⟨q, 5, none⟩ = some (.bool fin)) (f6 : w.cell? ⟨q, 6, none⟩ = some (.bool fout))
    (BOTH : (fin && fout) = true → Calls Tryz.prog 43 #[ptr p, ptr q] w fun e w' => e = .returned (.tuple #[]) ∧ Post 0 100 w')
    (AC : Calls Tryz.prog 26 #[ptr p] w fun e w2 => ∃ A c, e = .returned (.slice A n0 c) ∧ H2 w2)
    (C2 : ∀ W, H2 W → W.cell? ⟨p, 8, none⟩ = some (ptr lp))
    (HE : ∀ W, H2 W → Calls Tryz.prog 51 #[ptr lp, .int .i64 tx] W fun e w3 => ∃ A c, e = .returned (.slice A hl c) ∧ H3 A c w3)
    (C3 : ∀ A c W, H3 A c W → W.heap[p]? = some (hdC a k r o now last clock mb lp rp) ∧ W.heap[q]? = some (txC num snap act begun ended fin fout vw))
    (OF : ∀ A c W, H3 A c W → Calls Tryz.prog 52 #[ptr rp, .int .i64 tx] W fun e w4 => ∃ A' c', e = .returned (.slice A' ol c') ∧ H3 A c w4)
    (D3 : ∀ A c W n, H3 A c W → H3 A c (W.drewN n))
    (LEN : ∀ A c W, H3 A c W → (Builtin.len_ #[86] 3 #[.map (some mb)]).run Tryz.prog W = .ok (.int .i64 (tl : Int)) W)
    (FULL : (fin && fout) = false → 1 < n0 → tr = true → k ≤ (tl : Int) - n0 → ∀ A c W, H3 A c W → Calls Tryz.prog 43 #[ptr p, ptr q] W fun e w' => e = .returned (.tuple #[]) ∧ Post 0 4 w')
    (REL : ∀ A c W, H3 A c W → ∀ W5, W5 = ((((W.setCell ⟨p, 4, none⟩ (.int .i64 (now + 1))).setCell ⟨p, 6, none⟩ (.int .i64 (clock + 1))).setCell ⟨q, 2, none⟩ (.bool false)).setCell ⟨q, 4, none⟩ (.int .i64 (clock + 1))).setCell ⟨q, 7, none⟩ (.slice A hl c) → W5.cell? ⟨p, 8, none⟩ = some (ptr lp) ∧ Calls Tryz.prog 53 #[ptr lp, .int .i64 tx] W5 fun e w6 => ∃ k, e = .returned (.int .i64 k) ∧ H6 w6)
    (C6 : ∀ W, H6 W → W.cell? ⟨p, 9, none⟩ = some (ptr rp))
    (DRP : ∀ W, H6 W → Calls Tryz.prog 54 #[ptr rp, .int .i64 tx] W fun e w7 => ∃ k, e = .returned (.int .i64 k) ∧ H7 w7)
    (DEL : ∀ W, H7 W → W.cell? ⟨p, 7, none⟩ = some (.map (some mb)) ∧ ∃ w8, (Builtin.delete_ #[86, 2] 0 #[.map (some mb), .int .i64 tx]).run Tryz.prog W = .ok (.tuple #[]) w8 ∧ H8 w8)
    (FG6 : ¬ (n0 = 1 ∨ tr = false) → ∀ W, H6 W → Calls Tryz.prog 55 #[ptr p] W fun e w' => e = .returned (.tuple #[]) ∧ H9 w')
    (FG8 : (n0 = 1 ∨ tr = false) → ∀ W, H8 W → Calls Tryz.prog 55 #[ptr p] W fun e w' => e = .returned (.tuple #[]) ∧ H9 w')
    (C9 : ∀ W, H9 W → W.cell? ⟨p, 4, none⟩ = some (.int .i64 (now + 1)))
    (END : (fin && fout) = false → ¬ (1 < n0 ∧ tr = true ∧ k ≤ (tl : Int) - n0) → ∀ W, H9 W → Post (now + 1) 0 W) :
    Calls Tryz.prog 16 #[ptr p, .int .i64 tx] w fun e w' => ∃ x y, e = .returned (.tuple #[.int .i64 x, .int .i64 y]) ∧ Post x y w' := by
  have wn1 : IntKind.i64.wrap (now + 1) = now + 1 := IntWalk.i64_in _ (by omega)
  have wc1 : IntKind.i64.wrap (clock + 1) = clock + 1 := IntWalk.i64_in _ (by omega)
  have wt1 : IntKind.i64.wrap ((tl : Int) - n0) = (tl : Int) - n0 := IntWalk.i64_in _ (by omega)
  replace hne := Aside0.mk hne
  replace C2 := Aside0.mk C2
  replace HE := Aside0.mk HE
  replace C3 := Aside0.mk C3
  replace OF := Aside0.mk OF
  replace D3 := Aside0.mk D3
  replace LEN := Aside0.mk LEN
  replace FULL := Aside0.mk FULL
  replace REL := Aside0.mk REL
  replace C6 := Aside0.mk C6
  replace DRP := Aside0.mk DRP
  replace DEL := Aside0.mk DEL
  replace FG6 := Aside0.mk FG6
  replace FG8 := Aside0.mk FG8
  replace C9 := Aside0.mk C9
  replace END := Aside0.mk END
  replace hnw := Aside0.mk hnw
  replace hcl := Aside0.mk hcl
  cases hb : (fin && fout) with
  | true =>
    have hb1 : fin = true := by revert hb; cases fin <;> simp
    have hb2 : fout = true := by revert hb; cases fout <;> simp
    subst hb1 hb2
    have BT := BOTH rfl
    clear BOTH AC htr hb
    go_enter Tryz.func16, Tryz.ntmps16
    go_wp2_with fail
    refine A.mono ?_
    rintro e w' ⟨rfl, rfl⟩
    go_wp2_with fail
    refine BT.mono ?_
    rintro e w' ⟨rfl, HP⟩
    go_wp2
    go_ret2
    exact ⟨_, _, rfl, HP⟩
  | false =>
    clear BOTH
    replace END := Aside0.mk (END.out hb)
    replace FULL := Aside0.mk (FULL.out hb)
    subst htr
    rcases (show (1 < n0 ∧ k ≤ (tl : Int) - n0) ∨ (1 < n0 ∧ ¬ k ≤ (tl : Int) - n0) ∨ n0 = 1 by omega) with ⟨hn1, hfull⟩ | ⟨hn1, hfull⟩ | hn1
    · rcases (show fin = false ∨ (fin = true ∧ fout = false) by revert hb; cases fin <;> cases fout <;> simp) with hfi | ⟨hfi, hfo⟩
      · subst hfi
        clear hb
        go_enter Tryz.func16, Tryz.ntmps16
        go_wp2_with fail
        refine A.mono ?_
        rintro e w' ⟨rfl, rfl⟩
        go_wp2_with fail
        refine AC.mono ?_
        rintro e w2 ⟨A2, c2, rfl, K2⟩
        have d8 := C2.out w2 K2
        have HE2 := HE.out w2 K2
        clear K2
        go_wp2_with fail
        refine HE2.mono ?_
        rintro e w3 ⟨A3, c3, rfl, K3⟩
        clear HE2 d8
        obtain ⟨oP, oQ⟩ := C3.out A3 c3 w3 K3
        obtain ⟨p0, p1, p4, p5, p6, p7, p8, p9⟩ := hdC_cells oP
        have ln := LEN.out A3 c3 w3 K3
        have K3d : H3 A3 c3 w3.drew := D3.out A3 c3 w3 1 K3
        have lnd := LEN.out A3 c3 w3.drew K3d
        have oPd : w3.drew.heap[p]? = some (hdC a k r o now last clock mb lp rp) := oP
        have oQd : w3.drew.heap[q]? = some (txC num snap act begun ended _ _ vw) := oQ
        clear p0 p4 p5 p6 p8 p9 oP oQ
        replace K3 := Aside0.mk K3
        replace K3d := Aside0.mk K3d
        replace oPd := Aside0.mk oPd
        replace oQd := Aside0.mk oQd
        go_wp2_with fail
        have hgi : (1 : Int) < (n0 : Int) := by omega
        have hgd : decide ((1 : Int) < (n0 : Int)) = true := decide_eq_true hgi
        go_region_held3 (fun V => V.cell? ⟨p, 7, none⟩ = some (.map (some mb)) ∧ V.cell? ⟨p, 1, none⟩ = some (.int .i64 k) ∧ (Builtin.len_ #[86] 3 #[.map (some mb)]).run Tryz.prog V = .ok (.int .i64 (tl : Int)) V) (first | exact ⟨p7, p1, ln⟩ | exact ⟨p7, p1, lnd⟩) (fail)
        generalize w3.drew = wd at *
        have FU := FULL.out hn1 (by first | rfl | trivial) hfull A3 c3 wd K3d.out
        clear ln lnd p1 p7 FULL
        go_wp2_with fail
        refine FU.mono ?_
        rintro e w4 ⟨rfl, HP⟩
        go_wp2
        go_ret2
        exact ⟨_, _, rfl, HP⟩
      · subst hfi hfo
        clear hb
        go_enter Tryz.func16, Tryz.ntmps16
        go_wp2_with fail
        refine A.mono ?_
        rintro e w' ⟨rfl, rfl⟩
        go_wp2_with fail
        refine AC.mono ?_
        rintro e w2 ⟨A2, c2, rfl, K2⟩
        have d8 := C2.out w2 K2
        have HE2 := HE.out w2 K2
        clear K2
        go_wp2_with fail
        refine HE2.mono ?_
        rintro e w3 ⟨A3, c3, rfl, K3⟩
        clear HE2 d8
        obtain ⟨oP, oQ⟩ := C3.out A3 c3 w3 K3
        obtain ⟨p0, p1, p4, p5, p6, p7, p8, p9⟩ := hdC_cells oP
        have ln := LEN.out A3 c3 w3 K3
        have K3d : H3 A3 c3 w3.drew := D3.out A3 c3 w3 1 K3
        have lnd := LEN.out A3 c3 w3.drew K3d
        have oPd : w3.drew.heap[p]? = some (hdC a k r o now last clock mb lp rp) := oP
        have oQd : w3.drew.heap[q]? = some (txC num snap act begun ended _ _ vw) := oQ
        clear p0 p4 p5 p6 p8 p9 oP oQ
        replace K3 := Aside0.mk K3
        replace K3d := Aside0.mk K3d
        replace oPd := Aside0.mk oPd
        replace oQd := Aside0.mk oQd
        go_wp2_with fail
        have hgi : (1 : Int) < (n0 : Int) := by omega
        have hgd : decide ((1 : Int) < (n0 : Int)) = true := decide_eq_true hgi
        go_region_held3 (fun V => V.cell? ⟨p, 7, none⟩ = some (.map (some mb)) ∧ V.cell? ⟨p, 1, none⟩ = some (.int .i64 k) ∧ (Builtin.len_ #[86] 3 #[.map (some mb)]).run Tryz.prog V = .ok (.int .i64 (tl : Int)) V) (first | exact ⟨p7, p1, ln⟩ | exact ⟨p7, p1, lnd⟩) (fail)
        generalize w3.drew = wd at *
        have FU := FULL.out hn1 (by first | rfl | trivial) hfull A3 c3 wd K3d.out
        clear ln lnd p1 p7 FULL
        go_wp2_with fail
        refine FU.mono ?_
        rintro e w4 ⟨rfl, HP⟩
        go_wp2
        go_ret2
        exact ⟨_, _, rfl, HP⟩
    · rcases (show fin = false ∨ (fin = true ∧ fout = false) by revert hb; cases fin <;> cases fout <;> simp) with hfi | ⟨hfi, hfo⟩
      · subst hfi
        clear hb
        go_enter Tryz.func16, Tryz.ntmps16
        go_wp2_with fail
        refine A.mono ?_
        rintro e w' ⟨rfl, rfl⟩
        go_wp2_with fail
        refine AC.mono ?_
        rintro e w2 ⟨A2, c2, rfl, K2⟩
        have d8 := C2.out w2 K2
        have HE2 := HE.out w2 K2
        clear K2
        go_wp2_with fail
        refine HE2.mono ?_
        rintro e w3 ⟨A3, c3, rfl, K3⟩
        clear HE2 d8
        obtain ⟨oP, oQ⟩ := C3.out A3 c3 w3 K3
        obtain ⟨p0, p1, p4, p5, p6, p7, p8, p9⟩ := hdC_cells oP
        have ln := LEN.out A3 c3 w3 K3
        have K3d : H3 A3 c3 w3.drew := D3.out A3 c3 w3 1 K3
        have lnd := LEN.out A3 c3 w3.drew K3d
        have oPd : w3.drew.heap[p]? = some (hdC a k r o now last clock mb lp rp) := oP
        have oQd : w3.drew.heap[q]? = some (txC num snap act begun ended _ _ vw) := oQ
        clear p0 p4 p5 p6 p8 p9 oP oQ
        replace K3 := Aside0.mk K3
        replace K3d := Aside0.mk K3d
        replace oPd := Aside0.mk oPd
        replace oQd := Aside0.mk oQd
        go_wp2_with fail
        have hgi : (1 : Int) < (n0 : Int) := by omega
        have hgd : decide ((1 : Int) < (n0 : Int)) = true := decide_eq_true hgi
        go_region_held3 (fun V => V.cell? ⟨p, 7, none⟩ = some (.map (some mb)) ∧ V.cell? ⟨p, 1, none⟩ = some (.int .i64 k) ∧ (Builtin.len_ #[86] 3 #[.map (some mb)]).run Tryz.prog V = .ok (.int .i64 (tl : Int)) V) (first | exact ⟨p7, p1, ln⟩ | exact ⟨p7, p1, lnd⟩) (fail)
        clear ln lnd p1 p7
        generalize w3.drew = wd at *
        obtain ⟨W5, hW5⟩ : ∃ W5, W5 = ((((wd.setCell ⟨p, 4, none⟩ (.int .i64 (now + 1))).setCell ⟨p, 6, none⟩ (.int .i64 (clock + 1))).setCell ⟨q, 2, none⟩ (.bool false)).setCell ⟨q, 4, none⟩ (.int .i64 (clock + 1))).setCell ⟨q, 7, none⟩ (.slice A3 hl c3) := ⟨_, rfl⟩
        obtain ⟨e8, RL⟩ := REL.out A3 c3 wd K3d.out W5 hW5
        obtain ⟨p0, p1, p4, p5, p6, p7, p8, p9⟩ := hdC_cells oPd.out
        obtain ⟨q0, q1, q2, q3, q4, q5, q6, q7⟩ := txC_cells oQd.out
        have fzp := blk_frozen oPd.out
        have fzq := blk_frozen oQd.out
        have hne2 := hne.out
        have hne3 : q ≠ p := fun e => hne2 e.symm
        go_upto_region 17 with (fail)
        rw [← hW5]
        clear hW5 p0 p1 p4 p5 p6 p7 p8 p9 q0 q1 q2 q3 q4 q5 q6 q7 fzp fzq hne2 hne3
        go_wp2_with fail
        refine RL.mono ?_
        rintro e w6 ⟨k6, rfl, K6⟩
        clear RL e8
        have FG := FG6.out (by rintro (h | h); exact absurd h (by omega); cases h) w6 K6
        clear K6
        go_wp2_with fail
        refine FG.mono ?_
        rintro e w9 ⟨rfl, K9⟩
        clear FG
        have e4 := C9.out w9 K9
        have EN := END.out (by rintro ⟨_, _, h⟩; omega) w9 K9
        go_wp2
        go_ret2
        exact ⟨_, _, rfl, EN⟩
      · subst hfi hfo
        clear hb
        go_enter Tryz.func16, Tryz.ntmps16
        go_wp2_with fail
        refine A.mono ?_
        rintro e w' ⟨rfl, rfl⟩
        go_wp2_with fail
        refine AC.mono ?_
        rintro e w2 ⟨A2, c2, rfl, K2⟩
        have d8 := C2.out w2 K2
        have HE2 := HE.out w2 K2
        clear K2
        go_wp2_with fail
        refine HE2.mono ?_
        rintro e w3 ⟨A3, c3, rfl, K3⟩
        clear HE2 d8
        obtain ⟨oP, oQ⟩ := C3.out A3 c3 w3 K3
        obtain ⟨p0, p1, p4, p5, p6, p7, p8, p9⟩ := hdC_cells oP
        have ln := LEN.out A3 c3 w3 K3
        have K3d : H3 A3 c3 w3.drew := D3.out A3 c3 w3 1 K3
        have lnd := LEN.out A3 c3 w3.drew K3d
        have oPd : w3.drew.heap[p]? = some (hdC a k r o now last clock mb lp rp) := oP
        have oQd : w3.drew.heap[q]? = some (txC num snap act begun ended _ _ vw) := oQ
        clear p0 p4 p5 p6 p8 p9 oP oQ
        replace K3 := Aside0.mk K3
        replace K3d := Aside0.mk K3d
        replace oPd := Aside0.mk oPd
        replace oQd := Aside0.mk oQd
        go_wp2_with fail
        have hgi : (1 : Int) < (n0 : Int) := by omega
        have hgd : decide ((1 : Int) < (n0 : Int)) = true := decide_eq_true hgi
        go_region_held3 (fun V => V.cell? ⟨p, 7, none⟩ = some (.map (some mb)) ∧ V.cell? ⟨p, 1, none⟩ = some (.int .i64 k) ∧ (Builtin.len_ #[86] 3 #[.map (some mb)]).run Tryz.prog V = .ok (.int .i64 (tl : Int)) V) (first | exact ⟨p7, p1, ln⟩ | exact ⟨p7, p1, lnd⟩) (fail)
        clear ln lnd p1 p7
        generalize w3.drew = wd at *
        obtain ⟨W5, hW5⟩ : ∃ W5, W5 = ((((wd.setCell ⟨p, 4, none⟩ (.int .i64 (now + 1))).setCell ⟨p, 6, none⟩ (.int .i64 (clock + 1))).setCell ⟨q, 2, none⟩ (.bool false)).setCell ⟨q, 4, none⟩ (.int .i64 (clock + 1))).setCell ⟨q, 7, none⟩ (.slice A3 hl c3) := ⟨_, rfl⟩
        obtain ⟨e8, RL⟩ := REL.out A3 c3 wd K3d.out W5 hW5
        obtain ⟨p0, p1, p4, p5, p6, p7, p8, p9⟩ := hdC_cells oPd.out
        obtain ⟨q0, q1, q2, q3, q4, q5, q6, q7⟩ := txC_cells oQd.out
        have fzp := blk_frozen oPd.out
        have fzq := blk_frozen oQd.out
        have hne2 := hne.out
        have hne3 : q ≠ p := fun e => hne2 e.symm
        go_upto_region 17 with (fail)
        rw [← hW5]
        clear hW5 p0 p1 p4 p5 p6 p7 p8 p9 q0 q1 q2 q3 q4 q5 q6 q7 fzp fzq hne2 hne3
        go_wp2_with fail
        refine RL.mono ?_
        rintro e w6 ⟨k6, rfl, K6⟩
        clear RL e8
        have FG := FG6.out (by rintro (h | h); exact absurd h (by omega); cases h) w6 K6
        clear K6
        go_wp2_with fail
        refine FG.mono ?_
        rintro e w9 ⟨rfl, K9⟩
        clear FG
        have e4 := C9.out w9 K9
        have EN := END.out (by rintro ⟨_, _, h⟩; omega) w9 K9
        go_wp2
        go_ret2
        exact ⟨_, _, rfl, EN⟩
    · subst hn1
      rcases (show fin = false ∨ (fin = true ∧ fout = false) by revert hb; cases fin <;> cases fout <;> simp) with hfi | ⟨hfi, hfo⟩
      · subst hfi
        clear hb
        go_enter Tryz.func16, Tryz.ntmps16
        go_wp2_with fail
        refine A.mono ?_
        rintro e w' ⟨rfl, rfl⟩
        go_wp2_with fail
        refine AC.mono ?_
        rintro e w2 ⟨A2, c2, rfl, K2⟩
        have d8 := C2.out w2 K2
        have HE2 := HE.out w2 K2
        clear K2
        go_wp2_with fail
        refine HE2.mono ?_
        rintro e w3 ⟨A3, c3, rfl, K3⟩
        clear HE2 d8
        obtain ⟨oP, oQ⟩ := C3.out A3 c3 w3 K3
        obtain ⟨p0, p1, p4, p5, p6, p7, p8, p9⟩ := hdC_cells oP
        have ln := LEN.out A3 c3 w3 K3
        have K3d : H3 A3 c3 w3.drew := D3.out A3 c3 w3 1 K3
        have lnd := LEN.out A3 c3 w3.drew K3d
        have oPd : w3.drew.heap[p]? = some (hdC a k r o now last clock mb lp rp) := oP
        have oQd : w3.drew.heap[q]? = some (txC num snap act begun ended _ _ vw) := oQ
        clear p0 p4 p5 p6 p8 p9 oP oQ
        replace K3 := Aside0.mk K3
        replace K3d := Aside0.mk K3d
        replace oPd := Aside0.mk oPd
        replace oQd := Aside0.mk oQd
        go_wp2_with fail
        go_region
        clear ln lnd p1 p7
        generalize w3.drew = wd at *
        obtain ⟨W5, hW5⟩ : ∃ W5, W5 = ((((wd.setCell ⟨p, 4, none⟩ (.int .i64 (now + 1))).setCell ⟨p, 6, none⟩ (.int .i64 (clock + 1))).setCell ⟨q, 2, none⟩ (.bool false)).setCell ⟨q, 4, none⟩ (.int .i64 (clock + 1))).setCell ⟨q, 7, none⟩ (.slice A3 hl c3) := ⟨_, rfl⟩
        obtain ⟨e8, RL⟩ := REL.out A3 c3 wd K3d.out W5 hW5
        obtain ⟨p0, p1, p4, p5, p6, p7, p8, p9⟩ := hdC_cells oPd.out
        obtain ⟨q0, q1, q2, q3, q4, q5, q6, q7⟩ := txC_cells oQd.out
        have fzp := blk_frozen oPd.out
        have fzq := blk_frozen oQd.out
        have hne2 := hne.out
        have hne3 : q ≠ p := fun e => hne2 e.symm
        go_upto_region 17 with (fail)
        rw [← hW5]
        clear hW5 p0 p1 p4 p5 p6 p7 p8 p9 q0 q1 q2 q3 q4 q5 q6 q7 fzp fzq hne2 hne3
        go_wp2_with fail
        refine RL.mono ?_
        rintro e w6 ⟨k6, rfl, K6⟩
        clear RL e8
        have e9 := C6.out w6 K6
        have DR := DRP.out w6 K6
        go_wp2_with fail
        refine DR.mono ?_
        rintro e w7 ⟨k7, rfl, K7⟩
        obtain ⟨e7, w8, hdel, K8⟩ := DEL.out w7 K7
        have FG := FG8.out (by simp) w8 K8
        clear DR e9 K6 K7 K8
        go_wp2_with fail
        refine FG.mono ?_
        rintro e w9 ⟨rfl, K9⟩
        clear FG hdel e7
        have e4 := C9.out w9 K9
        have EN := END.out (by simp) w9 K9
        go_wp2
        go_ret2
        exact ⟨_, _, rfl, EN⟩
      · subst hfi hfo
        clear hb
        go_enter Tryz.func16, Tryz.ntmps16
        go_wp2_with fail
        refine A.mono ?_
        rintro e w' ⟨rfl, rfl⟩
        go_wp2_with fail
        refine AC.mono ?_
        rintro e w2 ⟨A2, c2, rfl, K2⟩
        have d8 := C2.out w2 K2
        have HE2 := HE.out w2 K2
        clear K2
        go_wp2_with fail
        refine HE2.mono ?_
        rintro e w3 ⟨A3, c3, rfl, K3⟩
        clear HE2 d8
        obtain ⟨oP, oQ⟩ := C3.out A3 c3 w3 K3
        obtain ⟨p0, p1, p4, p5, p6, p7, p8, p9⟩ := hdC_cells oP
        have ln := LEN.out A3 c3 w3 K3
        have K3d : H3 A3 c3 w3.drew := D3.out A3 c3 w3 1 K3
        have lnd := LEN.out A3 c3 w3.drew K3d
        have oPd : w3.drew.heap[p]? = some (hdC a k r o now last clock mb lp rp) := oP
        have oQd : w3.drew.heap[q]? = some (txC num snap act begun ended _ _ vw) := oQ
        clear p0 p4 p5 p6 p8 p9 oP oQ
        replace K3 := Aside0.mk K3
        replace K3d := Aside0.mk K3d
        replace oPd := Aside0.mk oPd
        replace oQd := Aside0.mk oQd
        go_wp2_with fail
        go_region
        clear ln lnd p1 p7
        generalize w3.drew = wd at *
        obtain ⟨W5, hW5⟩ : ∃ W5, W5 = ((((wd.setCell ⟨p, 4, none⟩ (.int .i64 (now + 1))).setCell ⟨p, 6, none⟩ (.int .i64 (clock + 1))).setCell ⟨q, 2, none⟩ (.bool false)).setCell ⟨q, 4, none⟩ (.int .i64 (clock + 1))).setCell ⟨q, 7, none⟩ (.slice A3 hl c3) := ⟨_, rfl⟩
        obtain ⟨e8, RL⟩ := REL.out A3 c3 wd K3d.out W5 hW5
        obtain ⟨p0, p1, p4, p5, p6, p7, p8, p9⟩ := hdC_cells oPd.out
        obtain ⟨q0, q1, q2, q3, q4, q5, q6, q7⟩ := txC_cells oQd.out
        have fzp := blk_frozen oPd.out
        have fzq := blk_frozen oQd.out
        have hne2 := hne.out
        have hne3 : q ≠ p := fun e => hne2 e.symm
        go_upto_region 17 with (fail)
        rw [← hW5]
        clear hW5 p0 p1 p4 p5 p6 p7 p8 p9 q0 q1 q2 q3 q4 q5 q6 q7 fzp fzq hne2 hne3
        go_wp2_with fail
        refine RL.mono ?_
        rintro e w6 ⟨k6, rfl, K6⟩
        clear RL e8
        have e9 := C6.out w6 K6
        have DR := DRP.out w6 K6
        go_wp2_with fail
        refine DR.mono ?_
        rintro e w7 ⟨k7, rfl, K7⟩
        obtain ⟨e7, w8, hdel, K8⟩ := DEL.out w7 K7
        have FG := FG8.out (by simp) w8 K8
        clear DR e9 K6 K7 K8
        go_wp2_with fail
        refine FG.mono ?_
        rintro e w9 ⟨rfl, K9⟩
        clear FG hdel e7
        have e4 := C9.out w9 K9
        have EN := END.out (by simp) w9 K9
        go_wp2
        go_ret2
        exact ⟨_, _, rfl, EN⟩
end Go.Proofs.YthaoedfalkebbaaGreat
namespace Go.Proofs.YthaoedfalkebbaaGreat
open Go.RowKit Go.Maps Go.Sort Go.Lib Go.Shelf Go.Proofs.YthaoedfalkebbaaGreatW.PrintWords Go.Proofs.YthaoedfalkebbaaGreatW.PrintLast Go.Proofs.YthaoedfalkebbaaGreatW.PrintMore
set_option linter.unusedVariables false
set_option linter.unusedSimpArgs false
set_option linter.unusedSectionVars false
set_option maxHeartbeats 64000000 in
set_option maxRecDepth 100000 in
theorem Commit_walk2 (p mb lp rp q n0 tl  ol : Nat) (tx a k r o now last clock num snap begun ended : Int) (act fin fout tr : Bool) (vw : Value) (w : World) (Post : Int → Int → World → Prop) (H2 : World → Prop) (H3 : Option Addr → Nat → World → Prop) (H6 H7 H8 H9 : World → Prop) (hne : p ≠ q)
    (hn0 : 1 ≤ n0 ∧ n0 ≤ 65536) (htl : n0 ≤ tl ∧ tl ≤ 65536) (hhb : 0 ≤ 65536) (hob : ol ≤ 9223372036854775000)  (hnw : 0 ≤ now ∧ now ≤ 4611686018427387904) (hcl : 0 ≤ clock ∧ clock ≤ 4611686018427387904)
    (htr : tr = decide (0 < ol))
    (A : Calls Tryz.prog 39 #[ptr p, .int .i64 tx] w fun e w' => e = .returned (.tuple #[ptr q, .int .i64 0]) ∧ w = w')
    (f5 : w.cell? ⟨q, 5, none⟩ = some (.bool fin)) (f6 : w.cell? ⟨q, 6, none⟩ = some (.bool fout))
    (BOTH : (fin && fout) = true → Calls Tryz.prog 43 #[ptr p, ptr q] w fun e w' => e = .returned (.tuple #[]) ∧ Post 0 100 w')
    (AC : Calls Tryz.prog 26 #[ptr p] w fun e w2 => ∃ A c, e = .returned (.slice A n0 c) ∧ H2 w2)
    (C2 : ∀ W, H2 W → W.cell? ⟨p, 8, none⟩ = some (ptr lp))
    (HE : ∀ W, H2 W → Calls Tryz.prog 51 #[ptr lp, .int .i64 tx] W fun e w3 => ∃ A c, e = .returned (.slice A 0 c) ∧ H3 A c w3)
    (C3 : ∀ A c W, H3 A c W → W.heap[p]? = some (hdC a k r o now last clock mb lp rp) ∧ W.heap[q]? = some (txC num snap act begun ended fin fout vw))
    (OF : ∀ A c W, H3 A c W → Calls Tryz.prog 52 #[ptr rp, .int .i64 tx] W fun e w4 => ∃ A' c', e = .returned (.slice A' ol c') ∧ H3 A c w4)
    (D3 : ∀ A c W n, H3 A c W → H3 A c (W.drewN n))
    (LEN : ∀ A c W, H3 A c W → (Builtin.len_ #[86] 3 #[.map (some mb)]).run Tryz.prog W = .ok (.int .i64 (tl : Int)) W)
    (FULL : (fin && fout) = false → 1 < n0 → tr = true → k ≤ (tl : Int) - n0 → ∀ A c W, H3 A c W → Calls Tryz.prog 43 #[ptr p, ptr q] W fun e w' => e = .returned (.tuple #[]) ∧ Post 0 4 w')
    (REL : ∀ A c W, H3 A c W → ∀ W5, W5 = (((W.setCell ⟨p, 6, none⟩ (.int .i64 (clock + 1))).setCell ⟨q, 2, none⟩ (.bool false)).setCell ⟨q, 4, none⟩ (.int .i64 (clock + 1))).setCell ⟨q, 7, none⟩ (.slice A 0 c) → W5.cell? ⟨p, 8, none⟩ = some (ptr lp) ∧ Calls Tryz.prog 53 #[ptr lp, .int .i64 tx] W5 fun e w6 => ∃ k, e = .returned (.int .i64 k) ∧ H6 w6)
    (C6 : ∀ W, H6 W → W.cell? ⟨p, 9, none⟩ = some (ptr rp))
    (DRP : ∀ W, H6 W → Calls Tryz.prog 54 #[ptr rp, .int .i64 tx] W fun e w7 => ∃ k, e = .returned (.int .i64 k) ∧ H7 w7)
    (DEL : ∀ W, H7 W → W.cell? ⟨p, 7, none⟩ = some (.map (some mb)) ∧ ∃ w8, (Builtin.delete_ #[86, 2] 0 #[.map (some mb), .int .i64 tx]).run Tryz.prog W = .ok (.tuple #[]) w8 ∧ H8 w8)
    (FG6 : ¬ (n0 = 1 ∨ tr = false) → ∀ W, H6 W → Calls Tryz.prog 55 #[ptr p] W fun e w' => e = .returned (.tuple #[]) ∧ H9 w')
    (FG8 : (n0 = 1 ∨ tr = false) → ∀ W, H8 W → Calls Tryz.prog 55 #[ptr p] W fun e w' => e = .returned (.tuple #[]) ∧ H9 w')
    (C9 : ∀ W, H9 W → W.cell? ⟨p, 4, none⟩ = some (.int .i64 now))
    (END : (fin && fout) = false → ¬ (1 < n0 ∧ tr = true ∧ k ≤ (tl : Int) - n0) → ∀ W, H9 W → Post now 0 W) :
    Calls Tryz.prog 16 #[ptr p, .int .i64 tx] w fun e w' => ∃ x y, e = .returned (.tuple #[.int .i64 x, .int .i64 y]) ∧ Post x y w' := by
  have wn1 : IntKind.i64.wrap (now + 1) = now + 1 := IntWalk.i64_in _ (by omega)
  have wc1 : IntKind.i64.wrap (clock + 1) = clock + 1 := IntWalk.i64_in _ (by omega)
  have wt1 : IntKind.i64.wrap ((tl : Int) - n0) = (tl : Int) - n0 := IntWalk.i64_in _ (by omega)
  replace hne := Aside0.mk hne
  replace C2 := Aside0.mk C2
  replace HE := Aside0.mk HE
  replace C3 := Aside0.mk C3
  replace OF := Aside0.mk OF
  replace D3 := Aside0.mk D3
  replace LEN := Aside0.mk LEN
  replace FULL := Aside0.mk FULL
  replace REL := Aside0.mk REL
  replace C6 := Aside0.mk C6
  replace DRP := Aside0.mk DRP
  replace DEL := Aside0.mk DEL
  replace FG6 := Aside0.mk FG6
  replace FG8 := Aside0.mk FG8
  replace C9 := Aside0.mk C9
  replace END := Aside0.mk END
  replace hnw := Aside0.mk hnw
  replace hcl := Aside0.mk hcl
  cases hb : (fin && fout) with
  | true =>
    have hb1 : fin = true := by revert hb; cases fin <;> simp
    have hb2 : fout = true := by revert hb; cases fout <;> simp
    subst hb1 hb2
    have BT := BOTH rfl
    clear BOTH AC htr hb
    go_enter Tryz.func16, Tryz.ntmps16
    go_wp2_with fail
    refine A.mono ?_
    rintro e w' ⟨rfl, rfl⟩
    go_wp2_with fail
    refine BT.mono ?_
    rintro e w' ⟨rfl, HP⟩
    go_wp2
    go_ret2
    exact ⟨_, _, rfl, HP⟩
  | false =>
    clear BOTH
    replace END := Aside0.mk (END.out hb)
    replace FULL := Aside0.mk (FULL.out hb)
    subst htr
    rcases (show (1 < n0 ∧ 0 < ol ∧ k ≤ (tl : Int) - n0) ∨ (1 < n0 ∧ 0 < ol ∧ ¬ k ≤ (tl : Int) - n0) ∨ (n0 = 1 ∧ 0 < ol) ∨ (1 < n0 ∧ ol = 0) ∨ (n0 = 1 ∧ ol = 0) by omega) with ⟨hn1, hol, hfull⟩ | ⟨hn1, hol, hfull⟩ | ⟨hn1, hol⟩ | ⟨hn1, hol⟩ | ⟨hn1, hol⟩
    · rcases (show fin = false ∨ (fin = true ∧ fout = false) by revert hb; cases fin <;> cases fout <;> simp) with hfi | ⟨hfi, hfo⟩
      · subst hfi
        clear hb
        have hot : decide (0 < ol) = true := decide_eq_true hol
        rw [hot] at FULL FG6 FG8 END
        clear hot
        go_enter Tryz.func16, Tryz.ntmps16
        go_wp2_with fail
        refine A.mono ?_
        rintro e w' ⟨rfl, rfl⟩
        go_wp2_with fail
        refine AC.mono ?_
        rintro e w2 ⟨A2, c2, rfl, K2⟩
        have d8 := C2.out w2 K2
        have HE2 := HE.out w2 K2
        clear K2
        go_wp2_with fail
        refine HE2.mono ?_
        rintro e w3' ⟨A3, c3, rfl, K3⟩
        clear HE2 d8
        have d9 := (hdC_cells (C3.out A3 c3 w3' K3).1).2.2.2.2.2.2.2
        have OF2 := OF.out A3 c3 w3' K3
        clear K3
        go_wp2_with fail
        refine OF2.mono ?_
        rintro e w3 ⟨A4, c4, rfl, K3⟩
        clear OF2 d9 w3'
        obtain ⟨oP, oQ⟩ := C3.out A3 c3 w3 K3
        obtain ⟨p0, p1, p4, p5, p6, p7, p8, p9⟩ := hdC_cells oP
        have ln := LEN.out A3 c3 w3 K3
        have K3d : H3 A3 c3 w3.drew := D3.out A3 c3 w3 1 K3
        have lnd := LEN.out A3 c3 w3.drew K3d
        have oPd : w3.drew.heap[p]? = some (hdC a k r o now last clock mb lp rp) := oP
        have oQd : w3.drew.heap[q]? = some (txC num snap act begun ended _ _ vw) := oQ
        clear p0 p4 p5 p6 p8 p9 oP oQ
        replace K3 := Aside0.mk K3
        replace K3d := Aside0.mk K3d
        replace oPd := Aside0.mk oPd
        replace oQd := Aside0.mk oQd
        go_wp2_with fail
        have hgi : (1 : Int) < (n0 : Int) := by omega
        have hgd : decide ((1 : Int) < (n0 : Int)) = true := decide_eq_true hgi
        go_region_held3 (fun V => V.cell? ⟨p, 7, none⟩ = some (.map (some mb)) ∧ V.cell? ⟨p, 1, none⟩ = some (.int .i64 k) ∧ (Builtin.len_ #[86] 3 #[.map (some mb)]).run Tryz.prog V = .ok (.int .i64 (tl : Int)) V) (first | exact ⟨p7, p1, ln⟩ | exact ⟨p7, p1, lnd⟩) (fail)
        generalize w3.drew = wd at *
        have FU := FULL.out hn1 (by first | rfl | trivial) hfull A3 c3 wd K3d.out
        clear ln lnd p1 p7 FULL
        go_wp2_with fail
        refine FU.mono ?_
        rintro e w4 ⟨rfl, HP⟩
        go_wp2
        go_ret2
        exact ⟨_, _, rfl, HP⟩
      · subst hfi hfo
        clear hb
        have hot : decide (0 < ol) = true := decide_eq_true hol
        rw [hot] at FULL FG6 FG8 END
        clear hot
        go_enter Tryz.func16, Tryz.ntmps16
        go_wp2_with fail
        refine A.mono ?_
        rintro e w' ⟨rfl, rfl⟩
        go_wp2_with fail
        refine AC.mono ?_
        rintro e w2 ⟨A2, c2, rfl, K2⟩
        have d8 := C2.out w2 K2
        have HE2 := HE.out w2 K2
        clear K2
        go_wp2_with fail
        refine HE2.mono ?_
        rintro e w3' ⟨A3, c3, rfl, K3⟩
        clear HE2 d8
        have d9 := (hdC_cells (C3.out A3 c3 w3' K3).1).2.2.2.2.2.2.2
        have OF2 := OF.out A3 c3 w3' K3
        clear K3
        go_wp2_with fail
        refine OF2.mono ?_
        rintro e w3 ⟨A4, c4, rfl, K3⟩
        clear OF2 d9 w3'
        obtain ⟨oP, oQ⟩ := C3.out A3 c3 w3 K3
        obtain ⟨p0, p1, p4, p5, p6, p7, p8, p9⟩ := hdC_cells oP
        have ln := LEN.out A3 c3 w3 K3
        have K3d : H3 A3 c3 w3.drew := D3.out A3 c3 w3 1 K3
        have lnd := LEN.out A3 c3 w3.drew K3d
        have oPd : w3.drew.heap[p]? = some (hdC a k r o now last clock mb lp rp) := oP
        have oQd : w3.drew.heap[q]? = some (txC num snap act begun ended _ _ vw) := oQ
        clear p0 p4 p5 p6 p8 p9 oP oQ
        replace K3 := Aside0.mk K3
        replace K3d := Aside0.mk K3d
        replace oPd := Aside0.mk oPd
        replace oQd := Aside0.mk oQd
        go_wp2_with fail
        have hgi : (1 : Int) < (n0 : Int) := by omega
        have hgd : decide ((1 : Int) < (n0 : Int)) = true := decide_eq_true hgi
        go_region_held3 (fun V => V.cell? ⟨p, 7, none⟩ = some (.map (some mb)) ∧ V.cell? ⟨p, 1, none⟩ = some (.int .i64 k) ∧ (Builtin.len_ #[86] 3 #[.map (some mb)]).run Tryz.prog V = .ok (.int .i64 (tl : Int)) V) (first | exact ⟨p7, p1, ln⟩ | exact ⟨p7, p1, lnd⟩) (fail)
        generalize w3.drew = wd at *
        have FU := FULL.out hn1 (by first | rfl | trivial) hfull A3 c3 wd K3d.out
        clear ln lnd p1 p7 FULL
        go_wp2_with fail
        refine FU.mono ?_
        rintro e w4 ⟨rfl, HP⟩
        go_wp2
        go_ret2
        exact ⟨_, _, rfl, HP⟩
    · rcases (show fin = false ∨ (fin = true ∧ fout = false) by revert hb; cases fin <;> cases fout <;> simp) with hfi | ⟨hfi, hfo⟩
      · subst hfi
        clear hb
        have hot : decide (0 < ol) = true := decide_eq_true hol
        rw [hot] at FULL FG6 FG8 END
        clear hot
        go_enter Tryz.func16, Tryz.ntmps16
        go_wp2_with fail
        refine A.mono ?_
        rintro e w' ⟨rfl, rfl⟩
        go_wp2_with fail
        refine AC.mono ?_
        rintro e w2 ⟨A2, c2, rfl, K2⟩
        have d8 := C2.out w2 K2
        have HE2 := HE.out w2 K2
        clear K2
        go_wp2_with fail
        refine HE2.mono ?_
        rintro e w3' ⟨A3, c3, rfl, K3⟩
        clear HE2 d8
        have d9 := (hdC_cells (C3.out A3 c3 w3' K3).1).2.2.2.2.2.2.2
        have OF2 := OF.out A3 c3 w3' K3
        clear K3
        go_wp2_with fail
        refine OF2.mono ?_
        rintro e w3 ⟨A4, c4, rfl, K3⟩
        clear OF2 d9 w3'
        obtain ⟨oP, oQ⟩ := C3.out A3 c3 w3 K3
        obtain ⟨p0, p1, p4, p5, p6, p7, p8, p9⟩ := hdC_cells oP
        have ln := LEN.out A3 c3 w3 K3
        have K3d : H3 A3 c3 w3.drew := D3.out A3 c3 w3 1 K3
        have lnd := LEN.out A3 c3 w3.drew K3d
        have oPd : w3.drew.heap[p]? = some (hdC a k r o now last clock mb lp rp) := oP
        have oQd : w3.drew.heap[q]? = some (txC num snap act begun ended _ _ vw) := oQ
        clear p0 p4 p5 p6 p8 p9 oP oQ
        replace K3 := Aside0.mk K3
        replace K3d := Aside0.mk K3d
        replace oPd := Aside0.mk oPd
        replace oQd := Aside0.mk oQd
        go_wp2_with fail
        have hgi : (1 : Int) < (n0 : Int) := by omega
        have hgd : decide ((1 : Int) < (n0 : Int)) = true := decide_eq_true hgi
        go_region_held3 (fun V => V.cell? ⟨p, 7, none⟩ = some (.map (some mb)) ∧ V.cell? ⟨p, 1, none⟩ = some (.int .i64 k) ∧ (Builtin.len_ #[86] 3 #[.map (some mb)]).run Tryz.prog V = .ok (.int .i64 (tl : Int)) V) (first | exact ⟨p7, p1, ln⟩ | exact ⟨p7, p1, lnd⟩) (fail)
        clear ln lnd p1 p7
        generalize w3.drew = wd at *
        obtain ⟨W5, hW5⟩ : ∃ W5, W5 = (((wd.setCell ⟨p, 6, none⟩ (.int .i64 (clock + 1))).setCell ⟨q, 2, none⟩ (.bool false)).setCell ⟨q, 4, none⟩ (.int .i64 (clock + 1))).setCell ⟨q, 7, none⟩ (.slice A3 0 c3) := ⟨_, rfl⟩
        obtain ⟨e8, RL⟩ := REL.out A3 c3 wd K3d.out W5 hW5
        obtain ⟨p0, p1, p4, p5, p6, p7, p8, p9⟩ := hdC_cells oPd.out
        obtain ⟨q0, q1, q2, q3, q4, q5, q6, q7⟩ := txC_cells oQd.out
        have fzp := blk_frozen oPd.out
        have fzq := blk_frozen oQd.out
        have hne2 := hne.out
        have hne3 : q ≠ p := fun e => hne2 e.symm
        go_upto_region 17 with (fail)
        rw [← hW5]
        clear hW5 p0 p1 p4 p5 p6 p7 p8 p9 q0 q1 q2 q3 q4 q5 q6 q7 fzp fzq hne2 hne3
        go_wp2_with fail
        refine RL.mono ?_
        rintro e w6 ⟨k6, rfl, K6⟩
        clear RL e8
        have FG := FG6.out (by rintro (h | h); exact absurd h (by omega); cases h) w6 K6
        clear K6
        go_wp2_with fail
        refine FG.mono ?_
        rintro e w9 ⟨rfl, K9⟩
        clear FG
        have e4 := C9.out w9 K9
        have EN := END.out (by rintro ⟨_, _, h⟩; omega) w9 K9
        go_wp2
        go_ret2
        exact ⟨_, _, rfl, EN⟩
      · subst hfi hfo
        clear hb
        have hot : decide (0 < ol) = true := decide_eq_true hol
        rw [hot] at FULL FG6 FG8 END
        clear hot
        go_enter Tryz.func16, Tryz.ntmps16
        go_wp2_with fail
        refine A.mono ?_
        rintro e w' ⟨rfl, rfl⟩
        go_wp2_with fail
        refine AC.mono ?_
        rintro e w2 ⟨A2, c2, rfl, K2⟩
        have d8 := C2.out w2 K2
        have HE2 := HE.out w2 K2
        clear K2
        go_wp2_with fail
        refine HE2.mono ?_
        rintro e w3' ⟨A3, c3, rfl, K3⟩
        clear HE2 d8
        have d9 := (hdC_cells (C3.out A3 c3 w3' K3).1).2.2.2.2.2.2.2
        have OF2 := OF.out A3 c3 w3' K3
        clear K3
        go_wp2_with fail
        refine OF2.mono ?_
        rintro e w3 ⟨A4, c4, rfl, K3⟩
        clear OF2 d9 w3'
        obtain ⟨oP, oQ⟩ := C3.out A3 c3 w3 K3
        obtain ⟨p0, p1, p4, p5, p6, p7, p8, p9⟩ := hdC_cells oP
        have ln := LEN.out A3 c3 w3 K3
        have K3d : H3 A3 c3 w3.drew := D3.out A3 c3 w3 1 K3
        have lnd := LEN.out A3 c3 w3.drew K3d
        have oPd : w3.drew.heap[p]? = some (hdC a k r o now last clock mb lp rp) := oP
        have oQd : w3.drew.heap[q]? = some (txC num snap act begun ended _ _ vw) := oQ
        clear p0 p4 p5 p6 p8 p9 oP oQ
        replace K3 := Aside0.mk K3
        replace K3d := Aside0.mk K3d
        replace oPd := Aside0.mk oPd
        replace oQd := Aside0.mk oQd
        go_wp2_with fail
        have hgi : (1 : Int) < (n0 : Int) := by omega
        have hgd : decide ((1 : Int) < (n0 : Int)) = true := decide_eq_true hgi
        go_region_held3 (fun V => V.cell? ⟨p, 7, none⟩ = some (.map (some mb)) ∧ V.cell? ⟨p, 1, none⟩ = some (.int .i64 k) ∧ (Builtin.len_ #[86] 3 #[.map (some mb)]).run Tryz.prog V = .ok (.int .i64 (tl : Int)) V) (first | exact ⟨p7, p1, ln⟩ | exact ⟨p7, p1, lnd⟩) (fail)
        clear ln lnd p1 p7
        generalize w3.drew = wd at *
        obtain ⟨W5, hW5⟩ : ∃ W5, W5 = (((wd.setCell ⟨p, 6, none⟩ (.int .i64 (clock + 1))).setCell ⟨q, 2, none⟩ (.bool false)).setCell ⟨q, 4, none⟩ (.int .i64 (clock + 1))).setCell ⟨q, 7, none⟩ (.slice A3 0 c3) := ⟨_, rfl⟩
        obtain ⟨e8, RL⟩ := REL.out A3 c3 wd K3d.out W5 hW5
        obtain ⟨p0, p1, p4, p5, p6, p7, p8, p9⟩ := hdC_cells oPd.out
        obtain ⟨q0, q1, q2, q3, q4, q5, q6, q7⟩ := txC_cells oQd.out
        have fzp := blk_frozen oPd.out
        have fzq := blk_frozen oQd.out
        have hne2 := hne.out
        have hne3 : q ≠ p := fun e => hne2 e.symm
        go_upto_region 17 with (fail)
        rw [← hW5]
        clear hW5 p0 p1 p4 p5 p6 p7 p8 p9 q0 q1 q2 q3 q4 q5 q6 q7 fzp fzq hne2 hne3
        go_wp2_with fail
        refine RL.mono ?_
        rintro e w6 ⟨k6, rfl, K6⟩
        clear RL e8
        have FG := FG6.out (by rintro (h | h); exact absurd h (by omega); cases h) w6 K6
        clear K6
        go_wp2_with fail
        refine FG.mono ?_
        rintro e w9 ⟨rfl, K9⟩
        clear FG
        have e4 := C9.out w9 K9
        have EN := END.out (by rintro ⟨_, _, h⟩; omega) w9 K9
        go_wp2
        go_ret2
        exact ⟨_, _, rfl, EN⟩
    · subst hn1
      rcases (show fin = false ∨ (fin = true ∧ fout = false) by revert hb; cases fin <;> cases fout <;> simp) with hfi | ⟨hfi, hfo⟩
      · subst hfi
        clear hb
        have hot : decide (0 < ol) = true := decide_eq_true hol
        rw [hot] at FULL FG6 FG8 END
        clear hot
        go_enter Tryz.func16, Tryz.ntmps16
        go_wp2_with fail
        refine A.mono ?_
        rintro e w' ⟨rfl, rfl⟩
        go_wp2_with fail
        refine AC.mono ?_
        rintro e w2 ⟨A2, c2, rfl, K2⟩
        have d8 := C2.out w2 K2
        have HE2 := HE.out w2 K2
        clear K2
        go_wp2_with fail
        refine HE2.mono ?_
        rintro e w3' ⟨A3, c3, rfl, K3⟩
        clear HE2 d8
        have d9 := (hdC_cells (C3.out A3 c3 w3' K3).1).2.2.2.2.2.2.2
        have OF2 := OF.out A3 c3 w3' K3
        clear K3
        go_wp2_with fail
        refine OF2.mono ?_
        rintro e w3 ⟨A4, c4, rfl, K3⟩
        clear OF2 d9 w3'
        obtain ⟨oP, oQ⟩ := C3.out A3 c3 w3 K3
        obtain ⟨p0, p1, p4, p5, p6, p7, p8, p9⟩ := hdC_cells oP
        have ln := LEN.out A3 c3 w3 K3
        have K3d : H3 A3 c3 w3.drew := D3.out A3 c3 w3 1 K3
        have lnd := LEN.out A3 c3 w3.drew K3d
        have oPd : w3.drew.heap[p]? = some (hdC a k r o now last clock mb lp rp) := oP
        have oQd : w3.drew.heap[q]? = some (txC num snap act begun ended _ _ vw) := oQ
        clear p0 p4 p5 p6 p8 p9 oP oQ
        replace K3 := Aside0.mk K3
        replace K3d := Aside0.mk K3d
        replace oPd := Aside0.mk oPd
        replace oQd := Aside0.mk oQd
        go_wp2_with fail
        go_region
        clear ln lnd p1 p7
        generalize w3.drew = wd at *
        obtain ⟨W5, hW5⟩ : ∃ W5, W5 = (((wd.setCell ⟨p, 6, none⟩ (.int .i64 (clock + 1))).setCell ⟨q, 2, none⟩ (.bool false)).setCell ⟨q, 4, none⟩ (.int .i64 (clock + 1))).setCell ⟨q, 7, none⟩ (.slice A3 0 c3) := ⟨_, rfl⟩
        obtain ⟨e8, RL⟩ := REL.out A3 c3 wd K3d.out W5 hW5
        obtain ⟨p0, p1, p4, p5, p6, p7, p8, p9⟩ := hdC_cells oPd.out
        obtain ⟨q0, q1, q2, q3, q4, q5, q6, q7⟩ := txC_cells oQd.out
        have fzp := blk_frozen oPd.out
        have fzq := blk_frozen oQd.out
        have hne2 := hne.out
        have hne3 : q ≠ p := fun e => hne2 e.symm
        go_upto_region 17 with (fail)
        rw [← hW5]
        clear hW5 p0 p1 p4 p5 p6 p7 p8 p9 q0 q1 q2 q3 q4 q5 q6 q7 fzp fzq hne2 hne3
        go_wp2_with fail
        refine RL.mono ?_
        rintro e w6 ⟨k6, rfl, K6⟩
        clear RL e8
        have e9 := C6.out w6 K6
        have DR := DRP.out w6 K6
        go_wp2_with fail
        refine DR.mono ?_
        rintro e w7 ⟨k7, rfl, K7⟩
        obtain ⟨e7, w8, hdel, K8⟩ := DEL.out w7 K7
        have FG := FG8.out (by simp) w8 K8
        clear DR e9 K6 K7 K8
        go_wp2_with fail
        refine FG.mono ?_
        rintro e w9 ⟨rfl, K9⟩
        clear FG hdel e7
        have e4 := C9.out w9 K9
        have EN := END.out (by simp) w9 K9
        go_wp2
        go_ret2
        exact ⟨_, _, rfl, EN⟩
      · subst hfi hfo
        clear hb
        have hot : decide (0 < ol) = true := decide_eq_true hol
        rw [hot] at FULL FG6 FG8 END
        clear hot
        go_enter Tryz.func16, Tryz.ntmps16
        go_wp2_with fail
        refine A.mono ?_
        rintro e w' ⟨rfl, rfl⟩
        go_wp2_with fail
        refine AC.mono ?_
        rintro e w2 ⟨A2, c2, rfl, K2⟩
        have d8 := C2.out w2 K2
        have HE2 := HE.out w2 K2
        clear K2
        go_wp2_with fail
        refine HE2.mono ?_
        rintro e w3' ⟨A3, c3, rfl, K3⟩
        clear HE2 d8
        have d9 := (hdC_cells (C3.out A3 c3 w3' K3).1).2.2.2.2.2.2.2
        have OF2 := OF.out A3 c3 w3' K3
        clear K3
        go_wp2_with fail
        refine OF2.mono ?_
        rintro e w3 ⟨A4, c4, rfl, K3⟩
        clear OF2 d9 w3'
        obtain ⟨oP, oQ⟩ := C3.out A3 c3 w3 K3
        obtain ⟨p0, p1, p4, p5, p6, p7, p8, p9⟩ := hdC_cells oP
        have ln := LEN.out A3 c3 w3 K3
        have K3d : H3 A3 c3 w3.drew := D3.out A3 c3 w3 1 K3
        have lnd := LEN.out A3 c3 w3.drew K3d
        have oPd : w3.drew.heap[p]? = some (hdC a k r o now last clock mb lp rp) := oP
        have oQd : w3.drew.heap[q]? = some (txC num snap act begun ended _ _ vw) := oQ
        clear p0 p4 p5 p6 p8 p9 oP oQ
        replace K3 := Aside0.mk K3
        replace K3d := Aside0.mk K3d
        replace oPd := Aside0.mk oPd
        replace oQd := Aside0.mk oQd
        go_wp2_with fail
        go_region
        clear ln lnd p1 p7
        generalize w3.drew = wd at *
        obtain ⟨W5, hW5⟩ : ∃ W5, W5 = (((wd.setCell ⟨p, 6, none⟩ (.int .i64 (clock + 1))).setCell ⟨q, 2, none⟩ (.bool false)).setCell ⟨q, 4, none⟩ (.int .i64 (clock + 1))).setCell ⟨q, 7, none⟩ (.slice A3 0 c3) := ⟨_, rfl⟩
        obtain ⟨e8, RL⟩ := REL.out A3 c3 wd K3d.out W5 hW5
        obtain ⟨p0, p1, p4, p5, p6, p7, p8, p9⟩ := hdC_cells oPd.out
        obtain ⟨q0, q1, q2, q3, q4, q5, q6, q7⟩ := txC_cells oQd.out
        have fzp := blk_frozen oPd.out
        have fzq := blk_frozen oQd.out
        have hne2 := hne.out
        have hne3 : q ≠ p := fun e => hne2 e.symm
        go_upto_region 17 with (fail)
        rw [← hW5]
        clear hW5 p0 p1 p4 p5 p6 p7 p8 p9 q0 q1 q2 q3 q4 q5 q6 q7 fzp fzq hne2 hne3
        go_wp2_with fail
        refine RL.mono ?_
        rintro e w6 ⟨k6, rfl, K6⟩
        clear RL e8
        have e9 := C6.out w6 K6
        have DR := DRP.out w6 K6
        go_wp2_with fail
        refine DR.mono ?_
        rintro e w7 ⟨k7, rfl, K7⟩
        obtain ⟨e7, w8, hdel, K8⟩ := DEL.out w7 K7
        have FG := FG8.out (by simp) w8 K8
        clear DR e9 K6 K7 K8
        go_wp2_with fail
        refine FG.mono ?_
        rintro e w9 ⟨rfl, K9⟩
        clear FG hdel e7
        have e4 := C9.out w9 K9
        have EN := END.out (by simp) w9 K9
        go_wp2
        go_ret2
        exact ⟨_, _, rfl, EN⟩
    · rcases (show fin = false ∨ (fin = true ∧ fout = false) by revert hb; cases fin <;> cases fout <;> simp) with hfi | ⟨hfi, hfo⟩
      · subst hfi
        clear hb
        subst hol
        rw [show decide ((0 : Nat) < 0) = false from rfl] at FULL FG6 FG8 END
        go_enter Tryz.func16, Tryz.ntmps16
        go_wp2_with fail
        refine A.mono ?_
        rintro e w' ⟨rfl, rfl⟩
        go_wp2_with fail
        refine AC.mono ?_
        rintro e w2 ⟨A2, c2, rfl, K2⟩
        have d8 := C2.out w2 K2
        have HE2 := HE.out w2 K2
        clear K2
        go_wp2_with fail
        refine HE2.mono ?_
        rintro e w3' ⟨A3, c3, rfl, K3⟩
        clear HE2 d8
        have d9 := (hdC_cells (C3.out A3 c3 w3' K3).1).2.2.2.2.2.2.2
        have OF2 := OF.out A3 c3 w3' K3
        clear K3
        go_wp2_with fail
        refine OF2.mono ?_
        rintro e w3 ⟨A4, c4, rfl, K3⟩
        clear OF2 d9 w3'
        obtain ⟨oP, oQ⟩ := C3.out A3 c3 w3 K3
        obtain ⟨p0, p1, p4, p5, p6, p7, p8, p9⟩ := hdC_cells oP
        have ln := LEN.out A3 c3 w3 K3
        have K3d : H3 A3 c3 w3.drew := D3.out A3 c3 w3 1 K3
        have lnd := LEN.out A3 c3 w3.drew K3d
        have oPd : w3.drew.heap[p]? = some (hdC a k r o now last clock mb lp rp) := oP
        have oQd : w3.drew.heap[q]? = some (txC num snap act begun ended _ _ vw) := oQ
        clear p0 p4 p5 p6 p8 p9 oP oQ
        replace K3 := Aside0.mk K3
        replace K3d := Aside0.mk K3d
        replace oPd := Aside0.mk oPd
        replace oQd := Aside0.mk oQd
        go_wp2_with fail
        have hgi : (1 : Int) < (n0 : Int) := by omega
        have hgd : decide ((1 : Int) < (n0 : Int)) = true := decide_eq_true hgi
        go_region
        clear ln lnd p1 p7
        generalize w3.drew = wd at *
        obtain ⟨W5, hW5⟩ : ∃ W5, W5 = (((wd.setCell ⟨p, 6, none⟩ (.int .i64 (clock + 1))).setCell ⟨q, 2, none⟩ (.bool false)).setCell ⟨q, 4, none⟩ (.int .i64 (clock + 1))).setCell ⟨q, 7, none⟩ (.slice A3 0 c3) := ⟨_, rfl⟩
        obtain ⟨e8, RL⟩ := REL.out A3 c3 wd K3d.out W5 hW5
        obtain ⟨p0, p1, p4, p5, p6, p7, p8, p9⟩ := hdC_cells oPd.out
        obtain ⟨q0, q1, q2, q3, q4, q5, q6, q7⟩ := txC_cells oQd.out
        have fzp := blk_frozen oPd.out
        have fzq := blk_frozen oQd.out
        have hne2 := hne.out
        have hne3 : q ≠ p := fun e => hne2 e.symm
        go_upto_region 17 with (fail)
        rw [← hW5]
        clear hW5 p0 p1 p4 p5 p6 p7 p8 p9 q0 q1 q2 q3 q4 q5 q6 q7 fzp fzq hne2 hne3
        go_wp2_with fail
        refine RL.mono ?_
        rintro e w6 ⟨k6, rfl, K6⟩
        clear RL e8
        have e9 := C6.out w6 K6
        have DR := DRP.out w6 K6
        go_wp2_with fail
        refine DR.mono ?_
        rintro e w7 ⟨k7, rfl, K7⟩
        obtain ⟨e7, w8, hdel, K8⟩ := DEL.out w7 K7
        have FG := FG8.out (by simp) w8 K8
        clear DR e9 K6 K7 K8
        go_wp2_with fail
        refine FG.mono ?_
        rintro e w9 ⟨rfl, K9⟩
        clear FG hdel e7
        have e4 := C9.out w9 K9
        have EN := END.out (by simp) w9 K9
        go_wp2
        go_ret2
        exact ⟨_, _, rfl, EN⟩
      · subst hfi hfo
        clear hb
        subst hol
        rw [show decide ((0 : Nat) < 0) = false from rfl] at FULL FG6 FG8 END
        go_enter Tryz.func16, Tryz.ntmps16
        go_wp2_with fail
        refine A.mono ?_
        rintro e w' ⟨rfl, rfl⟩
        go_wp2_with fail
        refine AC.mono ?_
        rintro e w2 ⟨A2, c2, rfl, K2⟩
        have d8 := C2.out w2 K2
        have HE2 := HE.out w2 K2
        clear K2
        go_wp2_with fail
        refine HE2.mono ?_
        rintro e w3' ⟨A3, c3, rfl, K3⟩
        clear HE2 d8
        have d9 := (hdC_cells (C3.out A3 c3 w3' K3).1).2.2.2.2.2.2.2
        have OF2 := OF.out A3 c3 w3' K3
        clear K3
        go_wp2_with fail
        refine OF2.mono ?_
        rintro e w3 ⟨A4, c4, rfl, K3⟩
        clear OF2 d9 w3'
        obtain ⟨oP, oQ⟩ := C3.out A3 c3 w3 K3
        obtain ⟨p0, p1, p4, p5, p6, p7, p8, p9⟩ := hdC_cells oP
        have ln := LEN.out A3 c3 w3 K3
        have K3d : H3 A3 c3 w3.drew := D3.out A3 c3 w3 1 K3
        have lnd := LEN.out A3 c3 w3.drew K3d
        have oPd : w3.drew.heap[p]? = some (hdC a k r o now last clock mb lp rp) := oP
        have oQd : w3.drew.heap[q]? = some (txC num snap act begun ended _ _ vw) := oQ
        clear p0 p4 p5 p6 p8 p9 oP oQ
        replace K3 := Aside0.mk K3
        replace K3d := Aside0.mk K3d
        replace oPd := Aside0.mk oPd
        replace oQd := Aside0.mk oQd
        go_wp2_with fail
        have hgi : (1 : Int) < (n0 : Int) := by omega
        have hgd : decide ((1 : Int) < (n0 : Int)) = true := decide_eq_true hgi
        go_region
        clear ln lnd p1 p7
        generalize w3.drew = wd at *
        obtain ⟨W5, hW5⟩ : ∃ W5, W5 = (((wd.setCell ⟨p, 6, none⟩ (.int .i64 (clock + 1))).setCell ⟨q, 2, none⟩ (.bool false)).setCell ⟨q, 4, none⟩ (.int .i64 (clock + 1))).setCell ⟨q, 7, none⟩ (.slice A3 0 c3) := ⟨_, rfl⟩
        obtain ⟨e8, RL⟩ := REL.out A3 c3 wd K3d.out W5 hW5
        obtain ⟨p0, p1, p4, p5, p6, p7, p8, p9⟩ := hdC_cells oPd.out
        obtain ⟨q0, q1, q2, q3, q4, q5, q6, q7⟩ := txC_cells oQd.out
        have fzp := blk_frozen oPd.out
        have fzq := blk_frozen oQd.out
        have hne2 := hne.out
        have hne3 : q ≠ p := fun e => hne2 e.symm
        go_upto_region 17 with (fail)
        rw [← hW5]
        clear hW5 p0 p1 p4 p5 p6 p7 p8 p9 q0 q1 q2 q3 q4 q5 q6 q7 fzp fzq hne2 hne3
        go_wp2_with fail
        refine RL.mono ?_
        rintro e w6 ⟨k6, rfl, K6⟩
        clear RL e8
        have e9 := C6.out w6 K6
        have DR := DRP.out w6 K6
        go_wp2_with fail
        refine DR.mono ?_
        rintro e w7 ⟨k7, rfl, K7⟩
        obtain ⟨e7, w8, hdel, K8⟩ := DEL.out w7 K7
        have FG := FG8.out (by simp) w8 K8
        clear DR e9 K6 K7 K8
        go_wp2_with fail
        refine FG.mono ?_
        rintro e w9 ⟨rfl, K9⟩
        clear FG hdel e7
        have e4 := C9.out w9 K9
        have EN := END.out (by simp) w9 K9
        go_wp2
        go_ret2
        exact ⟨_, _, rfl, EN⟩
    · subst hn1
      rcases (show fin = false ∨ (fin = true ∧ fout = false) by revert hb; cases fin <;> cases fout <;> simp) with hfi | ⟨hfi, hfo⟩
      · subst hfi
        clear hb
        subst hol
        rw [show decide ((0 : Nat) < 0) = false from rfl] at FULL FG6 FG8 END
        go_enter Tryz.func16, Tryz.ntmps16
        go_wp2_with fail
        refine A.mono ?_
        rintro e w' ⟨rfl, rfl⟩
        go_wp2_with fail
        refine AC.mono ?_
        rintro e w2 ⟨A2, c2, rfl, K2⟩
        have d8 := C2.out w2 K2
        have HE2 := HE.out w2 K2
        clear K2
        go_wp2_with fail
        refine HE2.mono ?_
        rintro e w3' ⟨A3, c3, rfl, K3⟩
        clear HE2 d8
        have d9 := (hdC_cells (C3.out A3 c3 w3' K3).1).2.2.2.2.2.2.2
        have OF2 := OF.out A3 c3 w3' K3
        clear K3
        go_wp2_with fail
        refine OF2.mono ?_
        rintro e w3 ⟨A4, c4, rfl, K3⟩
        clear OF2 d9 w3'
        obtain ⟨oP, oQ⟩ := C3.out A3 c3 w3 K3
        obtain ⟨p0, p1, p4, p5, p6, p7, p8, p9⟩ := hdC_cells oP
        have ln := LEN.out A3 c3 w3 K3
        have K3d : H3 A3 c3 w3.drew := D3.out A3 c3 w3 1 K3
        have lnd := LEN.out A3 c3 w3.drew K3d
        have oPd : w3.drew.heap[p]? = some (hdC a k r o now last clock mb lp rp) := oP
        have oQd : w3.drew.heap[q]? = some (txC num snap act begun ended _ _ vw) := oQ
        clear p0 p4 p5 p6 p8 p9 oP oQ
        replace K3 := Aside0.mk K3
        replace K3d := Aside0.mk K3d
        replace oPd := Aside0.mk oPd
        replace oQd := Aside0.mk oQd
        go_wp2_with fail
        go_region
        clear ln lnd p1 p7
        generalize w3.drew = wd at *
        obtain ⟨W5, hW5⟩ : ∃ W5, W5 = (((wd.setCell ⟨p, 6, none⟩ (.int .i64 (clock + 1))).setCell ⟨q, 2, none⟩ (.bool false)).setCell ⟨q, 4, none⟩ (.int .i64 (clock + 1))).setCell ⟨q, 7, none⟩ (.slice A3 0 c3) := ⟨_, rfl⟩
        obtain ⟨e8, RL⟩ := REL.out A3 c3 wd K3d.out W5 hW5
        obtain ⟨p0, p1, p4, p5, p6, p7, p8, p9⟩ := hdC_cells oPd.out
        obtain ⟨q0, q1, q2, q3, q4, q5, q6, q7⟩ := txC_cells oQd.out
        have fzp := blk_frozen oPd.out
        have fzq := blk_frozen oQd.out
        have hne2 := hne.out
        have hne3 : q ≠ p := fun e => hne2 e.symm
        go_upto_region 17 with (fail)
        rw [← hW5]
        clear hW5 p0 p1 p4 p5 p6 p7 p8 p9 q0 q1 q2 q3 q4 q5 q6 q7 fzp fzq hne2 hne3
        go_wp2_with fail
        refine RL.mono ?_
        rintro e w6 ⟨k6, rfl, K6⟩
        clear RL e8
        have e9 := C6.out w6 K6
        have DR := DRP.out w6 K6
        go_wp2_with fail
        refine DR.mono ?_
        rintro e w7 ⟨k7, rfl, K7⟩
        obtain ⟨e7, w8, hdel, K8⟩ := DEL.out w7 K7
        have FG := FG8.out (by simp) w8 K8
        clear DR e9 K6 K7 K8
        go_wp2_with fail
        refine FG.mono ?_
        rintro e w9 ⟨rfl, K9⟩
        clear FG hdel e7
        have e4 := C9.out w9 K9
        have EN := END.out (by simp) w9 K9
        go_wp2
        go_ret2
        exact ⟨_, _, rfl, EN⟩
      · subst hfi hfo
        clear hb
        subst hol
        rw [show decide ((0 : Nat) < 0) = false from rfl] at FULL FG6 FG8 END
        go_enter Tryz.func16, Tryz.ntmps16
        go_wp2_with fail
        refine A.mono ?_
        rintro e w' ⟨rfl, rfl⟩
        go_wp2_with fail
        refine AC.mono ?_
        rintro e w2 ⟨A2, c2, rfl, K2⟩
        have d8 := C2.out w2 K2
        have HE2 := HE.out w2 K2
        clear K2
        go_wp2_with fail
        refine HE2.mono ?_
        rintro e w3' ⟨A3, c3, rfl, K3⟩
        clear HE2 d8
        have d9 := (hdC_cells (C3.out A3 c3 w3' K3).1).2.2.2.2.2.2.2
        have OF2 := OF.out A3 c3 w3' K3
        clear K3
        go_wp2_with fail
        refine OF2.mono ?_
        rintro e w3 ⟨A4, c4, rfl, K3⟩
        clear OF2 d9 w3'
        obtain ⟨oP, oQ⟩ := C3.out A3 c3 w3 K3
        obtain ⟨p0, p1, p4, p5, p6, p7, p8, p9⟩ := hdC_cells oP
        have ln := LEN.out A3 c3 w3 K3
        have K3d : H3 A3 c3 w3.drew := D3.out A3 c3 w3 1 K3
        have lnd := LEN.out A3 c3 w3.drew K3d
        have oPd : w3.drew.heap[p]? = some (hdC a k r o now last clock mb lp rp) := oP
        have oQd : w3.drew.heap[q]? = some (txC num snap act begun ended _ _ vw) := oQ
        clear p0 p4 p5 p6 p8 p9 oP oQ
        replace K3 := Aside0.mk K3
        replace K3d := Aside0.mk K3d
        replace oPd := Aside0.mk oPd
        replace oQd := Aside0.mk oQd
        go_wp2_with fail
        go_region
        clear ln lnd p1 p7
        generalize w3.drew = wd at *
        obtain ⟨W5, hW5⟩ : ∃ W5, W5 = (((wd.setCell ⟨p, 6, none⟩ (.int .i64 (clock + 1))).setCell ⟨q, 2, none⟩ (.bool false)).setCell ⟨q, 4, none⟩ (.int .i64 (clock + 1))).setCell ⟨q, 7, none⟩ (.slice A3 0 c3) := ⟨_, rfl⟩
        obtain ⟨e8, RL⟩ := REL.out A3 c3 wd K3d.out W5 hW5
        obtain ⟨p0, p1, p4, p5, p6, p7, p8, p9⟩ := hdC_cells oPd.out
        obtain ⟨q0, q1, q2, q3, q4, q5, q6, q7⟩ := txC_cells oQd.out
        have fzp := blk_frozen oPd.out
        have fzq := blk_frozen oQd.out
        have hne2 := hne.out
        have hne3 : q ≠ p := fun e => hne2 e.symm
        go_upto_region 17 with (fail)
        rw [← hW5]
        clear hW5 p0 p1 p4 p5 p6 p7 p8 p9 q0 q1 q2 q3 q4 q5 q6 q7 fzp fzq hne2 hne3
        go_wp2_with fail
        refine RL.mono ?_
        rintro e w6 ⟨k6, rfl, K6⟩
        clear RL e8
        have e9 := C6.out w6 K6
        have DR := DRP.out w6 K6
        go_wp2_with fail
        refine DR.mono ?_
        rintro e w7 ⟨k7, rfl, K7⟩
        obtain ⟨e7, w8, hdel, K8⟩ := DEL.out w7 K7
        have FG := FG8.out (by simp) w8 K8
        clear DR e9 K6 K7 K8
        go_wp2_with fail
        refine FG.mono ?_
        rintro e w9 ⟨rfl, K9⟩
        clear FG hdel e7
        have e4 := C9.out w9 K9
        have EN := END.out (by simp) w9 K9
        go_wp2
        go_ret2
        exact ⟨_, _, rfl, EN⟩
end Go.Proofs.YthaoedfalkebbaaGreat
namespace Go.Proofs.YthaoedfalkebbaaGreat
open Go.RowKit Go.Maps Go.Sort Go.Lib Go.Shelf Go.Proofs.YthaoedfalkebbaaGreatW.PrintWords Go.Proofs.YthaoedfalkebbaaGreatW.PrintLast Go.Proofs.YthaoedfalkebbaaGreatW.PrintMore
set_option linter.unusedVariables false
set_option linter.unusedSimpArgs false
set_option linter.unusedSectionVars false
theorem held_perm (L : List (Lk × Int)) (n : Int) : (Lck.heldOf L n).Perm (heldOf L n) := by
  unfold Lck.heldOf heldOf Lck.srt
  exact (List.mergeSort_perm ..).trans (by rfl)
theorem held_nil (L : List (Lk × Int)) (n : Int) : ((Lck.heldOf L n).length = 0) ↔ heldOf L n = [] := by
  rw [(held_perm L n).length_eq, List.length_eq_zero_iff]
/-- one is over: its cells -/
theorem Pm.ended {w W : World} {base : Nat} {l : Loc} {S : Sm St} (h : Pm w base l S) {t : Tx} (ht : t ∈ S.txs) {now' clock' : Int} {v : Value} {ws : List Lk} (F : Fr (fun k => k = l.p ∨ k = l.Q t.num) w W)
    (hh : W.heap[l.p]? = some (hdCells { S with now := now', clock := clock' } l.mb l.lp l.rp)) (hq : W.heap[l.Q t.num]? = some (txCells { t with act := false, ended := clock', wrote := ws } v)) {ws' : List Lk} (hv : Lo Lck.cellsL 2 23 W base v ws') (hl : ws'.length ≤ 4096) (he : ∀ a, a ∈ ws' ↔ a ∈ ws) (hF : ∀ b, v.ownBlock = some b → ¬ l.F b) :
    Pm W base l { S with now := now', clock := clock', txs := S.txs.map (fun o => if o.num == t.num then { o with act := false, ended := clock', wrote := ws } else o) } := by
  obtain ⟨hk, k1, k2, k3, k4, k5, k6, k7, k8, k9, k10, k11, k12⟩ := h.kinds
  obtain ⟨q1, q2, q3, q4, q5, q6⟩ := hk t ht
  have nu : ∀ x : Tx, (if x.num == t.num then ({ x with act := false, ended := clock', wrote := ws } : Tx) else x).num = x.num := fun x => by split <;> rfl
  have hL : txL l.Q (S.txs.map (fun o => if o.num == t.num then ({ o with act := false, ended := clock', wrote := ws } : Tx) else o)) = txL l.Q S.txs := by
    unfold txL
    rw [List.map_map]
    apply List.map_congr_left
    intro x _
    simp only [Function.comp]
    rw [nu]
  have hm : ∀ u, u ∈ S.txs.map (fun o => if o.num == t.num then ({ o with act := false, ended := clock', wrote := ws } : Tx) else o) → ∃ x ∈ S.txs, u = if x.num == t.num then { x with act := false, ended := clock', wrote := ws } else x := fun u hu => by
    obtain ⟨x, hx, e⟩ := List.mem_map.1 hu
    exact ⟨x, hx, e.symm⟩
  have no : ∀ k, k ≠ l.p → k ≠ l.Q t.num → ¬ (k = l.p ∨ k = l.Q t.num) := fun k h1 h2 h => by rcases h with h | h; exact h1 h; exact h2 h
  constructor
  · exact hh
  · show TabT W l.mb (S.txs.map _).length (txL l.Q (S.txs.map _))
    rw [hL, List.length_map]
    exact h.tab.fr F (no _ (fun e => k1 e.symm) (fun e => q2 e.symm))
  · intro u hu
    obtain ⟨x, hx, rfl⟩ := hm u hu
    rw [nu]
    by_cases e : x.num = t.num
    · have ex : x = t := dist_inj h.dist hx ht e
      subst ex
      rw [if_pos (by simp)]
      exact ⟨v, hq, ws', hv, hl, he, hF⟩
    · rw [if_neg (by simpa using e)]
      obtain ⟨v2, h1, ws2, h2, h3⟩ := h.tx x hx
      refine ⟨v2, F.block _ _ (no _ (hk x hx).1 (fun e3 => e (h.qinj x hx t ht e3))) h1, ws2, h2.move fun g hg => ?_, h3⟩
      obtain ⟨_, _, cells, hc⟩ := h2.typed g hg
      refine (F.block g _ (fun e3 => ?_) hc).trans hc.symm
      rcases e3 with e3 | e3
      · rw [e3, h.head] at hc
        unfold hdCells at hc
        simp at hc
      · obtain ⟨v4, h4, _⟩ := h.tx t ht
        rw [e3, h4] at hc
        unfold txCells at hc
        simp at hc
  · intro u hu u2 hu2 e
    obtain ⟨x, hx, rfl⟩ := hm u hu
    obtain ⟨y, hy, rfl⟩ := hm u2 hu2
    rw [nu, nu] at e ⊢
    exact h.qinj x hx y hy e
  · exact h.locks.fr F (no _ (fun e => k2 e.symm) (fun e => q3 e.symm)) (no _ (fun e => k3 e.symm) (fun e => q4 e.symm))
  · obtain ⟨c, s, hc⟩ := h.lkind
    exact ⟨c, s, F.block _ _ (no _ (fun e => k2 e.symm) (fun e => q3 e.symm)) hc⟩
  · refine h.reads.fr F (no _ (fun e => k4 e.symm) (fun e => q5 e.symm)) (no _ (fun e => k5 e.symm) (fun e => q6 e.symm)) (fun k c s hk2 hc => ?_)
    rcases hk2 with e3 | e3
    · rw [e3, h.head] at hc
      unfold hdCells at hc
      simp at hc
    · obtain ⟨v4, h4, _⟩ := h.tx t ht
      rw [e3, h4] at hc
      unfold txCells at hc
      simp at hc
  · show (S.txs.map _).Pairwise _
    rw [List.pairwise_map]
    exact h.dist.imp (fun {a b} h => by rw [nu, nu]; exact h)
  · intro u hu
    obtain ⟨x, hx, rfl⟩ := hm u hu
    rw [nu]
    exact h.nums x hx
  · show (S.txs.map _).length ≤ _
    rw [List.length_map]
    exact h.few
  · exact h.ne1
  · exact h.ne2
  · exact h.ne3
  · refine ⟨h.low.1, h.low.2.1, h.low.2.2.1, h.low.2.2.2.1, h.low.2.2.2.2.1, fun u hu => ?_⟩
    obtain ⟨x, hx, rfl⟩ := hm u hu
    rw [nu]
    exact h.low.2.2.2.2.2 x hx
theorem set3_q {X : World} {q : Nat} {t : Tx} {v v' : Value} {c' : Int} (ws : List Lk) (h : X.heap[q]? = some (txCells t v)) : (((X.setCell ⟨q, 2, none⟩ (.bool false)).setCell ⟨q, 4, none⟩ (.int .i64 c')).setCell ⟨q, 7, none⟩ v').heap[q]? = some (txCells { t with act := false, ended := c', wrote := ws } v') := by
  rw [blk_set (blk_set (blk_set h 2 _) 4 _) 7 _]
  rfl
theorem set3_g (X : World) (q : Nat) (a b c : Value) : X.grownBy (((X.setCell ⟨q, 2, none⟩ a).setCell ⟨q, 4, none⟩ b).setCell ⟨q, 7, none⟩ c) (some q) := trans_grown (trans_grown (grown_set _ _ _ _) (grown_set _ _ _ _)) (grown_set _ _ _ _)
/-- the cells are stored: what then lies -/
theorem commit_set {w W X W5 : World} {base : Nat} {l : Loc} {S : Sm St} {t : Tx} {now' : Int} {A : Option Addr} {c : Nat} (h : Pm w base l S) (K N : Int) (hC : Cap S K N) (ht : t ∈ S.txs) (hF : ∀ k, l.F k → k < w.heap.size) (B : Below w.heap.size w W)
    (hv : Lo Lck.cellsL 2 23 W w.heap.size (.slice A (Lck.heldOf S.locks t.num).length c) (Lck.heldOf S.locks t.num))
    (GX : W.grownBy X (some l.p)) (hX : X.heap[l.p]? = some (hdCells { S with now := now', clock := S.clock + 1 } l.mb l.lp l.rp))
    (hW5 : W5 = ((X.setCell ⟨l.Q t.num, 2, none⟩ (.bool false)).setCell ⟨l.Q t.num, 4, none⟩ (.int .i64 (S.clock + 1))).setCell ⟨l.Q t.num, 7, none⟩ (.slice A (Lck.heldOf S.locks t.num).length c)) :
    Pm W5 base l { S with now := now', clock := S.clock + 1, txs := S.txs.map (fun o => if o.num == t.num then { o with act := false, ended := S.clock + 1, wrote := heldOf S.locks t.num } else o) } ∧ Fr (fun k => k = l.p ∨ k = l.Q t.num) w W5 := by
  obtain ⟨hk, _⟩ := h.kinds
  obtain ⟨q1, _⟩ := hk t ht
  obtain ⟨vt, hvt, _⟩ := (h.below B).tx t ht
  have hq : X.heap[l.Q t.num]? = some (txCells t vt) := (GX.block _ (Array.getElem?_eq_some_iff.1 hvt).1 (fun e => by injection e with e; exact q1 e)).trans hvt
  have G5 := set3_g X (l.Q t.num) (.bool false) (.int .i64 (S.clock + 1)) (.slice A (Lck.heldOf S.locks t.num).length c)
  rw [← hW5] at G5
  have F1 : Fr (fun k => k = l.p ∨ k = l.Q t.num) w X := (Fr.ofBelow (O := fun k => k = l.p ∨ k = l.Q t.num) B).trans (Fr.grown GX) (fun k hk _ => by injection hk with hk; exact .inl hk.symm)
  have F5 : Fr (fun k => k = l.p ∨ k = l.Q t.num) w W5 := F1.trans (Fr.grown G5) (fun k hk _ => by injection hk with hk; exact .inr hk.symm)
  have hp5 : W5.heap[l.p]? = some (hdCells { S with now := now', clock := S.clock + 1 } l.mb l.lp l.rp) := (G5.block _ (Array.getElem?_eq_some_iff.1 hX).1 (fun e => by injection e with e; exact q1 e.symm)).trans hX
  have hq5 : W5.heap[l.Q t.num]? = some (txCells { t with act := false, ended := S.clock + 1, wrote := heldOf S.locks t.num } (.slice A (Lck.heldOf S.locks t.num).length c)) := by
    rw [hW5]
    exact set3_q _ hq
  have lp := h.lts _ (.inl rfl)
  have lq := h.lts _ (.inr (.inr (.inr (.inr (.inr ⟨t, ht, rfl⟩)))))
  have hv5 : Lo Lck.cellsL 2 23 W5 w.heap.size (.slice A (Lck.heldOf S.locks t.num).length c) (Lck.heldOf S.locks t.num) := by
    refine hv.move fun b hb => ?_
    obtain ⟨b1, b2, _⟩ := hv.typed b hb
    have e1 := GX.block b b2 (fun e => by injection e with e; omega)
    have e2 := G5.block b (by have := GX.size; omega) (fun e => by injection e with e; omega)
    exact e2.trans e1
  refine ⟨h.ended ht F5 hp5 hq5 (hv5.lower (by have := h.low.1; omega)) ?_ (fun a => (held_perm S.locks t.num).mem_iff) (fun b hb hbF => ?_), F5⟩
  · have := held_len S.locks t.num
    have := hC.lck4
    omega
  · have h1 := (hv5.typed b hb).1
    have h2 := hF b hbF
    omega
end Go.Proofs.YthaoedfalkebbaaGreat
namespace Go.Proofs.YthaoedfalkebbaaGreat
open Go.RowKit Go.Maps Go.Sort Go.Lib Go.Shelf Go.Proofs.YthaoedfalkebbaaGreatW.PrintWords Go.Proofs.YthaoedfalkebbaaGreatW.PrintLast Go.Proofs.YthaoedfalkebbaaGreatW.PrintMore
set_option linter.unusedVariables false
set_option linter.unusedSimpArgs false
set_option linter.unusedSectionVars false
theorem commit_rel {W5 : World} {base : Nat} {l : Loc} {S1 : Sm St} (tx : Int) (P5 : Pm W5 base l S1) (hlk : S1.locks.length ≤ 4096) :
    Calls Tryz.prog 53 #[ptr l.lp, .int .i64 tx] W5 fun e w6 => ∃ k, e = .returned (.int .i64 k) ∧ Pm w6 base l { S1 with locks := S1.locks.filter (fun p => p.2 != tx) } ∧ Fr (fun k => k = l.lb) W5 w6 := by
  refine (Lck.Release_calls l.lp l.lb S1.caps.locks S1.locks tx W5 P5.locks hlk).mono ?_
  rintro e w6 ⟨rfl, h1, h2⟩
  have F : Fr (fun k => k = l.lb) W5 w6 := (Fr.grown h2).mono (fun k hk _ => by injection hk with hk; exact hk.symm)
  have e : S1.locks.filter (fun p => decide (p.2 ≠ tx)) = S1.locks.filter (fun p => p.2 != tx) := List.filter_congr (fun p _ => by by_cases h : p.2 = tx <;> simp [h])
  rw [e] at h1
  exact ⟨_, rfl, P5.locked F h1, F⟩
theorem commit_drop {w6 : World} {base : Nat} {l : Loc} {S2 : Sm St} (tx : Int) (P6 : Pm w6 base l S2) :
    Calls Tryz.prog 54 #[ptr l.rp, .int .i64 tx] w6 fun e w7 => ∃ k, e = .returned (.int .i64 k) ∧ Pm w7 base l { S2 with reads := (dropP S2.reads tx).2 } ∧ Fr (fun k => k = l.rp ∨ k = l.rb) w6 w7 := by
  obtain ⟨hk, k1, k2, k3, k4, k5, k6, k7, k8, k9, k10, k11, k12⟩ := P6.kinds
  refine (Drop_S base l.rp l.rb S2.caps.reads S2.reads tx w6 P6.reads).mono ?_
  rintro e w7 ⟨rfl, h1, h2⟩
  have F := Fr.ofBut h2
  exact ⟨_, rfl, P6.turn F (fun k hk => .inr hk) rfl rfl rfl rfl rfl (List.Sublist.refl _) (P6.tab.fr F (fun e => by rcases e with e | e; exact k10 e.symm; exact P6.ne2 e)) h1, F⟩
set_option maxRecDepth 100000 in
theorem commit_del {w7 : World} {base : Nat} {l : Loc} {S3 : Sm St} {tx : Int} (hok : okN tx) (P7 : Pm w7 base l S3) :
    ∃ w8, (Builtin.delete_ #[86, 2] 0 #[.map (some l.mb), .int .i64 tx]).run Tryz.prog w7 = .ok (.tuple #[]) w8 ∧ Pm w8 base l { S3 with txs := S3.txs.filter (fun o => o.num != tx) } ∧ Fr (fun k => k = l.mb) w7 w8 := by
  obtain ⟨hk, k1, k2, k3, k4, k5, k6, k7, k8, k9, k10, k11, k12⟩ := P7.kinds
  obtain ⟨w8, hdel, T3, hturn⟩ := P7.tab.drop (t := 86) (e := 99) keyN Tryz.underlying86 hok 0
  have F : Fr (fun k => k = l.mb) w7 w8 := (Fr.grown (turned_grown hturn)).mono (fun k hk _ => by injection hk with hk; exact hk.symm)
  refine ⟨w8, hdel, P7.turn F (fun k hk => .inl hk) rfl rfl rfl rfl rfl List.filter_sublist ?_ ?_, F⟩
  · rw [txL_filter] at T3
    have T4 := T3.exact
    have e : S3.txs.filter (fun u => decide (u.num ≠ tx)) = S3.txs.filter (fun u => u.num != tx) := List.filter_congr (fun u _ => by by_cases h : u.num = tx <;> simp [h])
    rw [e] at T4
    have e2 : (txL l.Q (S3.txs.filter (fun u => u.num != tx))).length = (S3.txs.filter (fun u => u.num != tx)).length := by unfold txL; rw [List.length_map]
    rw [e2] at T4
    exact T4
  · refine P7.reads.fr F (fun e => k10 e) (fun e => P7.ne2 e.symm) (fun k c s hk hc => ?_)
    obtain ⟨es5, cl5, hmap5⟩ := P7.tab.isMap
    have hk : k = l.mb := hk
    rw [hk, hmap5] at hc
    cases hc
theorem commit_both {S : Sm St} {I : RdI St} {tx : Int} {t : Tx} (h : S.actv tx = some t) (hb : (t.fin && t.fout) = true) : S.commit I tx = ((0, 100), S.gone I tx) := by
  unfold Sm.commit
  rw [h]
  dsimp only
  rw [if_pos hb]
theorem commit_full {S : Sm St} {I : RdI St} {tx : Int} {t : Tx} (h : S.actv tx = some t) (hb : (t.fin && t.fout) = false) (hf : 1 < S.acts ∧ (heldOf S.locks tx ≠ [] ∨ I.has S.reads tx = true) ∧ S.caps.kept ≤ (S.txs.length : Int) - S.acts) : S.commit I tx = ((0, 4), S.gone I tx) := by
  unfold Sm.commit
  rw [h]
  dsimp only
  rw [if_neg (by rw [hb]; decide), if_pos hf]
theorem commit_go {S : Sm St} {I : RdI St} {tx : Int} {t : Tx} (h : S.actv tx = some t) (hb : (t.fin && t.fout) = false) (hf : ¬ (1 < S.acts ∧ (heldOf S.locks tx ≠ [] ∨ I.has S.reads tx = true) ∧ S.caps.kept ≤ (S.txs.length : Int) - S.acts)) :
    S.commit I tx = (((S.ends tx).now, 0), Sm.forget I (if S.acts = 1 ∨ ¬ (heldOf S.locks tx ≠ [] ∨ I.has S.reads tx = true) then { S.ends tx with reads := I.drop S.reads tx, txs := (S.ends tx).txs.filter (fun o => o.num != tx) } else S.ends tx)) := by
  unfold Sm.commit
  rw [h]
  dsimp only
  rw [if_neg (by rw [hb]; decide), if_neg hf]
theorem flatMap_filter_len (R : Pl → List Rd) (c : Pl → Bool) : ∀ K : List Pl, ((K.filter c).flatMap R).length ≤ (K.map fun q => (R q).length).sum
  | [] => by simp
  | q :: K => by
    have ih := flatMap_filter_len R c K
    rw [List.filter_cons]
    split
    · simp only [List.flatMap_cons, List.length_append, List.map_cons, List.sum_cons]; omega
    · simp only [List.map_cons, List.sum_cons]; omega
theorem ofP_len {S : St} (h : InvK S) (t : Int) : ((ofP S t).length : Int) ≤ S.n := by
  rw [h.sum]
  have := flatMap_filter_len S.R (fun q => q.1 == t) S.K
  unfold ofP
  omega
def ReCQ (base : Nat) (l : Loc) (S : Sm St) (r : (Int × Int) × Sm St) (w : World) (e : Ending) (w' : World) : Prop := e = .returned (.tuple #[.int .i64 r.1.1, .int .i64 r.1.2]) ∧ StQ base l S r.2 w w'
set_option maxHeartbeats 32000000 in
set_option maxRecDepth 100000 in
theorem Commit_s (base : Nat) (l : Loc) (S : Sm St) (tx : Int) (w : World) (K N : Int) (h : Pm w base l S) (hC : Cap S K N) (hx : okN tx) (hF : ∀ k, l.F k → k < w.heap.size) (hK : K ≤ 2305843009213693951) (hN : N ≤ 2305843009213693951) :
    Calls Tryz.prog 16 #[ptr l.p, .int .i64 tx] w (ReCQ base l S (S.commit (iS S.caps.reads) tx) w) := by
  have A := active_s base l S tx w h hx
  cases hv : S.actv tx with
  | none =>
    rw [hv] at A
    unfold actV at A
    have e : S.commit (iS S.caps.reads) tx = ((0, 101), S) := by unfold Sm.commit; rw [hv]
    rw [e]
    replace h := Aside0.mk h
    clear hC hv e hF
    go_enter Tryz.func16, Tryz.ntmps16
    go_wp2_with fail
    refine A.mono ?_
    rintro e w' ⟨rfl, rfl⟩
    go_wp2
    go_ret2
    exact ⟨rfl, l, rfl, rfl, h.out, Fr.refl _ _, fun k hk => .inl hk⟩
  | some t =>
    rw [hv] at A
    unfold actV at A
    dsimp only at A
    obtain ⟨ht, hn, hact⟩ := actv_mem hv
    subst hn
    obtain ⟨hk, k1, k2, k3, k4, k5, k6, k7, k8, k9, k10, k11, k12⟩ := h.kinds
    obtain ⟨q1, _⟩ := hk t ht
    obtain ⟨vt, hvt, _⟩ := h.tx t ht
    obtain ⟨_, _, _, _, _, t5, t6, _⟩ := tx_cells hvt
    have hfew := hC.few
    have hnow := hC.now
    have hclk := hC.clock
    have hlk := hC.lck4
    have hactle : S.acts ≤ S.txs.length := List.length_filter_le _ _
    have hact1 : 1 ≤ S.acts := List.length_pos_iff_exists_mem.2 ⟨t, List.mem_filter.2 ⟨ht, hact⟩⟩
    have hhl := held_len S.locks t.num
    have hE : (S.ends t.num).now = if (Lck.heldOf S.locks t.num).length = 0 then S.now else S.now + 1 := by
      show (if heldOf S.locks t.num = [] then S.now else S.now + 1) = _
      by_cases e : heldOf S.locks t.num = []
      · rw [if_pos e, if_pos ((held_nil _ _).2 e)]
      · rw [if_neg e, if_neg (fun h => e ((held_nil _ _).1 h))]
    have hol : ∀ (S' : Sm St), S'.reads = S.reads → (decide (0 < (srtC cmpRd (ofP S.reads t.num)).length) = true ↔ (iS S.caps.reads).has S'.reads t.num = true) := fun S' e => by
      rw [e, (srtC_perm _).length_eq, decide_eq_true_iff]
      show _ ↔ (!(ofP S.reads t.num).isEmpty) = true
      cases ofP S.reads t.num <;> simp
    have hob : (srtC cmpRd (ofP S.reads t.num)).length ≤ 65536 := by
      obtain ⟨_, hI, hn, h3, h4⟩ := h.reads
      rw [(srtC_perm _).length_eq]
      have := ofP_len hI t.num
      omega
    -- what lies
    have BOTH : (t.fin && t.fout) = true → Calls Tryz.prog 43 #[ptr l.p, ptr (l.Q t.num)] w fun e w' => e = .returned (.tuple #[]) ∧ ((0, 100) = (S.commit (iS S.caps.reads) t.num).1 ∧ StQ base l S (S.commit (iS S.caps.reads) t.num).2 w w') := fun hb => by
      rw [commit_both hv hb]
      refine (gone_s base l S t w h ht hlk).mono ?_
      rintro e w' ⟨rfl, h1, h2⟩
      exact ⟨rfl, rfl, l, rfl, rfl, h1, h2.mono (fun k hk _ => own4_own k hk), own_sub (gone_nums S _)⟩
    have AC : Calls Tryz.prog 26 #[ptr l.p] w fun e w2 => ∃ A c, e = .returned (.slice A S.acts c) ∧ Below w.heap.size w w2 := (act_ask base l S w h w (Below.refl _ w))
    have C2 : ∀ W, Below w.heap.size w W → W.cell? ⟨l.p, 8, none⟩ = some (ptr l.lp) := fun W B => (h.below B).cells.2.2.2.2.2.2.2.2.1
    let H3 : Option Addr → Nat → World → Prop := fun A c W => Below w.heap.size w W ∧ Lo Lck.cellsL 2 23 W w.heap.size (.slice A (Lck.heldOf S.locks t.num).length c) (Lck.heldOf S.locks t.num)
    have HE : ∀ W, Below w.heap.size w W → Calls Tryz.prog 51 #[ptr l.lp, .int .i64 t.num] W fun e w3 => ∃ A c, e = .returned (.slice A (Lck.heldOf S.locks t.num).length c) ∧ H3 A c w3 := fun W B => by
      refine (Lck.Held_calls l.lp l.lb S.caps.locks S.locks t.num W (h.below B).locks hlk).mono ?_
      rintro e w3 ⟨v, rfl, hv3, B3⟩
      have hL := (Lo.ofR hv3 : Lo Lck.cellsL 2 23 w3 W.heap.size v _)
      obtain ⟨A3, c3, rfl, _⟩ := hL.slice
      exact ⟨A3, c3, rfl, below_then B B.size B3, hL.lower B.size⟩
    have C3 : ∀ A c W, H3 A c W → W.heap[l.p]? = some (hdC S.caps.active S.caps.kept S.caps.reads S.caps.locks S.now S.last S.clock l.mb l.lp l.rp) ∧ W.heap[l.Q t.num]? = some (txC t.num t.snap t.act t.begun t.ended t.fin t.fout vt) := fun A c W ⟨B, _⟩ => ⟨(h.below B).head, (B.block _ (Array.getElem?_eq_some_iff.1 hvt).1).trans hvt⟩
    have OF : ∀ A c W, H3 A c W → Calls Tryz.prog 52 #[ptr l.rp, .int .i64 t.num] W fun e w4 => ∃ A' c', e = .returned (.slice A' (srtC cmpRd (ofP S.reads t.num)).length c') ∧ H3 A c w4 := fun A c W ⟨B, hL⟩ => by
      refine (Of_S base l.rp l.rb S.caps.reads S.reads t.num W (h.below B).reads).mono ?_
      rintro e w4 ⟨v, rfl, hv4, B4⟩
      obtain ⟨A4, c4, rfl, _⟩ := (Lo.ofR hv4 : Lo _ _ _ _ _ _ _).slice
      exact ⟨A4, c4, rfl, below_then B B.size B4, hL.grown (grown_of_below B4 none) (by simp)⟩
    have D3 : ∀ A c W n, H3 A c W → H3 A c (W.drewN n) := fun A c W n ⟨B, hL⟩ => ⟨below_then B B.size (drewB2 W n), hL.grown (drewNG W n) (by simp)⟩
    have LEN : ∀ A c W, H3 A c W → (Builtin.len_ #[86] 3 #[.map (some l.mb)]).run Tryz.prog W = .ok (.int .i64 (S.txs.length : Int)) W := fun A c W ⟨B, _⟩ => by
      have := Tab.len (t := 86) Tryz.underlying86 (h.below B).tab 3
      unfold txL at this
      rw [List.length_map] at this
      exact this
    have GONE : ∀ A c W, H3 A c W → Calls Tryz.prog 43 #[ptr l.p, ptr (l.Q t.num)] W fun e w' => e = .returned (.tuple #[]) ∧ StQ base l S (S.gone (iS S.caps.reads) t.num) w w' := fun A c W ⟨B, _⟩ => by
      refine (gone_s base l S t W (h.below B) ht hlk).mono ?_
      rintro e w' ⟨rfl, h1, h2⟩
      exact ⟨rfl, l, rfl, rfl, h1, ((Fr.ofBelow (O := own4 l) B).trans h2 (fun k hk _ => hk)).mono (fun k hk _ => own4_own k hk), own_sub (gone_nums S _)⟩
    have hends : ∀ now', (S.ends t.num).now = now' → ({ ({ S with now := now', clock := S.clock + 1, txs := S.txs.map (fun o => if o.num == t.num then { o with act := false, ended := S.clock + 1, wrote := heldOf S.locks t.num } else o) } : Sm St) with locks := S.locks.filter (fun p => p.2 != t.num) } : Sm St) = S.ends t.num := fun now' e => by
      rw [← e]
      rfl
    let H6 : World → Prop := fun W => Pm W base l (S.ends t.num) ∧ Fr (l.own S.txs) w W
    let H7 : World → Prop := fun W => Pm W base l { S.ends t.num with reads := (dropP S.reads t.num).2 } ∧ Fr (l.own S.txs) w W
    let H8 : World → Prop := fun W => Pm W base l { S.ends t.num with reads := (dropP S.reads t.num).2, txs := (S.ends t.num).txs.filter (fun o => o.num != t.num) } ∧ Fr (l.own S.txs) w W
    have RELc : ∀ now' A c W X W5, (S.ends t.num).now = now' → H3 A c W → W.grownBy X (some l.p) → X.heap[l.p]? = some (hdCells { S with now := now', clock := S.clock + 1 } l.mb l.lp l.rp) →
        W5 = ((X.setCell ⟨l.Q t.num, 2, none⟩ (.bool false)).setCell ⟨l.Q t.num, 4, none⟩ (.int .i64 (S.clock + 1))).setCell ⟨l.Q t.num, 7, none⟩ (.slice A (Lck.heldOf S.locks t.num).length c) →
        W5.cell? ⟨l.p, 8, none⟩ = some (ptr l.lp) ∧ Calls Tryz.prog 53 #[ptr l.lp, .int .i64 t.num] W5 fun e w6 => ∃ k, e = .returned (.int .i64 k) ∧ H6 w6 := fun now' A c W X W5 en ⟨B, hL⟩ GX hX hW5 => by
      obtain ⟨P5, F5⟩ := commit_set h K N hC ht hF B hL GX hX hW5
      refine ⟨P5.cells.2.2.2.2.2.2.2.2.1, ?_⟩
      refine (commit_rel t.num P5 hlk).mono ?_
      rintro e w6 ⟨k, rfl, P6, F6⟩
      refine ⟨k, rfl, by rw [← hends now' en]; exact P6, ?_⟩
      exact (F5.mono (O2 := l.own S.txs) (fun k hk _ => by rcases hk with e | e; exact .inl e; exact .inr (.inr (.inr (.inr (.inr ⟨t, ht, e⟩)))))).trans F6 (fun k hk _ => .inr (.inr (.inl hk)))
    have C6 : ∀ W, H6 W → W.cell? ⟨l.p, 9, none⟩ = some (ptr l.rp) := fun W ⟨P, _⟩ => P.cells.2.2.2.2.2.2.2.2.2
    have DRP : ∀ W, H6 W → Calls Tryz.prog 54 #[ptr l.rp, .int .i64 t.num] W fun e w7 => ∃ k, e = .returned (.int .i64 k) ∧ H7 w7 := fun W ⟨P, F⟩ => by
      refine (commit_drop t.num P).mono ?_
      rintro e w7 ⟨k, rfl, P7, F7⟩
      exact ⟨k, rfl, P7, F.trans F7 (fun k hk _ => by rcases hk with e | e; exact .inr (.inr (.inr (.inl e))); exact .inr (.inr (.inr (.inr (.inl e)))))⟩
    have DEL : ∀ W, H7 W → W.cell? ⟨l.p, 7, none⟩ = some (.map (some l.mb)) ∧ ∃ w8, (Builtin.delete_ #[86, 2] 0 #[.map (some l.mb), .int .i64 t.num]).run Tryz.prog W = .ok (.tuple #[]) w8 ∧ H8 w8 := fun W ⟨P, F⟩ => by
      obtain ⟨w8, hd, P8, F8⟩ := commit_del hx P
      exact ⟨P.cells.2.2.2.2.2.2.2.1, w8, hd, P8, F.trans F8 (fun k hk _ => .inr (.inl hk))⟩
    have FGc : ∀ S' W, S'.caps = S.caps → Pm W base l S' → Fr (l.own S.txs) w W → Calls Tryz.prog 55 #[ptr l.p] W fun e w' => e = .returned (.tuple #[]) ∧ Pm w' base l (S'.forget (iS S.caps.reads)) ∧ Fr (l.own S.txs) w w' := fun S' W e P F => by
      refine (forget_s base l S' W P).mono ?_
      rintro e2 w' ⟨rfl, h1, h2⟩
      rw [e] at h1
      exact ⟨rfl, h1, F.trans h2 (fun k hk _ => by rcases hk with e | e | e; exact .inr (.inl e); exact .inr (.inr (.inr (.inl e))); exact .inr (.inr (.inr (.inr (.inl e)))))⟩
    let R : Sm St := Sm.forget (iS S.caps.reads) (if S.acts = 1 ∨ ¬ (heldOf S.locks t.num ≠ [] ∨ (iS S.caps.reads).has S.reads t.num = true) then { S.ends t.num with reads := (iS S.caps.reads).drop S.reads t.num, txs := (S.ends t.num).txs.filter (fun o => o.num != t.num) } else S.ends t.num)
    let H9 : World → Prop := fun W => Pm W base l R ∧ Fr (l.own S.txs) w W
    have hRn : R.now = (S.ends t.num).now := by
      show (Sm.forget (iS S.caps.reads) _).now = _
      unfold Sm.forget
      dsimp only
      split <;> rfl
    have C9 : ∀ W, H9 W → W.cell? ⟨l.p, 4, none⟩ = some (.int .i64 (S.ends t.num).now) := fun W ⟨P, _⟩ => by
      have := P.cells.2.2.2.2.1
      rw [hRn] at this
      exact this
    have FG6 : ¬ (S.acts = 1 ∨ ¬ (heldOf S.locks t.num ≠ [] ∨ (iS S.caps.reads).has S.reads t.num = true)) → ∀ W, H6 W → Calls Tryz.prog 55 #[ptr l.p] W fun e w' => e = .returned (.tuple #[]) ∧ H9 w' := fun hc W ⟨P, F⟩ => by
      have e : R = Sm.forget (iS S.caps.reads) (S.ends t.num) := by show Sm.forget _ _ = _; rw [if_neg hc]
      show Calls Tryz.prog 55 #[ptr l.p] W fun e w' => e = .returned (.tuple #[]) ∧ Pm w' base l R ∧ Fr (l.own S.txs) w w'
      rw [e]
      exact FGc _ W rfl P F
    have FG8 : (S.acts = 1 ∨ ¬ (heldOf S.locks t.num ≠ [] ∨ (iS S.caps.reads).has S.reads t.num = true)) → ∀ W, H8 W → Calls Tryz.prog 55 #[ptr l.p] W fun e w' => e = .returned (.tuple #[]) ∧ H9 w' := fun hc W ⟨P, F⟩ => by
      have e : R = Sm.forget (iS S.caps.reads) { S.ends t.num with reads := (dropP S.reads t.num).2, txs := (S.ends t.num).txs.filter (fun o => o.num != t.num) } := by show Sm.forget _ _ = _; rw [if_pos hc]; rfl
      show Calls Tryz.prog 55 #[ptr l.p] W fun e w' => e = .returned (.tuple #[]) ∧ Pm w' base l R ∧ Fr (l.own S.txs) w w'
      rw [e]
      exact FGc _ W rfl P F
    have ENDc : (t.fin && t.fout) = false → ¬ (1 < S.acts ∧ (heldOf S.locks t.num ≠ [] ∨ (iS S.caps.reads).has S.reads t.num = true) ∧ S.caps.kept ≤ (S.txs.length : Int) - S.acts) → ∀ W, H9 W → (((S.ends t.num).now, 0) : Int × Int) = (S.commit (iS S.caps.reads) t.num).1 ∧ StQ base l S (S.commit (iS S.caps.reads) t.num).2 w W := fun hb hf W ⟨P, F⟩ => by
      rw [commit_go hv hb hf]
      refine ⟨rfl, l, rfl, rfl, P, F, own_sub ?_⟩
      have := commit_nums (I := iS S.caps.reads) S t.num
      rw [commit_go hv hb hf] at this
      exact this
    have FULLc : (t.fin && t.fout) = false → 1 < S.acts → (heldOf S.locks t.num ≠ [] ∨ (iS S.caps.reads).has S.reads t.num = true) → S.caps.kept ≤ (S.txs.length : Int) - S.acts → ∀ A c W, H3 A c W → Calls Tryz.prog 43 #[ptr l.p, ptr (l.Q t.num)] W fun e w' => e = .returned (.tuple #[]) ∧ ((0, 4) : Int × Int) = (S.commit (iS S.caps.reads) t.num).1 ∧ StQ base l S (S.commit (iS S.caps.reads) t.num).2 w w' := fun hb h1 h2 h3 A c W hW => by
      rw [commit_full hv hb ⟨h1, h2, h3⟩]
      refine (GONE A c W hW).mono ?_
      rintro e w' ⟨rfl, hS⟩
      exact ⟨rfl, rfl, hS⟩
    have hqp : l.p ≠ l.Q t.num := fun e => q1 e.symm
    have FIN : ∀ e w', (∃ x y, e = .returned (.tuple #[.int .i64 x, .int .i64 y]) ∧ ((x, y) : Int × Int) = (S.commit (iS S.caps.reads) t.num).1 ∧ StQ base l S (S.commit (iS S.caps.reads) t.num).2 w w') → ReCQ base l S (S.commit (iS S.caps.reads) t.num) w e w' := fun e w' ⟨x, y, h1, h2, h3⟩ => by
      refine ⟨?_, h3⟩
      rw [h1, ← h2]
    have hh := held_nil S.locks t.num
    by_cases hz : (Lck.heldOf S.locks t.num).length = 0
    · have hhe : heldOf S.locks t.num = [] := hh.1 hz
      have hn : (S.ends t.num).now = S.now := by rw [hE, if_pos hz]
      have htr : ∀ b : Bool, (decide (0 < (srtC cmpRd (ofP S.reads t.num)).length) = b) → ((heldOf S.locks t.num ≠ [] ∨ (iS S.caps.reads).has S.reads t.num = true) ↔ b = true) := fun b e => by
        rw [← e, hol S rfl]
        exact ⟨fun h => by rcases h with h | h; exact absurd hhe h; exact h, .inr⟩
      rw [hn] at C9 ENDc
      refine Calls.mono ?_ FIN
      refine Commit_walk2 l.p l.mb l.lp l.rp (l.Q t.num) S.acts S.txs.length (srtC cmpRd (ofP S.reads t.num)).length t.num S.caps.active S.caps.kept S.caps.reads S.caps.locks S.now S.last S.clock t.num t.snap t.begun t.ended t.act t.fin t.fout _ vt w
        (fun x y W => ((x, y) : Int × Int) = (S.commit (iS S.caps.reads) t.num).1 ∧ StQ base l S (S.commit (iS S.caps.reads) t.num).2 w W) (fun W => Below w.heap.size w W) H3 H6 H7 H8 H9 hqp (by omega) (by omega) (by omega) (by omega) (by omega) (by omega) rfl A t5 t6 BOTH AC C2 ?_ C3 OF D3 LEN ?_ ?_ C6 DRP DEL ?_ ?_ C9 ?_
      · rw [hz] at HE
        exact HE
      · exact fun hb h1 h2 h3 => FULLc hb h1 ((htr _ rfl).2 h2) h3
      · intro A3 c3 W hW W5 hW5
        rw [← hz] at hW5
        exact RELc S.now A3 c3 W _ W5 hn hW (grown_set _ _ _ _) (by rw [blk_set (C3 A3 c3 W hW).1 6 _]; rfl) hW5
      · exact fun hc => FG6 (fun h => hc (by rcases h with h | h; exact .inl h; exact .inr (by cases hd : decide (0 < (srtC cmpRd (ofP S.reads t.num)).length) with | false => rfl | true => exact absurd ((htr _ hd).2 rfl) h)))
      · exact fun hc => FG8 (by rcases hc with h | h; exact .inl h; exact .inr (fun h2 => by have h3 := (htr _ h).1 h2; cases h3))
      · exact fun hb hf => ENDc hb (fun ⟨h1, h2, h3⟩ => hf ⟨h1, (htr _ rfl).1 h2, h3⟩)
    · have hhe : heldOf S.locks t.num ≠ [] := fun e => hz (hh.2 e)
      have hn : (S.ends t.num).now = S.now + 1 := by rw [hE, if_neg hz]
      rw [hn] at C9 ENDc
      refine Calls.mono ?_ FIN
      refine Commit_walk1 l.p l.mb l.lp l.rp (l.Q t.num) S.acts S.txs.length (Lck.heldOf S.locks t.num).length (srtC cmpRd (ofP S.reads t.num)).length t.num S.caps.active S.caps.kept S.caps.reads S.caps.locks S.now S.last S.clock t.num t.snap t.begun t.ended t.act t.fin t.fout _ vt w
        (fun x y W => ((x, y) : Int × Int) = (S.commit (iS S.caps.reads) t.num).1 ∧ StQ base l S (S.commit (iS S.caps.reads) t.num).2 w W) (fun W => Below w.heap.size w W) H3 H6 H7 H8 H9 hqp (by omega) (by omega) (by omega) (by omega) (by omega) (by omega) (by omega) rfl A t5 t6 BOTH AC C2 HE C3 OF D3 LEN ?_ ?_ C6 DRP DEL ?_ ?_ C9 ?_
      · exact fun hb h1 _ h3 => FULLc hb h1 (.inl hhe) h3
      · intro A3 c3 W hW W5 hW5
        exact RELc (S.now + 1) A3 c3 W _ W5 hn hW (trans_grown (grown_set _ _ _ _) (grown_set _ _ _ _)) (by rw [blk_set (blk_set (C3 A3 c3 W hW).1 4 _) 6 _]; rfl) hW5
      · exact fun hc => FG6 (fun h => hc (by rcases h with h | h; exact .inl h; exact absurd (.inl hhe) h))
      · exact fun hc => FG8 (by rcases hc with h | h; exact .inl h; cases h)
      · exact fun hb hf => ENDc hb (fun ⟨h1, h2, h3⟩ => hf ⟨h1, rfl, h3⟩)
end Go.Proofs.YthaoedfalkebbaaGreat
