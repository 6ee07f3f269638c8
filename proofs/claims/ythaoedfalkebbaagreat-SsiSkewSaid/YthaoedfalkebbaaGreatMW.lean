import Derived.Test.YthaoedfalkebbaaGreatMG
import Derived.Test.YthaoedfalkebbaaGreatMV
namespace Go.Proofs.YthaoedfalkebbaaGreat
set_option linter.unusedVariables false
set_option linter.unusedSectionVars false
set_option linter.unusedSimpArgs false
/-! ### write skew -/
section
variable {ρ : Type} {I : RdI ρ} {ok : ρ → Prop} {most : Int}
def skC : Cp := ⟨64, 1024, 65536, 4096⟩
def skX : Tx := ⟨1, 0, true, 1, 0, false, false, []⟩
def skY : Tx := ⟨2, 0, true, 2, 0, false, false, []⟩
def sk2 (r : ρ) : Sm ρ := ⟨skC, 0, 2, 2, [skX, skY], [], r⟩
theorem sk_begin (r : ρ) : (Sm.begin (⟨skC, 0, 0, 0, [], [], r⟩ : Sm ρ)).1 = (1, 0, 0) ∧ (Sm.begin (Sm.begin (⟨skC, 0, 0, 0, [], [], r⟩ : Sm ρ)).2).1 = (2, 0, 0) ∧ (Sm.begin (Sm.begin (⟨skC, 0, 0, 0, [], [], r⟩ : Sm ρ)).2).2 = sk2 r := ⟨rfl, rfl, rfl⟩
theorem sk_wrote (r : ρ) (x : Rd) (f u : ByteArray) : ∀ o ∈ (sk2 r).txs, wroteB (sk2 r).locks o x.t f u = false := by
  intro o ho
  rcases List.mem_cons.1 ho with rfl | ho
  · rfl
  · rw [List.mem_singleton.1 ho]; rfl
theorem sk_read1 (r : ρ) (b : Lk) (h : (I.note r 1 ⟨b.1, 1, b.2, ⟨#[]⟩⟩).1 = 0) : (sk2 r).read I 1 b = (0, sk2 (I.note r 1 ⟨b.1, 1, b.2, ⟨#[]⟩⟩).2) := by
  unfold Sm.read
  have e : (sk2 r).actv 1 = some skX := rfl
  rw [e]
  dsimp only
  rw [if_neg (by simp [sk2, holder])]
  unfold Sm.noteS
  rw [if_neg (by exact fun h2 => h2 h)]
  exact put_nil (I := I) (sk2 (I.note r 1 ⟨b.1, 1, b.2, ⟨#[]⟩⟩).2) skX true (.inl rfl) _ (sk_wrote _ _ _ _)
theorem sk_read2 (r : ρ) (b : Lk) (h : (I.note r 2 ⟨b.1, 1, b.2, ⟨#[]⟩⟩).1 = 0) : (sk2 r).read I 2 b = (0, sk2 (I.note r 2 ⟨b.1, 1, b.2, ⟨#[]⟩⟩).2) := by
  unfold Sm.read
  have e : (sk2 r).actv 2 = some skY := rfl
  rw [e]
  dsimp only
  rw [if_neg (by simp [sk2, holder])]
  unfold Sm.noteS
  rw [if_neg (by exact fun h2 => h2 h)]
  exact put_nil (I := I) (sk2 (I.note r 2 ⟨b.1, 1, b.2, ⟨#[]⟩⟩).2) skY true (.inl rfl) _ (sk_wrote _ _ _ _)
theorem sk_none (r : ρ) (n : Int) (h1 : n ≠ 1) (h2 : n ≠ 2) : (sk2 r).actv n = none := by
  unfold Sm.actv
  rw [List.find?_eq_none]
  intro t ht hp
  simp only [Bool.and_eq_true, beq_iff_eq] at hp
  rcases List.mem_cons.1 ht with rfl | ht
  · exact h1 hp.1.symm
  · rw [List.mem_singleton.1 ht] at hp
    exact h2 hp.1.symm
theorem sk_other (r : ρ) (n : Int) (h1 : n ≠ 1) (h2 : n ≠ 2) (a : Lk) (last : Int) : (sk2 r).read I n a = (101, sk2 r) ∧ (sk2 r).write I n a last = (101, sk2 r) := by
  unfold Sm.read Sm.write
  rw [sk_none r n h1 h2]
  exact ⟨rfl, rfl⟩
def sk5 (r : ρ) (a : Lk) : Sm ρ := ⟨skC, 0, 2, 2, [{ skX with fin := true }, { skY with fout := true }], [(a, 1)], r⟩
theorem sk_write (r : ρ) (a : Lk) (h : (2 : Int) ∈ I.rdrs r a.1 a.2) : (sk2 r).write I 1 a 0 = (0, sk5 r a) := by
  unfold Sm.write
  have e : (sk2 r).actv 1 = some skX := rfl
  rw [e]
  dsimp only
  rw [if_neg (by decide), if_neg (by simp [sk2, holder])]
  have e2 : tk (sk2 r).caps.locks (sk2 r).locks 1 skX.snap 0 a = (0, [(a, 1)]) := rfl
  rw [e2]
  dsimp only
  rw [if_neg (by simp)]
  have e3 : (sk2 r).txs.any (fun o => concB skX o && (!o.act && decide (a ∈ o.wrote))) = false := rfl
  rw [if_neg (by rw [e3]; decide)]
  have hs : decide ((2 : Int) ∈ I.rdrs r a.1 a.2) = true := decide_eq_true h
  unfold Sm.put
  simp only [sk2, skX, skY, List.any_cons, List.any_nil, List.map_cons, List.map_nil, concB, bothB, setF, hs, sk5]
  simp
  exact hs
theorem sk_commit (r : ρ) (a : Lk) : (sk5 r a).commit I 1 = ((1, 0), ⟨skC, 1, 2, 3, [{ skX with fin := true, act := false, ended := 3, wrote := [a] }, { skY with fout := true }], [], r⟩) := by
  unfold Sm.commit
  have e : (sk5 r a).actv 1 = some { skX with fin := true } := rfl
  rw [e]
  have hh : heldOf (sk5 r a).locks 1 = [a] := rfl
  have hacts : (sk5 r a).acts = 2 := rfl
  dsimp only
  rw [if_neg (by decide), hh, hacts]
  rw [if_neg (by rintro ⟨_, _, h⟩; exact absurd (show (1024 : Int) ≤ ((2 : Nat) : Int) - ((2 : Nat) : Int) from h) (by decide))]
  rw [if_neg (by rintro (h | h); exact absurd h (by decide); exact h (.inl (by simp)))]
  rfl
theorem sk_second (r : ρ) (a b : Lk) (hab : a ≠ b) (h : (1 : Int) ∈ I.rdrs r b.1 b.2) : ((⟨skC, 1, 2, 3, [{ skX with fin := true, act := false, ended := 3, wrote := [a] }, { skY with fout := true }], [], r⟩ : Sm ρ).write I 2 b 0).1 = 100 := by
  have hs : decide ((1 : Int) ∈ I.rdrs r b.1 b.2) = true := decide_eq_true h
  have hb : b ≠ a := fun e => hab e.symm
  unfold Sm.write
  have e : (⟨skC, 1, 2, 3, [{ skX with fin := true, act := false, ended := 3, wrote := [a] }, { skY with fout := true }], [], r⟩ : Sm ρ).actv 2 = some { skY with fout := true } := rfl
  rw [e]
  dsimp only
  rw [if_neg (by decide), if_neg (by simp [holder])]
  have e2 : tk skC.locks [] 2 skY.snap 0 b = (0, [(b, 2)]) := rfl
  rw [e2]
  dsimp only
  rw [if_neg (by simp)]
  rw [if_neg (by simp [skX, skY, concB, hb])]
  unfold Sm.put
  simp only [skX, skY, List.any_cons, List.any_nil, concB, bothB, hs]
  simp
theorem sk_third (r : ρ) (a b : Lk) (hab : a ≠ b) (h : (1 : Int) ∈ I.rdrs r b.1 b.2) : ((sk5 r a).write I 2 b 0).1 = 100 ∧ (((sk5 r a).write I 2 b 0).2.commit I 1).1.2 = 0 := by
  have hs : decide ((1 : Int) ∈ I.rdrs r b.1 b.2) = true := decide_eq_true h
  have key : (sk5 r a).write I 2 b 0 = (100, Sm.gone I { sk5 r a with locks := [(a, 1), (b, 2)] } 2) := by
    unfold Sm.write
    have e : (sk5 r a).actv 2 = some { skY with fout := true } := rfl
    rw [e]
    have hh : holder (sk5 r a).locks b = none := by simp [sk5, holder, hab]
    dsimp only
    rw [if_neg (by decide), hh, if_neg (by simp)]
    have e2 : tk (sk5 r a).caps.locks (sk5 r a).locks 2 skY.snap 0 b = (0, [(a, 1), (b, 2)]) := by
      unfold tk
      rw [hh]
      rfl
    rw [e2]
    dsimp only
    rw [if_neg (by simp)]
    rw [if_neg (by simp [sk5, skX, skY, concB])]
    unfold Sm.put
    have e3 : ({ sk5 r a with locks := [(a, 1), (b, 2)] } : Sm ρ).txs.any (fun o => concB { skY with fout := true } o && decide (o.num ∈ I.rdrs (sk5 r a).reads b.1 b.2)) = true := by
      simp only [sk5, skX, skY, List.any_cons, List.any_nil, concB, hs]
      simp
      exact hs
    rw [e3]
    rw [if_pos (by simp [bothB, skY])]
    rfl
  rw [key]
  refine ⟨rfl, ?_⟩
  have e5 : Sm.gone I { sk5 r a with locks := [(a, 1), (b, 2)] } 2 = ⟨skC, 0, 2, 2, [{ skX with fin := true }], [(a, 1)], I.drop r 2⟩ := rfl
  rw [e5]
  unfold Sm.commit
  have e : (⟨skC, 0, 2, 2, [{ skX with fin := true }], [(a, 1)], I.drop r 2⟩ : Sm ρ).actv 1 = some { skX with fin := true } := rfl
  rw [e]
  have hacts : (⟨skC, 0, 2, 2, [{ skX with fin := true }], [(a, 1)], I.drop r 2⟩ : Sm ρ).acts = 1 := rfl
  dsimp only
  rw [if_neg (by decide), hacts, if_neg (by rintro ⟨h, _⟩; exact absurd h (by decide))]
end
end Go.Proofs.YthaoedfalkebbaaGreat
namespace Go.Proofs.YthaoedfalkebbaaGreat
open Go.RowKit Go.Maps Go.Sort Go.Lib Go.Shelf Go.Proofs.YthaoedfalkebbaaGreatW.PrintWords Go.Proofs.YthaoedfalkebbaaGreatW.PrintLast Go.Proofs.YthaoedfalkebbaaGreatW.PrintMore
set_option linter.unusedVariables false
set_option linter.unusedSimpArgs false
set_option linter.unusedSectionVars false
/-! ### SsiSkew, walked -/
set_option maxHeartbeats 64000000 in
set_option maxRecDepth 100000 in
theorem Skew_walk (a b : Lk) (z : Scp) (sec : Bool) (w w1 : World) (H0 H1 H2 H3 H4 H5 H6 H7 H8 H9 : Nat → World → Prop) (hz : z.OK w) (hab : a ≠ b)
    (hw1 : w1 = (w.alloc (.cells #[.string a.1, .string a.2] 23)).alloc (.cells #[.string b.1, .string b.2] 23))
    (NEW : ∀ W, Below w1.heap.size w1 W → Calls Tryz.prog 12 #[.agg #[.int .i64 64, .int .i64 1024, .int .i64 65536, .int .i64 4096], .int .i64 0] W fun e W' => ∃ p, e = .returned (.tuple #[ptr p, .int .i64 0]) ∧ H0 p W')
    (BL : ∀ p W, (H0 p W ∨ H1 p W ∨ H2 p W ∨ H3 p W ∨ H4 p W ∨ H5 p W ∨ H6 p W ∨ H7 p W ∨ H8 p W ∨ H9 p W) → Below w1.heap.size w1 W)
    (BG1 : ∀ p W, H0 p W → Calls Tryz.prog 13 #[ptr p] W fun e W' => e = .returned (.tuple #[.int .i64 1, .int .i64 0, .int .i64 0]) ∧ H1 p W')
    (BG2 : ∀ p W, H1 p W → Calls Tryz.prog 13 #[ptr p] W fun e W' => e = .returned (.tuple #[.int .i64 2, .int .i64 0, .int .i64 0]) ∧ H2 p W')
    (RD1 : ∀ p W, H2 p W → ∀ n, Calls Tryz.prog 14 #[ptr p, .int .i64 1, .agg #[.string b.1, .string b.2]] (W.drewN n) fun e W' => e = .returned (.int .i64 0) ∧ H3 p W')
    (RD2 : ∀ p W, H3 p W → Calls Tryz.prog 14 #[ptr p, .int .i64 2, .agg #[.string a.1, .string a.2]] W fun e W' => e = .returned (.int .i64 0) ∧ H4 p W')
    (D4 : ∀ p W W', H4 p W → Below W.heap.size W W' → H4 p W')
    (OW : ∀ p W tx (c : Lk), H4 p W → tx ≠ 1 → tx ≠ 2 → okN tx → LkOK c → Calls Tryz.prog 15 #[ptr p, .int .i64 tx, .agg #[.string c.1, .string c.2], .int .i64 0] W fun e W' => ∃ k, e = .returned (.int .i64 k) ∧ H4 p W')
    (OR : ∀ p W tx (c : Lk), H4 p W → tx ≠ 1 → tx ≠ 2 → okN tx → LkOK c → Calls Tryz.prog 14 #[ptr p, .int .i64 tx, .agg #[.string c.1, .string c.2]] W fun e W' => ∃ k, e = .returned (.int .i64 k) ∧ H4 p W')
    (WX : ∀ p W, H4 p W → Calls Tryz.prog 15 #[ptr p, .int .i64 1, .agg #[.string a.1, .string a.2], .int .i64 0] W fun e W' => e = .returned (.int .i64 0) ∧ H5 p W')
    (CX : ∀ p W, H5 p W → Calls Tryz.prog 16 #[ptr p, .int .i64 1] W fun e W' => ∃ x, e = .returned (.tuple #[.int .i64 x, .int .i64 0]) ∧ H6 p W')
    (WY6 : ∀ p W, H6 p W → Calls Tryz.prog 15 #[ptr p, .int .i64 2, .agg #[.string b.1, .string b.2], .int .i64 0] W fun e W' => e = .returned (.int .i64 100) ∧ H7 p W')
    (WY5 : ∀ p W, H5 p W → Calls Tryz.prog 15 #[ptr p, .int .i64 2, .agg #[.string b.1, .string b.2], .int .i64 0] W fun e W' => e = .returned (.int .i64 100) ∧ H8 p W')
    (CX8 : ∀ p W, H8 p W → Calls Tryz.prog 16 #[ptr p, .int .i64 1] W fun e W' => ∃ x, e = .returned (.tuple #[.int .i64 x, .int .i64 0]) ∧ H9 p W') :
    Calls Tryz.prog 3 #[.agg #[.string a.1, .string a.2], .agg #[.string b.1, .string b.2], z.val, .bool sec] w fun e w' => e = .returned (.bool true) ∧ Below w.heap.size w w' := by
  have B1 : Below w.heap.size w w1 := by rw [hw1]; exact below_alloc ((Below.refl _ w).alloc (Nat.le_refl _) _) _
  have a0 : w1.cell? ⟨w.heap.size, 0, none⟩ = some (.string a.1) := by rw [hw1]; simp [go_sem]
  have a1 : w1.cell? ⟨w.heap.size, 1, none⟩ = some (.string a.2) := by rw [hw1]; simp [go_sem]
  have b0 : w1.cell? ⟨w.heap.size + 1, 0, none⟩ = some (.string b.1) := by rw [hw1]; simp [go_sem]
  have b1 : w1.cell? ⟨w.heap.size + 1, 1, none⟩ = some (.string b.2) := by rw [hw1]; simp [go_sem]
  obtain ⟨A, c, xs⟩ := z
  obtain ⟨hC, hops, hlen⟩ := hz
  unfold Scp.val
  dsimp only at hC hops hlen ⊢
  have hlen2 : xs.length ≤ 2000000000000 := by
    have : reachBytes = 140737488351232 := by decide
    omega
  have CEL : ∀ W, Below w1.heap.size w1 W → W.cell? ⟨w.heap.size, 0, none⟩ = some (.string a.1) ∧ W.cell? ⟨w.heap.size, 1, none⟩ = some (.string a.2) ∧ W.cell? ⟨w.heap.size + 1, 0, none⟩ = some (.string b.1) ∧ W.cell? ⟨w.heap.size + 1, 1, none⟩ = some (.string b.2) := fun W B => ⟨below_cell B a0, below_cell B a1, below_cell B b0, below_cell B b1⟩
  have FIN : ∀ W, Below w1.heap.size w1 W → Below w.heap.size w W := fun W B => below_then B1 B1.size B
  have eqk : ∀ W, (binOp .eql 23 (.agg #[.string a.1, .string a.2]) (.agg #[.string b.1, .string b.2])).run Tryz.prog W = .ok (.bool false) W := fun W => by
    rw [Lck.eqLk, decide_eq_false hab]
  clear hlen hab
  replace hC := Aside0.mk hC
  replace hops := Aside0.mk hops
  replace CEL := Aside0.mk CEL
  replace FIN := Aside0.mk FIN
  replace NEW := Aside0.mk NEW
  replace BL := Aside0.mk BL
  replace BG1 := Aside0.mk BG1
  replace BG2 := Aside0.mk BG2
  replace RD1 := Aside0.mk RD1
  replace RD2 := Aside0.mk RD2
  replace D4 := Aside0.mk D4
  replace OW := Aside0.mk OW
  replace OR := Aside0.mk OR
  replace WX := Aside0.mk WX
  replace CX := Aside0.mk CX
  replace WY6 := Aside0.mk WY6
  replace WY5 := Aside0.mk WY5
  replace CX8 := Aside0.mk CX8
  clear a0 a1 b0 b1
  go_enter Tryz.func3, Tryz.ntmps3
  go_upto_region 1 with (fail)
  rw [← hw1]
  clear hw1
  go_wp2_with fail
  refine (begun_calls w1).mono ?_
  rintro e w2 ⟨rfl, B2⟩
  have NW := NEW.out w2 B2
  go_wp2_with fail
  refine NW.mono ?_
  rintro e w3 ⟨p, rfl, K0⟩
  have Bw := BL.out p w3 (.inl K0)
  obtain ⟨a0, a1, b0, b1⟩ := CEL.out w3 Bw
  have BGa := BG1.out p w3 K0
  clear NW B2 Bw K0
  go_wp2_with fail
  refine BGa.mono ?_
  rintro e w4 ⟨rfl, K1⟩
  have BGb := BG2.out p w4 K1
  clear BGa K1 a0 a1 b0 b1
  go_wp2_with fail
  refine BGb.mono ?_
  rintro e w5 ⟨rfl, K2⟩
  have Bw := BL.out p w5 (.inr (.inr (.inl K2)))
  obtain ⟨a0, a1, b0, b1⟩ := CEL.out w5 Bw
  have RDa := RD1.out p w5 K2
  clear BGb K2 Bw
  go_wp2_with fail
  go_region_held3 (fun V => V.cell? ⟨w.heap.size, 0, none⟩ = some (.string a.1) ∧ V.cell? ⟨w.heap.size, 1, none⟩ = some (.string a.2) ∧ V.cell? ⟨w.heap.size + 1, 0, none⟩ = some (.string b.1) ∧ V.cell? ⟨w.heap.size + 1, 1, none⟩ = some (.string b.2)) (first | exact K6 | exact K5 | exact ⟨a0, a1, b0, b1⟩)
    (first | (go_at_call 14; refine RDb.mono ?_; rintro e w7 ⟨rfl, K4⟩; have K6 := CEL.out w7 (BL.out p w7 (.inr (.inr (.inr (.inr (.inl K4))))))) | (go_at_call 14; refine (RDa _).mono ?_; rintro e w6 ⟨rfl, K3⟩; have K5 := CEL.out w6 (BL.out p w6 (.inr (.inr (.inr (.inl K3))))); have RDb := RD2.out p w6 K3))
  clear RDa RDb a0 a1 b0 b1 K3 K5 K6
  go_wp2_with fail
  go_loopw [64] (fun vi wr => ∃ k : Nat, vi = .int .i64 k ∧ k ≤ xs.length ∧ H4 p wr) (fun vi _ => xs.length - (intOf vi).toNat)
  case atStart => exact ⟨0, rfl, Nat.zero_le _, K4⟩
  case round =>
    clear K4
    obtain ⟨k, rfl, hk, K4⟩ := hrel
    have Bw := BL.out p wr (.inr (.inr (.inr (.inr (.inl K4)))))
    obtain ⟨a0, a1, b0, b1⟩ := CEL.out wr Bw
    by_cases hlt : k < xs.length
    · have C := Kd.C_below hC.out (FIN.out wr Bw)
      obtain ⟨ad, rfl, q0, q1, q2, q3, q4, q5⟩ := opn_at C k hlt
      have hxo := hops.out _ (List.getElem_mem hlt)
      generalize xs[k] = o at q0 q1 q2 q3 q4 q5 hxo
      obtain ⟨W4, hW4⟩ : ∃ W4, W4 = wr.alloc (boxOn o) := ⟨_, rfl⟩
      unfold boxOn at hW4
      have B4 : Below wr.heap.size wr W4 := by rw [hW4]; exact (Below.refl _ wr).alloc (Nat.le_refl _) _
      have ob4 : W4.heap[wr.heap.size]? = some (boxOn o) := by rw [hW4]; exact heap_alloc_new wr _
      obtain ⟨r0, r1, r2, r3, r4, r5⟩ := opn_cells ob4
      have K4' := D4.out p wr W4 K4 B4
      have a0' := below_cell B4 a0
      have a1' := below_cell B4 a1
      have b0' := below_cell B4 b0
      have b1' := below_cell B4 b1
      have na : ∀ W, (binOp .neq 23 (.agg #[.string o.at_.1, .string o.at_.2]) (.agg #[.string a.1, .string a.2])).run Tryz.prog W = .ok (.bool (!decide (o.at_ = a))) W := fun W => Lck.neLk _ _ W
      have nb : ∀ W, (binOp .neq 23 (.agg #[.string o.at_.1, .string o.at_.2]) (.agg #[.string b.1, .string b.2])).run Tryz.prog W = .ok (.bool (!decide (o.at_ = b))) W := fun W => Lck.neLk _ _ W
      generalize (!decide (o.at_ = a)) = ba at na
      generalize (!decide (o.at_ = b)) = bb at nb
      have WRc : ¬ o.tx = 1 → ¬ o.tx = 2 → Calls Tryz.prog 15 #[ptr p, .int .i64 o.tx, .agg #[.string o.at_.1, .string o.at_.2], .int .i64 0] W4 fun e W' => ∃ k, e = .returned (.int .i64 k) ∧ H4 p W' := fun h1 h2 => OW.out p W4 o.tx o.at_ K4' h1 h2 hxo.tx hxo.at_
      have RDc : ¬ o.tx = 1 → ¬ o.tx = 2 → Calls Tryz.prog 14 #[ptr p, .int .i64 o.tx, .agg #[.string o.at_.1, .string o.at_.2]] W4 fun e W' => ∃ k, e = .returned (.int .i64 k) ∧ H4 p W' := fun h1 h2 => OR.out p W4 o.tx o.at_ K4' h1 h2 hxo.tx hxo.at_
      have NEXT : ∀ W, H4 p W → ∃ k' : Nat, Value.int .i64 ((k : Int) + 1) = .int .i64 k' ∧ k' ≤ xs.length ∧ H4 p W := fun W hW => ⟨k + 1, by push_cast; rfl, hlt, hW⟩
      replace WRc := Aside0.mk WRc
      replace RDc := Aside0.mk RDc
      replace K4' := Aside0.mk K4'
      clear ob4 B4 K4 C Bw hxo a0 a1 b0 b1
      go_upto_region 16 with (fail)
      rw [← hW4]
      clear hW4 q0 q1 q2 q3 q4 q5
      by_cases h1 : o.tx = 1
      · have e1 : (o.tx != 1) = false := by simpa using h1
        clear WRc RDc
        go_wp2
        all_goals exact ⟨NEXT _ K4'.out, by simp [intOf]; omega⟩
      · have e1 : (o.tx != 1) = true := by simpa using h1
        by_cases h2 : o.tx = 2
        · have e2 : (o.tx != 2) = false := by simpa using h2
          clear WRc RDc
          go_wp2
          all_goals exact ⟨NEXT _ K4'.out, by simp [intOf]; omega⟩
        · have e2 : (o.tx != 2) = true := by simpa using h2
          have WRd := WRc.out h1 h2
          have RDd := RDc.out h1 h2
          go_wp2_with (first | (go_at_call 15; refine WRd.mono ?_; rintro e W5 ⟨k5, rfl, K5⟩) | (go_at_call 14; refine RDd.mono ?_; rintro e W5 ⟨k5, rfl, K5⟩))
          all_goals first | exact ⟨NEXT _ K4'.out, by simp [intOf]; omega⟩ | exact ⟨NEXT _ K5, by simp [intOf]; omega⟩
    · have WXd := WX.out p wr K4
      clear K4 Bw
      cases sec with
      | true =>
        go_wp2_with fail
        refine WXd.mono ?_
        rintro e w8 ⟨rfl, K5⟩
        obtain ⟨a0, a1, b0, b1⟩ := CEL.out w8 (BL.out p w8 (.inr (.inr (.inr (.inr (.inr (.inl K5)))))))
        have CXd := CX.out p w8 K5
        clear WXd K5
        go_wp2_with fail
        refine CXd.mono ?_
        rintro e w9 ⟨x9, rfl, K6⟩
        obtain ⟨a0, a1, b0, b1⟩ := CEL.out w9 (BL.out p w9 (.inr (.inr (.inr (.inr (.inr (.inr (.inl K6))))))))
        have WYd := WY6.out p w9 K6
        clear CXd K6
        go_wp2_with fail
        refine WYd.mono ?_
        rintro e w10 ⟨rfl, K7⟩
        have FN := Aside0.mk (FIN.out w10 (BL.out p w10 (.inr (.inr (.inr (.inr (.inr (.inr (.inr (.inl K7))))))))))
        clear WYd K7
        go_wp2
        go_ret
        exact ⟨rfl, FN.out⟩
      | false =>
        go_wp2_with fail
        refine WXd.mono ?_
        rintro e w8 ⟨rfl, K5⟩
        obtain ⟨a0, a1, b0, b1⟩ := CEL.out w8 (BL.out p w8 (.inr (.inr (.inr (.inr (.inr (.inl K5)))))))
        have WYd := WY5.out p w8 K5
        clear WXd K5
        go_wp2_with fail
        refine WYd.mono ?_
        rintro e w9 ⟨rfl, K8⟩
        obtain ⟨a0, a1, b0, b1⟩ := CEL.out w9 (BL.out p w9 (.inr (.inr (.inr (.inr (.inr (.inr (.inr (.inr (.inl K8))))))))))
        have CXd := CX8.out p w9 K8
        clear WYd K8
        go_wp2_with fail
        refine CXd.mono ?_
        rintro e w10 ⟨x9, rfl, K9⟩
        have FN := Aside0.mk (FIN.out w10 (BL.out p w10 (.inr (.inr (.inr (.inr (.inr (.inr (.inr (.inr (.inr K9)))))))))))
        clear CXd K9
        go_wp2
        go_ret
        exact ⟨rfl, FN.out⟩
theorem noteP_room {S : St} {most t : Int} {x : Rd} (hn : S.n < most) (ht : 1 ≤ t) (hm : mayB x = true) : (noteP S most t x).1 = 0 ∧ (noteP S most t x).2.n ≤ S.n + 1 := by
  unfold noteP
  rw [if_neg (by rw [hm]; simp; omega)]
  split
  · exact ⟨rfl, by show S.n ≤ S.n + 1; omega⟩
  · have hl : (left (S.R (t, x.t)) x).length ≤ (S.R (t, x.t)).length + 1 := by
      unfold left
      rw [List.length_append]
      have := List.length_filter_le (fun y => !cov x y) (S.R (t, x.t))
      simp
      omega
    rw [coarseF_eq, if_pos (by omega)]
    exact ⟨rfl, by show S.n - ((S.R (t, x.t)).length : Int) + ((left (S.R (t, x.t)) x).length : Int) ≤ S.n + 1; omega⟩
def skR1 (b : Lk) : St := (noteP St0 65536 1 ⟨b.1, 1, b.2, ⟨#[]⟩⟩).2
def skR2 (a b : Lk) : St := (noteP (skR1 b) 65536 2 ⟨a.1, 1, a.2, ⟨#[]⟩⟩).2
theorem rdk_ok {a : Lk} (h : LkOK a) : (⟨a.1, 1, a.2, ⟨#[]⟩⟩ : Rd).OK := ⟨h.t, by show (Lit.int .i64 1).wf = true; decide, h.k, by show (0 : Nat) ≤ reachBytes; decide⟩
theorem rdk_may (a : Lk) : mayB ⟨a.1, 1, a.2, ⟨#[]⟩⟩ = true := by unfold mayB; simp
theorem rdk_hold (a : Lk) : holdB ⟨a.1, 1, a.2, ⟨#[]⟩⟩ a.2 = true := by unfold holdB; simp
theorem sk_notes {a b : Lk} (ha : LkOK a) (hb : LkOK b) : (noteP St0 65536 1 ⟨b.1, 1, b.2, ⟨#[]⟩⟩).1 = 0 ∧ (noteP (skR1 b) 65536 2 ⟨a.1, 1, a.2, ⟨#[]⟩⟩).1 = 0 ∧ (2 : Int) ∈ readP (skR2 a b) a.1 a.2 ∧ (1 : Int) ∈ readP (skR2 a b) b.1 b.2 := by
  obtain ⟨h1, h2⟩ := noteP_room (S := St0) (most := 65536) (t := 1) (x := ⟨b.1, 1, b.2, ⟨#[]⟩⟩) (by decide) (by decide) (rdk_may b)
  have h2' : (skR1 b).n ≤ 1 := h2
  obtain ⟨h3, h4⟩ := noteP_room (S := skR1 b) (most := 65536) (t := 2) (x := ⟨a.1, 1, a.2, ⟨#[]⟩⟩) (by omega) (by decide) (rdk_may a)
  have L := iT_law 65536
  have e1 : (iT 65536).note St0 1 ⟨b.1, 1, b.2, ⟨#[]⟩⟩ = noteP St0 65536 1 ⟨b.1, 1, b.2, ⟨#[]⟩⟩ := if_pos (rdk_ok hb)
  have e2 : (iT 65536).note (skR1 b) 2 ⟨a.1, 1, a.2, ⟨#[]⟩⟩ = noteP (skR1 b) 65536 2 ⟨a.1, 1, a.2, ⟨#[]⟩⟩ := if_pos (rdk_ok ha)
  have o0 : InvK St0 ∧ St0.n ≤ 65536 := ⟨InvK.empty, by decide⟩
  have o1 : InvK (skR1 b) ∧ (skR1 b).n ≤ 65536 := by
    have := L.note_ok St0 1 ⟨b.1, 1, b.2, ⟨#[]⟩⟩ o0
    rw [e1] at this
    exact this
  refine ⟨h1, h3, ?_, ?_⟩
  · have := L.note_new (skR1 b) 2 ⟨a.1, 1, a.2, ⟨#[]⟩⟩ a.2 o1 (by rw [e2]; exact h3) (rdk_hold a)
    rw [e2] at this
    exact this
  · have h5 := L.note_new St0 1 ⟨b.1, 1, b.2, ⟨#[]⟩⟩ b.2 o0 (by rw [e1]; exact h1) (rdk_hold b)
    rw [e1] at h5
    have := L.note_keep (skR1 b) 2 ⟨a.1, 1, a.2, ⟨#[]⟩⟩ b.1 b.2 1 o1 h5
    rw [e2] at this
    exact this
end Go.Proofs.YthaoedfalkebbaaGreat
namespace Go.Proofs.YthaoedfalkebbaaGreat
open Go.RowKit Go.Maps Go.Sort Go.Lib Go.Shelf Go.Proofs.YthaoedfalkebbaaGreatW.PrintWords Go.Proofs.YthaoedfalkebbaaGreatW.PrintLast Go.Proofs.YthaoedfalkebbaaGreatW.PrintMore
set_option linter.unusedVariables false
set_option linter.unusedSimpArgs false
set_option linter.unusedSectionVars false
/-! ### SsiSkew -/
section
variable {ρ : Type} {I : RdI ρ} {S : Sm ρ}
theorem put_caps (t : Tx) (so : Tx → Bool) (out : Bool) : (S.put I t so out).2.caps = S.caps := by
  unfold Sm.put
  split <;> rfl
theorem noteS_caps (t : Tx) (x : Rd) (f u : ByteArray) : (S.noteS I t x f u).2.caps = S.caps := by
  unfold Sm.noteS
  split
  · rfl
  · exact put_caps _ _ _
theorem read_caps (tx : Int) (a : Lk) : (S.read I tx a).2.caps = S.caps := by
  unfold Sm.read
  split
  · rfl
  · split
    · rfl
    · exact noteS_caps _ _ _ _
theorem scan_caps (tx : Int) (tb f u : ByteArray) : (S.scan I tx tb f u).2.caps = S.caps := by
  unfold Sm.scan
  split
  · rfl
  · split
    · rfl
    · exact noteS_caps _ _ _ _
theorem write_caps (tx : Int) (a : Lk) (last : Int) : (S.write I tx a last).2.caps = S.caps := by
  unfold Sm.write
  split
  · rfl
  · split
    · rfl
    · split
      · rfl
      · split
        · rfl
        · split
          · rfl
          · exact put_caps _ _ _
theorem abort_caps (tx : Int) : (S.abort I tx).2.caps = S.caps := by
  unfold Sm.abort
  split <;> rfl
theorem begin_caps : S.begin.2.caps = S.caps := by
  unfold Sm.begin
  split <;> rfl
theorem commit_caps (tx : Int) : (S.commit I tx).2.caps = S.caps := by
  unfold Sm.commit
  split
  · rfl
  · split
    · rfl
    · split
      · rfl
      · show (Sm.forget I _).caps = _
        unfold Sm.forget
        dsimp only
        split <;> rfl
end
set_option maxHeartbeats 16000000 in
set_option maxRecDepth 100000 in
theorem Skew_same (a : Lk) (z : Scp) (sec : Bool) (w : World) : Calls Tryz.prog 3 #[.agg #[.string a.1, .string a.2], .agg #[.string a.1, .string a.2], z.val, .bool sec] w fun e w' => e = .returned (.bool true) ∧ Below w.heap.size w w' := by
  obtain ⟨w1, hw1⟩ : ∃ w1, w1 = (w.alloc (.cells #[.string a.1, .string a.2] 23)).alloc (.cells #[.string a.1, .string a.2] 23) := ⟨_, rfl⟩
  have B1 : Below w.heap.size w w1 := by rw [hw1]; exact below_alloc ((Below.refl _ w).alloc (Nat.le_refl _) _) _
  have a0 : w1.cell? ⟨w.heap.size, 0, none⟩ = some (.string a.1) := by rw [hw1]; simp [go_sem]
  have a1 : w1.cell? ⟨w.heap.size, 1, none⟩ = some (.string a.2) := by rw [hw1]; simp [go_sem]
  have b0 : w1.cell? ⟨w.heap.size + 1, 0, none⟩ = some (.string a.1) := by rw [hw1]; simp [go_sem]
  have b1 : w1.cell? ⟨w.heap.size + 1, 1, none⟩ = some (.string a.2) := by rw [hw1]; simp [go_sem]
  have eqk : ∀ W, (binOp .eql 23 (.agg #[.string a.1, .string a.2]) (.agg #[.string a.1, .string a.2])).run Tryz.prog W = .ok (.bool true) W := fun W => by
    rw [Lck.eqLk, decide_eq_true rfl]
  have CEL : ∀ W, Below w1.heap.size w1 W → W.cell? ⟨w.heap.size, 0, none⟩ = some (.string a.1) ∧ W.cell? ⟨w.heap.size, 1, none⟩ = some (.string a.2) ∧ W.cell? ⟨w.heap.size + 1, 0, none⟩ = some (.string a.1) ∧ W.cell? ⟨w.heap.size + 1, 1, none⟩ = some (.string a.2) := fun W B => ⟨below_cell B a0, below_cell B a1, below_cell B b0, below_cell B b1⟩
  have NEW : ∀ W, Calls Tryz.prog 12 #[.agg #[.int .i64 64, .int .i64 1024, .int .i64 65536, .int .i64 4096], .int .i64 0] W fun e W' => ∃ p, e = .returned (.tuple #[ptr p, .int .i64 0]) ∧ Below W.heap.size W W' := fun W => by
    refine (New_s skC 0 W.heap.size (fun _ => False) W (Nat.le_refl _) (by decide) (by decide)).mono ?_
    rintro e W' ⟨l, rfl, _, h2, _⟩
    exact ⟨_, rfl, h2⟩
  replace CEL := Aside0.mk CEL
  replace NEW := Aside0.mk NEW
  unfold Scp.val
  clear a0 a1 b0 b1
  go_enter Tryz.func3, Tryz.ntmps3
  go_upto_region 1 with (fail)
  rw [← hw1]
  clear hw1
  go_wp2_with fail
  refine (begun_calls w1).mono ?_
  rintro e w2 ⟨rfl, B2⟩
  have NW := NEW.out w2
  go_wp2_with fail
  refine NW.mono ?_
  rintro e w3 ⟨p, rfl, B3⟩
  obtain ⟨a0, a1, b0, b1⟩ := CEL.out w3 (below_then B2 B2.size B3)
  have FN := Aside0.mk (below_then B1 B1.size (below_then B2 B2.size B3))
  clear NW B2 B3 B1
  go_wp2
  go_ret
  exact ⟨rfl, FN.out⟩
theorem sk_cap : Cap (S0 skC 0) 0 0 := Cap.start skC 0 (by decide) (by decide)
theorem sk_cap2 : Cap (sk2 St0) 2 0 := (sk_cap.begin).begin
theorem okN1 : okN 1 := by show (Lit.int .i64 1).wf = true; decide
theorem okN2 : okN 2 := by show (Lit.int .i64 2).wf = true; decide
theorem SsiSkew_calls (a b : Lk) (z : Scp) (sec : Bool) (w : World) (ha : LkOK a) (hb : LkOK b) (hz : z.OK w) : Calls Tryz.prog 3 #[.agg #[.string a.1, .string a.2], .agg #[.string b.1, .string b.2], z.val, .bool sec] w fun e w' => e = .returned (.bool true) ∧ Below w.heap.size w w' := by
  by_cases hab : a = b
  · subst hab
    exact Skew_same a z sec w
  · obtain ⟨w1, hw1⟩ : ∃ w1, w1 = (w.alloc (.cells #[.string a.1, .string a.2] 23)).alloc (.cells #[.string b.1, .string b.2] 23) := ⟨_, rfl⟩
    obtain ⟨n1, n2, m2, m1⟩ := sk_notes ha hb
    have c2 := sk_cap2
    have hr1 := sk_read1 (I := iS 65536) St0 b n1
    have hr2 := sk_read2 (I := iS 65536) (skR1 b) a n2
    have c3 : Cap (sk2 (skR1 b)) 2 0 := by have := c2.read (I := iS 65536) 1 b; rw [hr1] at this; exact this
    have c4 : Cap (sk2 (skR2 a b)) 2 0 := by have := c3.read (I := iS 65536) 2 a; rw [hr2] at this; exact this
    have hw := sk_write (I := iS 65536) (skR2 a b) a m2
    have c5 : Cap (sk5 (skR2 a b) a) 2 0 := by have := c4.write (I := iS 65536) 1 a 0; rw [hw] at this; exact this
    have hc := sk_commit (I := iS 65536) (skR2 a b) a
    have c6 := c5.commit (I := iS 65536) 1
    rw [hc] at c6
    have hs := sk_second (I := iS 65536) (skR2 a b) a b hab m1
    have ht := sk_third (I := iS 65536) (skR2 a b) a b hab m1
    have c8 := c5.write (I := iS 65536) 2 b 0
    let M : Sm St → Nat → World → Prop := fun S p W => Mgr w1.heap.size (fun _ => False) p S W ∧ Below w1.heap.size w1 W
    have go : ∀ {S S' : Sm St} {p : Nat} {W W' : World}, M S p W → Mgr w1.heap.size (fun _ => False) p S' W' → Keep w1.heap.size W W' → M S' p W' := fun h h2 h3 => ⟨h2, h.2.trans h3.below⟩
    refine Skew_walk a b z sec w w1 (M (S0 skC 0)) (M (S0 skC 0).begin.2) (M (sk2 St0)) (M (sk2 (skR1 b))) (M (sk2 (skR2 a b))) (M (sk5 (skR2 a b) a)) (M ((sk5 (skR2 a b) a).commit (iS 65536) 1).2) (fun _ W => Below w1.heap.size w1 W) (M ((sk5 (skR2 a b) a).write (iS 65536) 2 b 0).2) (fun _ W => Below w1.heap.size w1 W) hz hab hw1 ?_ ?_ ?_ ?_ ?_ ?_ ?_ ?_ ?_ ?_ ?_ ?_ ?_ ?_
    · intro W B
      refine (New_s skC 0 w1.heap.size (fun _ => False) W B.size (by decide) (by decide)).mono ?_
      rintro e W' ⟨l, rfl, h1, h2, _, h4⟩
      exact ⟨l.p, rfl, ⟨l, rfl, h4, h1⟩, below_then B B.size h2⟩
    · intro p W h
      rcases h with h | h | h | h | h | h | h | h | h | h
      all_goals first | exact h.2 | exact h
    · intro p W h
      refine (h.1.begin sk_cap (by decide)).mono ?_
      rintro e W' ⟨rfl, h1, h2⟩
      exact ⟨rfl, go h h1 h2⟩
    · intro p W h
      refine (h.1.begin sk_cap.begin (by decide)).mono ?_
      rintro e W' ⟨rfl, h1, h2⟩
      exact ⟨rfl, go h h1 h2⟩
    · intro p W h n
      have h' : M (sk2 St0) p (W.drewN n) := ⟨h.1.below (drewB2 W n), below_then h.2 h.2.size (drewB2 W n)⟩
      refine (h'.1.read c2 okN1 hb).mono ?_
      rintro e W' ⟨rfl, h1, h2⟩
      have h1 : Mgr w1.heap.size (fun _ => False) p ((sk2 St0).read (iS 65536) 1 b).2 W' := h1
      show _ = Ending.returned (.int .i64 0) ∧ _
      rw [hr1] at h1
      exact ⟨by show Ending.returned (.int .i64 ((sk2 St0).read (iS 65536) 1 b).1) = _; rw [hr1], go h' h1 h2⟩
    · intro p W h
      refine (h.1.read c3 okN2 ha).mono ?_
      rintro e W' ⟨rfl, h1, h2⟩
      have h1 : Mgr w1.heap.size (fun _ => False) p ((sk2 (skR1 b)).read (iS 65536) 2 a).2 W' := h1
      rw [hr2] at h1
      exact ⟨by show Ending.returned (.int .i64 ((sk2 (skR1 b)).read (iS 65536) 2 a).1) = _; rw [hr2], go h h1 h2⟩
    · exact fun p W W' h B => ⟨h.1.below B, below_then h.2 h.2.size B⟩
    · intro p W tx c h h1 h2 hx hcc
      have e := (sk_other (I := iS 65536) (skR2 a b) tx h1 h2 c 0).2
      refine (h.1.write c4 hx hcc 0).mono ?_
      rintro e2 W' ⟨rfl, g1, g2⟩
      have g1 : Mgr w1.heap.size (fun _ => False) p ((sk2 (skR2 a b)).write (iS 65536) tx c 0).2 W' := g1
      rw [e] at g1
      exact ⟨_, rfl, go h g1 g2⟩
    · intro p W tx c h h1 h2 hx hcc
      have e := (sk_other (I := iS 65536) (skR2 a b) tx h1 h2 c 0).1
      refine (h.1.read c4 hx hcc).mono ?_
      rintro e2 W' ⟨rfl, g1, g2⟩
      have g1 : Mgr w1.heap.size (fun _ => False) p ((sk2 (skR2 a b)).read (iS 65536) tx c).2 W' := g1
      rw [e] at g1
      exact ⟨_, rfl, go h g1 g2⟩
    · intro p W h
      refine (h.1.write c4 okN1 ha 0).mono ?_
      rintro e2 W' ⟨rfl, g1, g2⟩
      have g1 : Mgr w1.heap.size (fun _ => False) p ((sk2 (skR2 a b)).write (iS 65536) 1 a 0).2 W' := g1
      rw [hw] at g1
      exact ⟨by show Ending.returned (.int .i64 ((sk2 (skR2 a b)).write (iS 65536) 1 a 0).1) = _; rw [hw], go h g1 g2⟩
    · intro p W h
      refine (h.1.commit c5 okN1 (fun k hk => hk.elim) (by decide) (by decide)).mono ?_
      rintro e2 W' ⟨rfl, g1, g2⟩
      have e3 : ((sk5 (skR2 a b) a).commit (iS 65536) 1).1.2 = 0 := by rw [hc]
      exact ⟨_, by show Ending.returned (.tuple #[.int .i64 ((sk5 (skR2 a b) a).commit (iS 65536) 1).1.1, .int .i64 ((sk5 (skR2 a b) a).commit (iS 65536) 1).1.2]) = _; rw [e3], go h g1 g2⟩
    · intro p W h
      have h' : M ⟨skC, 1, 2, 3, [{ skX with fin := true, act := false, ended := 3, wrote := [a] }, { skY with fout := true }], [], skR2 a b⟩ p W := by
        have := h
        rw [hc] at this
        exact this
      refine (h'.1.write c6 okN2 hb 0).mono ?_
      rintro e2 W' ⟨rfl, g1, g2⟩
      exact ⟨congrArg (fun k => Ending.returned (.int .i64 k)) hs, h'.2.trans g2.below⟩
    · intro p W h
      refine (h.1.write c5 okN2 hb 0).mono ?_
      rintro e2 W' ⟨rfl, g1, g2⟩
      exact ⟨congrArg (fun k => Ending.returned (.int .i64 k)) ht.1, go h g1 g2⟩
    · intro p W h
      have hcap : ((sk5 (skR2 a b) a).write (iS 65536) 2 b 0).2.caps.reads = 65536 := by rw [write_caps]; rfl
      refine (h.1.commit c8 okN1 (fun k hk => hk.elim) (by decide) (by decide)).mono ?_
      rintro e2 W' ⟨rfl, g1, g2⟩
      rw [hcap]
      exact ⟨_, by rw [ht.2], h.2.trans g2.below⟩
end Go.Proofs.YthaoedfalkebbaaGreat
