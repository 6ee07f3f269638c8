import Derived.Test.YthaoedfalkebbaaGreatMR
import Derived.Test.YthaoedfalkebbaaGreatMG
import Derived.Test.YthaoedfalkebbaaGreatMQ
import Derived.Test.YthaoedfalkebbaaGreatMO
namespace Go.Proofs.YthaoedfalkebbaaGreat
open Go.RowKit Go.Maps Go.Sort Go.Lib Go.Shelf Go.Proofs.YthaoedfalkebbaaGreatW.PrintWords Go.Proofs.YthaoedfalkebbaaGreatW.PrintLast Go.Proofs.YthaoedfalkebbaaGreatW.PrintMore
set_option linter.unusedVariables false
set_option linter.unusedSimpArgs false
set_option linter.unusedSectionVars false
/-! ### begun -/
theorem fld60 (x y z k : Int) (w : World) : (Instr.field 60 (.agg #[.int .i64 x, .int .i64 y, .int .i64 z, .int .i64 k]) 3).run Tryz.prog w = .ok (.int .i64 k) w := by kernel_rfl
theorem Pm.ownLow {w : World} {base : Nat} {l : Loc} {S : Sm St} (h : Pm w base l S) : ∀ k, l.own S.txs k → base ≤ k := by
  intro k hk
  obtain ⟨h1, h2, h3, h4, h5, h6⟩ := h.low
  rcases hk with rfl | rfl | rfl | rfl | rfl | ⟨t, ht, rfl⟩
  · exact h1
  · exact h2
  · exact h4
  · exact h.reads.low
  · exact h5
  · exact h6 t ht
/-- ahead of the manager nothing changes -/
theorem StQ.below {base : Nat} {l : Loc} {S S' : Sm St} {w w' : World} (h : StQ base l S S' w w') (P : Pm w base l S) (hb : base ≤ w.heap.size) : Below base w w' := by
  obtain ⟨l', _, _, _, F⟩ := h
  exact F.below hb P.ownLow
def bgC : Cp := ⟨2, 2, 2, 2⟩
def bg1 : Sm St := begS (S0 bgC 5)
theorem bg_begin : (S0 bgC 5).begin = ((1, 5, 0), bg1) := rfl
theorem bg_write (a : Lk) : bg1.write (iS 2) 1 a 0 = (0, { bg1 with locks := [(a, 1)] }) := by
  unfold Sm.write
  have e : bg1.actv 1 = some (newT (S0 bgC 5)) := rfl
  rw [e]
  dsimp only
  rw [if_neg (by decide), if_neg (by simp [bg1, begS, S0, holder])]
  have e2 : tk bg1.caps.locks bg1.locks 1 (newT (S0 bgC 5)).snap 0 a = (0, [(a, 1)]) := rfl
  rw [e2]
  dsimp only
  rw [if_neg (by simp)]
  have e3 : bg1.txs.any (fun o => concB (newT (S0 bgC 5)) o && (!o.act && decide (a ∈ o.wrote))) = false := rfl
  rw [if_neg (by rw [e3]; decide)]
  refine put_nil (I := iS 2) { bg1 with locks := [(a, 1)] } (newT (S0 bgC 5)) false (.inl rfl) _ (fun o ho => ?_)
  refine decide_eq_false (fun hm => ?_)
  obtain ⟨q, hq, _⟩ := mem_readP.1 (show o.num ∈ readP St0 a.1 a.2 from hm)
  cases hq
theorem bg_cap0 : Cap (S0 bgC 5) 0 5 := Cap.start bgC 5 (by decide) (by decide)
theorem bg_cap1 : Cap bg1 1 5 := bg_cap0.begin
set_option maxHeartbeats 16000000 in
set_option maxRecDepth 100000 in
theorem begun_calls (w : World) : Calls Tryz.prog 11 #[] w fun e w' => e = .returned (.bool true) ∧ Below w.heap.size w w' := by
  have NW := New_s bgC 5 w.heap.size (fun _ => False) w (Nat.le_refl _) (by decide) (by decide)
  have BG : ∀ l W, Pm W w.heap.size l (S0 bgC 5) → Calls Tryz.prog 13 #[ptr l.p] W fun e w' => e = .returned (.tuple #[.int .i64 1, .int .i64 5, .int .i64 0]) ∧ ∃ l' : Loc, l'.p = l.p ∧ Pm w' w.heap.size l' bg1 ∧ (w.heap.size ≤ W.heap.size → Below w.heap.size W w') := fun l W P => by
    have := Begin_s w.heap.size l (S0 bgC 5) W 0 5 P bg_cap0 (by decide)
    rw [bg_begin] at this
    refine this.mono ?_
    rintro e w' ⟨rfl, hS⟩
    have hS2 := hS
    obtain ⟨l', h1, h2, h3, h4⟩ := hS
    exact ⟨rfl, l', h1, h3, fun hb => hS2.below P hb⟩
  have WR : ∀ l W (s u : ByteArray), Pm W w.heap.size l bg1 → s.size ≤ reachBytes → u.size ≤ reachBytes → Calls Tryz.prog 15 #[ptr l.p, .int .i64 1, .agg #[.string s, .string u], .int .i64 0] W fun e w' => e = .returned (.int .i64 0) ∧ ∃ l' : Loc, l'.p = l.p ∧ Pm w' w.heap.size l' { bg1 with locks := [((s, u), 1)] } ∧ (w.heap.size ≤ W.heap.size → Below w.heap.size W w') := fun l W s u P h1 h2 => by
    have := Write_s w.heap.size l bg1 1 (s, u) 0 W 1 5 P bg_cap1 (by show (Lit.int .i64 1).wf = true; decide) ⟨h1, h2⟩
    refine this.mono ?_
    intro e w' hQ
    obtain ⟨h3, hS⟩ := hQ.st
    have e1 := bg_write (s, u)
    rw [show bg1.caps.reads = 2 from rfl, e1] at h3 hS
    have hS2 := hS
    obtain ⟨l', g1, g2, g3, g4⟩ := hS
    exact ⟨h3, l', g1, g3, fun hb => hS2.below P hb⟩
  have TR : ∀ l W (s u : ByteArray), Pm W w.heap.size l { bg1 with locks := [((s, u), 1)] } → Calls Tryz.prog 24 #[ptr l.p] W fun e w' => ∃ x y z, e = .returned (.agg #[.int .i64 x, .int .i64 y, .int .i64 z, .int .i64 1]) ∧ Below W.heap.size W w' := fun l W s u P => by
    have := Tracked_s w.heap.size l _ W 1 5 P (bg_cap1.lks (by show ((1 : Nat) : Int) ≤ 2; decide))
    refine this.mono ?_
    rintro e w' ⟨rfl, h2⟩
    exact ⟨_, _, _, rfl, h2⟩
  replace BG := Aside0.mk BG
  replace WR := Aside0.mk WR
  replace TR := Aside0.mk TR
  unfold bgC Cp.cells at NW
  dsimp only at NW
  go_enter Tryz.func11, Tryz.ntmps11
  go_wp2_with fail
  refine NW.mono ?_
  rintro e w1 ⟨l, rfl, P1, B1, -, -⟩
  have BG1 := BG.out l w1 P1
  obtain ⟨p, hp⟩ : ∃ p, p = l.p := ⟨_, rfl⟩
  rw [← hp] at BG1 ⊢
  clear NW P1 hp
  go_wp2_with fail
  refine BG1.mono ?_
  rintro e w2 ⟨rfl, l2, e2, P2, B2⟩
  have B2' := B1.trans (B2 B1.size)
  have WR2 := fun s u => WR.out l2 w2 s u P2
  rw [e2] at WR2
  clear BG1 B2 P2
  replace e2 := Aside0.mk e2
  go_wp2_with fail
  refine (WR2 _ _ (by decide) (by decide)).mono ?_
  rintro e w3 ⟨rfl, l3, e3, P3, B3⟩
  have B3' := B2'.trans (B3 B2'.size)
  have TR2 := TR.out l3 w3 _ _ P3
  rw [e3] at TR2
  clear WR2 B3 P3 e3 e2
  go_wp2_with fail
  refine TR2.mono ?_
  rintro e w4 ⟨x, y, z, rfl, B4⟩
  clear TR2
  have B4' := below_then B3' B3'.size B4
  have hf := fld60 x y z 1 w4
  go_wp2
  go_ret
  exact ⟨rfl, B4'⟩
end Go.Proofs.YthaoedfalkebbaaGreat
namespace Go.Proofs.YthaoedfalkebbaaGreat
open Go.RowKit Go.Maps Go.Sort Go.Lib Go.Shelf Go.Proofs.YthaoedfalkebbaaGreatW.PrintWords Go.Proofs.YthaoedfalkebbaaGreatW.PrintLast Go.Proofs.YthaoedfalkebbaaGreatW.PrintMore
set_option linter.unusedVariables false
set_option linter.unusedSimpArgs false
set_option linter.unusedSectionVars false
/-! ### SsiNone -/
def Opn.cells (x : Opn) : List Value := [.int .i64 x.kind, .int .i64 x.tx, .string x.at_.1, .string x.at_.2, .string x.to_, .int .i64 x.last]
structure Opn.OK (x : Opn) : Prop where
  kind : (Lit.int .i64 x.kind).wf = true
  tx : okN x.tx
  at_ : LkOK x.at_
  to_ : x.to_.size ≤ reachBytes
  last : (Lit.int .i64 x.last).wf = true
theorem neq67 (w : World) : (binOp .neq 67 (.agg #[.bool false, .bool false]) (.agg #[.bool false, .bool false])).run Tryz.prog w = .ok (.bool false) w := by kernel_rfl
theorem neq60 (w : World) : (binOp .neq 60 (.agg #[.int .i64 0, .int .i64 0, .int .i64 0, .int .i64 0]) (.agg #[.int .i64 0, .int .i64 0, .int .i64 0, .int .i64 0])).run Tryz.prog w = .ok (.bool false) w := by kernel_rfl
set_option maxHeartbeats 32000000 in
set_option maxRecDepth 100000 in
theorem SsiNone_calls (x : Opn) (w : World) (hx : x.OK) : Calls Tryz.prog 10 #[.agg x.cells.toArray] w fun e w' => e = .returned (.bool true) ∧ Below w.heap.size w w' := by
  obtain ⟨d, tx, a, u, last⟩ := x
  clear hx
  simp only [Opn.cells]
  obtain ⟨w1, hw1⟩ : ∃ w1, w1 = w.alloc (.cells #[.int .i64 d, .int .i64 tx, .string a.1, .string a.2, .string u, .int .i64 last] 36) := ⟨_, rfl⟩
  have hB1 : Below w.heap.size w w1 := by rw [hw1]; exact (Below.refl _ w).alloc (Nat.le_refl _) _
  have c1 : w1.cell? ⟨w.heap.size, 1, none⟩ = some (.int .i64 tx) := by rw [hw1]; simp [go_sem]
  have c2 : w1.cell? ⟨w.heap.size, 2, none⟩ = some (.string a.1) := by rw [hw1]; simp [go_sem]
  have c3 : w1.cell? ⟨w.heap.size, 3, none⟩ = some (.string a.2) := by rw [hw1]; simp [go_sem]
  have c4 : w1.cell? ⟨w.heap.size, 4, none⟩ = some (.string u) := by rw [hw1]; simp [go_sem]
  have c5 : w1.cell? ⟨w.heap.size, 5, none⟩ = some (.int .i64 last) := by rw [hw1]; simp [go_sem]
  have n67 := neq67
  have n60 := neq60
  go_enter Tryz.func10, Tryz.ntmps10
  go_wp2_with fail
  rw [← hw1]
  clear hw1
  refine (begun_calls w1).mono ?_
  rintro e w2 ⟨rfl, B2⟩
  go_wp2_with fail
  have hBw := below_then hB1 hB1.size B2
  obtain ⟨w3, hw3⟩ : ∃ w3, w3 = (w2.alloc (.cells #[.int .i64 0, .int .i64 0, .int .i64 0, .int .i64 0, .int .i64 0, .int .i64 0, .int .i64 0, .map none, .pointer none, .pointer none] 90)).alloc (.cells #[.pointer none, ptr w2.heap.size] 26) := ⟨_, rfl⟩
  have hB3 : Below w2.heap.size w2 w3 := by rw [hw3]; exact ((Below.refl _ w2).alloc (Nat.le_refl _) _).alloc (by simp) _
  have hBw3 := below_then hBw hBw.size hB3
  have s0 : w3.cell? ⟨w2.heap.size + 1, 0, none⟩ = some (.pointer none) := by rw [hw3]; simp [go_sem]
  have s1 : w3.cell? ⟨w2.heap.size + 1, 1, none⟩ = some (ptr w2.heap.size) := by rw [hw3]; simp [go_sem]
  have m1 : w3.cell? ⟨w2.heap.size, 7, none⟩ = some (.map none) := by rw [hw3]; simp [go_sem]
  have F : ∀ W, Below w3.heap.size w3 W → W.cell? ⟨w.heap.size, 1, none⟩ = some (.int .i64 tx) ∧ W.cell? ⟨w.heap.size, 2, none⟩ = some (.string a.1) ∧ W.cell? ⟨w.heap.size, 3, none⟩ = some (.string a.2) ∧ W.cell? ⟨w.heap.size, 4, none⟩ = some (.string u) ∧ W.cell? ⟨w.heap.size, 5, none⟩ = some (.int .i64 last) ∧
      W.cell? ⟨w2.heap.size + 1, 0, none⟩ = some (.pointer none) ∧ W.cell? ⟨w2.heap.size + 1, 1, none⟩ = some (ptr w2.heap.size) := fun W hW => by
    have G : ∀ q j v, w1.cell? ⟨q, j, none⟩ = some v → W.cell? ⟨q, j, none⟩ = some v := fun q j v hv => below_cell hW (below_cell hB3 (below_cell B2 hv))
    exact ⟨G _ _ _ c1, G _ _ _ c2, G _ _ _ c3, G _ _ _ c4, G _ _ _ c5, below_cell hW s0, below_cell hW s1⟩
  have Z0 : ∀ W, Below w3.heap.size w3 W → Pm0 W (.pointer none) := fun W _ => .inl rfl
  have Z1 : ∀ W, Below w3.heap.size w3 W → Pm0 W (ptr w2.heap.size) := fun W hW => .inr ⟨_, rfl, below_cell hW m1⟩
  obtain ⟨W0, hW0⟩ : ∃ W0, W0 = w3 := ⟨_, rfl⟩
  have hB0 : Below w3.heap.size w3 W0 := by rw [hW0]; exact Below.refl _ _
  rw [← hw3, ← hW0]
  clear hW0 hw3 c1 c2 c3 c4 c5 s0 s1 m1 hB3 hBw B2 hB1
  have Below_then : ∀ {A B : World}, Below w3.heap.size w3 A → Below A.heap.size A B → Below w3.heap.size w3 B := fun h k => below_then h h.size k
  replace Z0 := Aside0.mk Z0
  replace Z1 := Aside0.mk Z1
  replace F := Aside0.mk F
  replace hBw3 := Aside0.mk hBw3
  obtain ⟨c1, c2, c3, c4, c5, s0, s1⟩ := F.out W0 hB0
  refine wp_loop_rounds 3 ?_
  rw [rounds_succ]
  go_wp2_with fail
  refine (Begin_0 (.pointer none)  W0 (Z0.out W0 hB0)).mono ?_
  rintro e Wx ⟨rfl, rfl⟩
  go_wp2_with fail
  refine (Commit_0 (.pointer none) tx W0 (Z0.out W0 hB0)).mono ?_
  rintro e Wx ⟨rfl, rfl⟩
  go_wp2_with fail
  refine (Snapshot_0 (.pointer none) tx W0 (Z0.out W0 hB0)).mono ?_
  rintro e Wx ⟨rfl, rfl⟩
  go_wp2_with fail
  refine (Flags_0 (.pointer none) tx W0 (Z0.out W0 hB0)).mono ?_
  rintro e W1 ⟨rfl, D1⟩
  have hB1 := Below_then hB0 D1
  clear D1
  clear c1 c2 c3 c4 c5 s0 s1
  obtain ⟨c1, c2, c3, c4, c5, s0, s1⟩ := F.out W1 hB1
  go_upto_region 12 with (fail)
  obtain ⟨W2, hW2⟩ : ∃ W2, W2 = W1.alloc (.cells #[.bool false, .bool false] 67) := ⟨_, rfl⟩
  have hB2 : Below w3.heap.size w3 W2 := by rw [hW2]; exact below_alloc hB1 _
  rw [← hW2]
  clear hW2 c1 c2 c3 c4 c5 s0 s1
  obtain ⟨c1, c2, c3, c4, c5, s0, s1⟩ := F.out W2 hB2
  go_wp2_with fail
  refine (Read_0 (.pointer none) tx a W2 (Z0.out W2 hB2)).mono ?_
  rintro e W3 ⟨rfl, D3⟩
  have hB3 := Below_then hB2 D3
  clear D3
  clear c1 c2 c3 c4 c5 s0 s1
  obtain ⟨c1, c2, c3, c4, c5, s0, s1⟩ := F.out W3 hB3
  go_wp2_with fail
  refine (Scan_0 (.pointer none) tx a.1 a.2 u W3 (Z0.out W3 hB3)).mono ?_
  rintro e Wx ⟨rfl, rfl⟩
  go_wp2_with fail
  refine (Write_0 (.pointer none) tx a last W3 (Z0.out W3 hB3)).mono ?_
  rintro e W4 ⟨rfl, D4⟩
  have hB4 := Below_then hB3 D4
  clear D4
  clear c1 c2 c3 c4 c5 s0 s1
  obtain ⟨c1, c2, c3, c4, c5, s0, s1⟩ := F.out W4 hB4
  go_wp2_with fail
  refine (Abort_0 (.pointer none) tx W4 (Z0.out W4 hB4)).mono ?_
  rintro e Wx ⟨rfl, rfl⟩
  go_wp2_with fail
  refine (Active_0 (.pointer none)  W4 (Z0.out W4 hB4)).mono ?_
  rintro e Wx ⟨rfl, rfl⟩
  go_wp2_with fail
  refine (Now_0 (.pointer none)  W4 (Z0.out W4 hB4)).mono ?_
  rintro e Wx ⟨rfl, rfl⟩
  go_wp2_with fail
  refine (Oldest_0 (.pointer none)  W4 (Z0.out W4 hB4)).mono ?_
  rintro e Wx ⟨rfl, rfl⟩
  go_wp2_with fail
  refine (Tracked_0 (.pointer none)  W4 (Z0.out W4 hB4)).mono ?_
  rintro e W5 ⟨rfl, D5⟩
  have hB5 := Below_then hB4 D5
  clear D5
  clear c1 c2 c3 c4 c5 s0 s1
  obtain ⟨c1, c2, c3, c4, c5, s0, s1⟩ := F.out W5 hB5
  go_wp2_with fail
  refine (Clone_0 (.pointer none)  W5 (Z0.out W5 hB5)).mono ?_
  rintro e Wx ⟨rfl, rfl⟩
  go_wp2
  clear c1 c2 c3 c4 c5 s0 s1
  clear hB0 hB1 hB2 hB3 hB4
  revert hB5
  generalize W5 = W0
  intro hB0
  obtain ⟨c1, c2, c3, c4, c5, s0, s1⟩ := F.out W0 hB0
  rw [rounds_succ]
  go_wp2_with fail
  refine (Begin_0 (ptr w2.heap.size)  W0 (Z1.out W0 hB0)).mono ?_
  rintro e Wx ⟨rfl, rfl⟩
  go_wp2_with fail
  refine (Commit_0 (ptr w2.heap.size) tx W0 (Z1.out W0 hB0)).mono ?_
  rintro e Wx ⟨rfl, rfl⟩
  go_wp2_with fail
  refine (Snapshot_0 (ptr w2.heap.size) tx W0 (Z1.out W0 hB0)).mono ?_
  rintro e Wx ⟨rfl, rfl⟩
  go_wp2_with fail
  refine (Flags_0 (ptr w2.heap.size) tx W0 (Z1.out W0 hB0)).mono ?_
  rintro e W1 ⟨rfl, D1⟩
  have hB1 := Below_then hB0 D1
  clear D1
  clear c1 c2 c3 c4 c5 s0 s1
  obtain ⟨c1, c2, c3, c4, c5, s0, s1⟩ := F.out W1 hB1
  go_upto_region 12 with (fail)
  obtain ⟨W2, hW2⟩ : ∃ W2, W2 = W1.alloc (.cells #[.bool false, .bool false] 67) := ⟨_, rfl⟩
  have hB2 : Below w3.heap.size w3 W2 := by rw [hW2]; exact below_alloc hB1 _
  rw [← hW2]
  clear hW2 c1 c2 c3 c4 c5 s0 s1
  obtain ⟨c1, c2, c3, c4, c5, s0, s1⟩ := F.out W2 hB2
  go_wp2_with fail
  refine (Read_0 (ptr w2.heap.size) tx a W2 (Z1.out W2 hB2)).mono ?_
  rintro e W3 ⟨rfl, D3⟩
  have hB3 := Below_then hB2 D3
  clear D3
  clear c1 c2 c3 c4 c5 s0 s1
  obtain ⟨c1, c2, c3, c4, c5, s0, s1⟩ := F.out W3 hB3
  go_wp2_with fail
  refine (Scan_0 (ptr w2.heap.size) tx a.1 a.2 u W3 (Z1.out W3 hB3)).mono ?_
  rintro e Wx ⟨rfl, rfl⟩
  go_wp2_with fail
  refine (Write_0 (ptr w2.heap.size) tx a last W3 (Z1.out W3 hB3)).mono ?_
  rintro e W4 ⟨rfl, D4⟩
  have hB4 := Below_then hB3 D4
  clear D4
  clear c1 c2 c3 c4 c5 s0 s1
  obtain ⟨c1, c2, c3, c4, c5, s0, s1⟩ := F.out W4 hB4
  go_wp2_with fail
  refine (Abort_0 (ptr w2.heap.size) tx W4 (Z1.out W4 hB4)).mono ?_
  rintro e Wx ⟨rfl, rfl⟩
  go_wp2_with fail
  refine (Active_0 (ptr w2.heap.size)  W4 (Z1.out W4 hB4)).mono ?_
  rintro e Wx ⟨rfl, rfl⟩
  go_wp2_with fail
  refine (Now_0 (ptr w2.heap.size)  W4 (Z1.out W4 hB4)).mono ?_
  rintro e Wx ⟨rfl, rfl⟩
  go_wp2_with fail
  refine (Oldest_0 (ptr w2.heap.size)  W4 (Z1.out W4 hB4)).mono ?_
  rintro e Wx ⟨rfl, rfl⟩
  go_wp2_with fail
  refine (Tracked_0 (ptr w2.heap.size)  W4 (Z1.out W4 hB4)).mono ?_
  rintro e W5 ⟨rfl, D5⟩
  have hB5 := Below_then hB4 D5
  clear D5
  clear c1 c2 c3 c4 c5 s0 s1
  obtain ⟨c1, c2, c3, c4, c5, s0, s1⟩ := F.out W5 hB5
  go_wp2_with fail
  refine (Clone_0 (ptr w2.heap.size)  W5 (Z1.out W5 hB5)).mono ?_
  rintro e Wx ⟨rfl, rfl⟩
  go_wp2
  rw [rounds_succ]
  go_wp2
  go_ret
  exact ⟨rfl, below_then hBw3.out hBw3.out.size hB5⟩
end Go.Proofs.YthaoedfalkebbaaGreat
namespace Go.Proofs.YthaoedfalkebbaaGreat
open Go.ChangeShapes Go.WideShapes Go.ChangeAt Go.RowKit Go.Lib Go.Proofs.YthaoedfalkebbaaGreatW.PrintWords Go.Proofs.YthaoedfalkebbaaGreatW.PrintLast Go.Proofs.YthaoedfalkebbaaGreatW.PrintMore
open Go.Deep (open_slice)
set_option linter.unusedVariables false
set_option linter.unusedSimpArgs false
set_option linter.unusedSectionVars false
/-! ### what is handed in -/
theorem cellsT2 : Tryz.prog.cellsOf 2 = 1 := by kernel_rfl
theorem cellsT3 : Tryz.prog.cellsOf 3 = 1 := by kernel_rfl
theorem cells9' : Tryz.prog.cellsOf 9 = 1 := by kernel_rfl
theorem cells23' : Tryz.prog.cellsOf 23 = 2 := by kernel_rfl
section
variable {H : Type} {enc : TypeId × Value → H} {w : World} {base : Nat} {spare : Nat → Bool} {held : Bool}
set_option maxRecDepth 100000 in
theorem opens_lk {fuel : Nat} {cs : List Value} {y : DataW H × List MemPlace} (h : DataW.trod enc Tryz.prog w base spare held fuel 23 cs = some y) (hl : Light Tryz.prog 23 y.1) : ∃ a : Lk, cs = [.string a.1, .string a.2] ∧ LkOK a := by
  obtain ⟨hc, hf⟩ := opens_fields Tryz.underlying23 h hl
  have hc2 : cs.length = 2 := hc.trans cells23'
  match cs, hc2 with
  | [v0, v1], _ =>
    have f0 : FldAt enc Tryz.prog w base spare held [v0, v1] 9 0 := hf 0 _ rfl
    obtain ⟨n0, y0, t0, g0⟩ := f0
    have f1 : FldAt enc Tryz.prog w base spare held [v0, v1] 9 1 := hf 1 _ rfl
    obtain ⟨n1, y1, t1, g1⟩ := f1
    simp only [cells9', List.drop_zero, List.drop_succ_cons, List.take_succ_cons, List.take_zero] at t0 t1
    obtain ⟨s, e0, w0⟩ := opens_string Tryz.underlying9 _ _ _ t0 g0
    obtain ⟨u, e1, w1⟩ := opens_string Tryz.underlying9 _ _ _ t1 g1
    cases e0; cases e1
    exact ⟨(s, u), rfl, w0, w1⟩
def encOn (o : Opn) : List Value := [.int .i64 o.kind, .int .i64 o.tx, .string o.at_.1, .string o.at_.2, .string o.to_, .int .i64 o.last]
abbrev dOn : Kd Opn := Kd.flat encOn 6 (fun _ => rfl) (fun o u hu => by simp only [encOn, List.mem_cons, List.not_mem_nil, or_false] at hu; rcases hu with rfl | rfl | rfl | rfl | rfl | rfl <;> rfl)
set_option maxRecDepth 100000 in
theorem opens_opn : Opens enc Tryz.prog w base spare held 36 dOn Opn.OK := by
  intro fuel cs y h hl
  obtain ⟨hc, hf⟩ := opens_fields Tryz.underlying36 h hl
  have hc6 : cs.length = 6 := hc.trans (by kernel_rfl)
  match cs, hc6 with
  | [v0, v1, v2, v3, v4, v5], _ =>
    have f0 : FldAt enc Tryz.prog w base spare held [v0, v1, v2, v3, v4, v5] 3 0 := hf 0 _ rfl
    obtain ⟨n0, y0, t0, g0⟩ := f0
    have f1 : FldAt enc Tryz.prog w base spare held [v0, v1, v2, v3, v4, v5] 2 1 := hf 1 _ rfl
    obtain ⟨n1, y1, t1, g1⟩ := f1
    have f2 : FldAt enc Tryz.prog w base spare held [v0, v1, v2, v3, v4, v5] 23 2 := hf 2 _ rfl
    obtain ⟨n2, y2, t2, g2⟩ := f2
    have f3 : FldAt enc Tryz.prog w base spare held [v0, v1, v2, v3, v4, v5] 9 4 := hf 3 _ rfl
    obtain ⟨n3, y3, t3, g3⟩ := f3
    have f4 : FldAt enc Tryz.prog w base spare held [v0, v1, v2, v3, v4, v5] 2 5 := hf 4 _ rfl
    obtain ⟨n4, y4, t4, g4⟩ := f4
    simp only [cellsT2, cellsT3, cells9', cells23', List.drop_zero, List.drop_succ_cons, List.take_succ_cons, List.take_zero] at t0 t1 t2 t3 t4
    obtain ⟨a0, e0, w0⟩ := opens_int (k := .i64) Tryz.underlying3 _ _ _ t0 g0
    obtain ⟨a1, e1, w1⟩ := opens_int (k := .i64) Tryz.underlying2 _ _ _ t1 g1
    obtain ⟨a2, e2, w2⟩ := opens_lk t2 g2
    obtain ⟨a3, e3, w3⟩ := opens_string Tryz.underlying9 _ _ _ t3 g3
    obtain ⟨a4, e4, w4⟩ := opens_int (k := .i64) Tryz.underlying2 _ _ _ t4 g4
    cases e0; cases e1; cases e2; cases e3; cases e4
    exact ⟨⟨a0, a1, a2, a3, a4⟩, rfl, ⟨w0, w1, w2, w3, w4⟩⟩
set_option maxRecDepth 100000 in
theorem open_opn {ts : List TypeId} {ds : List (DataW H)} (hsz : (DataW.weightsEach Tryz.prog ts ds).all (· ≤ reachBytes) = true) {j : Nat} {r : Reach} {b0 : Nat} {v : Value} {d : DataW H} {p : List MemPlace} (ht : ts[j]? = some 36) (hd : ds[j]? = some d)
    (hv : Value.okWide Tryz.prog w r b0 36 v) (h : DataW.Trod enc Tryz.prog w base spare held 36 v d p) : ∃ x : Opn, v = .agg x.cells.toArray ∧ x.OK := by
  obtain ⟨ca, rfl, hs⟩ := okWide_struct Tryz.underlying36 hv
  obtain ⟨fuel, hf⟩ := h
  obtain ⟨x, e, hx⟩ := opens_opn fuel _ _ hf (light_of hsz ht hd)
  refine ⟨x, ?_, hx⟩
  have e' : ca.toList = x.cells := e
  rw [← e']
structure Cp.OK (c : Cp) : Prop where
  a : (Lit.int .i64 c.active).wf = true
  k : (Lit.int .i64 c.kept).wf = true
  r : (Lit.int .i64 c.reads).wf = true
  l : (Lit.int .i64 c.locks).wf = true
set_option maxRecDepth 100000 in
theorem open_cp {ts : List TypeId} {ds : List (DataW H)} (hsz : (DataW.weightsEach Tryz.prog ts ds).all (· ≤ reachBytes) = true) {j : Nat} {r : Reach} {b0 : Nat} {v : Value} {d : DataW H} {p : List MemPlace} (ht : ts[j]? = some 31) (hd : ds[j]? = some d)
    (hv : Value.okWide Tryz.prog w r b0 31 v) (h : DataW.Trod enc Tryz.prog w base spare held 31 v d p) : ∃ c : Cp, v = .agg c.cells ∧ c.OK := by
  obtain ⟨cs, rfl, hc, hf⟩ := opens_param Tryz.underlying31 hv h (light_of hsz ht hd)
  have hc4 : cs.length = 4 := hc.trans (by kernel_rfl)
  match cs, hc4 with
  | [v0, v1, v2, v3], _ =>
    have f0 : FldAt enc Tryz.prog w base spare held [v0, v1, v2, v3] 3 0 := hf 0 _ rfl
    obtain ⟨n0, y0, t0, g0⟩ := f0
    have f1 : FldAt enc Tryz.prog w base spare held [v0, v1, v2, v3] 3 1 := hf 1 _ rfl
    obtain ⟨n1, y1, t1, g1⟩ := f1
    have f2 : FldAt enc Tryz.prog w base spare held [v0, v1, v2, v3] 3 2 := hf 2 _ rfl
    obtain ⟨n2, y2, t2, g2⟩ := f2
    have f3 : FldAt enc Tryz.prog w base spare held [v0, v1, v2, v3] 3 3 := hf 3 _ rfl
    obtain ⟨n3, y3, t3, g3⟩ := f3
    simp only [cellsT3, List.drop_zero, List.drop_succ_cons, List.take_succ_cons, List.take_zero] at t0 t1 t2 t3
    obtain ⟨a0, e0, w0⟩ := opens_int (k := .i64) Tryz.underlying3 _ _ _ t0 g0
    obtain ⟨a1, e1, w1⟩ := opens_int (k := .i64) Tryz.underlying3 _ _ _ t1 g1
    obtain ⟨a2, e2, w2⟩ := opens_int (k := .i64) Tryz.underlying3 _ _ _ t2 g2
    obtain ⟨a3, e3, w3⟩ := opens_int (k := .i64) Tryz.underlying3 _ _ _ t3 g3
    cases e0; cases e1; cases e2; cases e3
    exact ⟨⟨a0, a1, a2, a3⟩, rfl, ⟨w0, w1, w2, w3⟩⟩
structure Scp where
  A : Option Addr
  c : Nat
  xs : List Opn
def Scp.val (z : Scp) : Value := .slice z.A z.xs.length z.c
structure Scp.OK (z : Scp) (w : World) : Prop where
  reads : dOn.C w z.A z.xs.length z.xs
  ops : ∀ x ∈ z.xs, x.OK
  len : z.xs.length * 72 ≤ reachBytes
set_option maxRecDepth 100000 in
theorem open_scp {ts : List TypeId} {ds : List (DataW H)} (hsz : (DataW.weightsEach Tryz.prog ts ds).all (· ≤ reachBytes) = true) {j : Nat} {r : Reach} {b0 : Nat} {v : Value} {d : DataW H} {p : List MemPlace} (ht : ts[j]? = some 24) (hd : ds[j]? = some d)
    (hv : Value.okWide Tryz.prog w r b0 24 v) (h : DataW.Trod enc Tryz.prog w base spare held 24 v d p) : ∃ z : Scp, v = z.val ∧ z.OK w := by
  obtain ⟨a, n, c, rfl⟩ := okWide_slice Tryz.underlying24 hv
  obtain ⟨fuel, hf⟩ := h
  obtain ⟨A, c', xs, e, h1, h2, h3, h4, h5⟩ := opens_C (d := dOn) Tryz.underlying24 (by kernel_rfl) opens_opn hf (light_of hsz ht hd)
  simp [Value.cells] at e
  obtain ⟨rfl, rfl, rfl⟩ := e
  refine ⟨⟨a, c, xs⟩, rfl, h3, h5, ?_⟩
  have hb : Tryz.prog.bytesOf 36 = 72 := by kernel_rfl
  rw [hb] at h4
  exact h4
set_option maxRecDepth 100000 in
theorem open_lk {ts : List TypeId} {ds : List (DataW H)} (hsz : (DataW.weightsEach Tryz.prog ts ds).all (· ≤ reachBytes) = true) {j : Nat} {r : Reach} {b0 : Nat} {v : Value} {d : DataW H} {p : List MemPlace} (ht : ts[j]? = some 23) (hd : ds[j]? = some d)
    (hv : Value.okWide Tryz.prog w r b0 23 v) (h : DataW.Trod enc Tryz.prog w base spare held 23 v d p) : ∃ a : Lk, v = .agg #[.string a.1, .string a.2] ∧ LkOK a := by
  obtain ⟨ca, rfl, hs⟩ := okWide_struct Tryz.underlying23 hv
  obtain ⟨fuel, hf⟩ := h
  obtain ⟨a, e, ha⟩ := opens_lk hf (light_of hsz ht hd)
  refine ⟨a, ?_, ha⟩
  have e' : ca.toList = [.string a.1, .string a.2] := e
  have : ca = #[.string a.1, .string a.2] := by rw [← Array.toArray_toList (xs := ca), e']
  rw [this]
end
end Go.Proofs.YthaoedfalkebbaaGreat
