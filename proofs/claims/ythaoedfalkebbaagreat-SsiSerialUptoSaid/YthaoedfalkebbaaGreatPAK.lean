/- Cut by a program out of the seat's texts (YW YX XZ YY YZ XN XO XQ XS XL ZA ZB ZC): what the theorem needs, one behind the other. -/
import Derived.Test.YthaoedfalkebbaaGreatPAJ
import Derived.Test.YthaoedfalkebbaaGreatPAE
import Derived.Test.YthaoedfalkebbaaGreatPAI
import Derived.OwnWalk
import Derived.Laws.Rows
namespace Go.Proofs.YthaoedfalkebbaaGreat
open Go.RowKit Go.Maps Go.Sort Go.Lib Go.Shelf Go.Proofs.YthaoedfalkebbaaGreatW.PrintWords Go.Proofs.YthaoedfalkebbaaGreatW.PrintLast Go.Proofs.YthaoedfalkebbaaGreatW.PrintMore
set_option linter.unusedVariables false
set_option linter.unusedSimpArgs false
set_option linter.unusedSectionVars false
set_option maxRecDepth 100000 in
theorem New36 (most : Int) (w : World) (h1 : 1 ≤ most) (h2 : most ≤ 4096) : Calls Tryz.prog 36 #[.int .i64 most] w fun e w' => e = .returned (.tuple #[ptr (w.heap.size + 1), .int .i64 0]) ∧ Lck.Mg w' (w.heap.size + 1) w.heap.size most [] ∧ Below w.heap.size w w' ∧ w'.heap.size = w.heap.size + 2 ∧ ∃ c s, w'.heap[w.heap.size + 1]? = some (.cells c 147 s) := by
  have hmm := @run_makeMap Tryz.prog
  go_enter Tryz.func36, Tryz.ntmps36
  go_wp2
  go_ret2
  refine ⟨rfl, ⟨?_, ?_, (Lck.Tab.made w).kept (World.grownBy_alloc _ _ none) (by simp)⟩, ((Below.refl _ w).alloc (Nat.le_refl _) _).alloc (by simp) _, by simp [go_sem], ?_⟩
  · simp [go_sem]
  · simp [go_sem]
  · have := heap_alloc_new (w.alloc (.map #[] 0)) (.cells #[.int .i64 most, .map (some w.heap.size)] 147)
    exact ⟨_, _, by simpa using this⟩
def mayC (c : Cp) : Bool := decide (1 ≤ c.active) && decide (c.active ≤ 64) && decide (0 ≤ c.kept) && decide (c.kept ≤ 1024) && decide (1 ≤ c.reads) && decide (c.reads ≤ 65536) && decide (1 ≤ c.locks) && decide (c.locks ≤ 4096)
def S0 (c : Cp) (now : Int) : Sm St := ⟨c, now, 0, 0, [], [], St0⟩
theorem Cap.start (c : Cp) (now : Int) (hc : mayC c = true) (h0 : 0 ≤ now) : Cap (S0 c now) 0 now := by
  unfold mayC at hc
  simp only [Bool.and_eq_true, decide_eq_true_eq] at hc
  obtain ⟨⟨⟨⟨⟨⟨⟨h1, h2⟩, h3⟩, h4⟩, h5⟩, h6⟩, h7⟩, h8⟩ := hc
  constructor
  · exact ⟨h1, h2, h3, h4, h5, h6, h7, h8⟩
  · show ((0 : Nat) : Int) ≤ c.active
    omega
  · show ((0 : Nat) : Int) ≤ c.kept
    omega
  · show ((0 : Nat) : Int) ≤ c.locks
    omega
  · show (0 : Int) ≤ 0 ∧ (0 : Int) ≤ 0
    omega
  · show (0 : Int) ≤ 0 ∧ (0 : Int) ≤ 0
    omega
  · show 0 ≤ now ∧ now ≤ now + 0
    omega
  · intro t ht; cases ht
  · exact List.Pairwise.nil
def Cp.cells (c : Cp) : Array Value := #[.int .i64 c.active, .int .i64 c.kept, .int .i64 c.reads, .int .i64 c.locks]
set_option maxHeartbeats 16000000 in
set_option maxRecDepth 100000 in
theorem New_no (c : Cp) (now : Int) (w : World) (h : (mayC c && decide (0 ≤ now)) = false) :
    Calls Tryz.prog 12 #[.agg c.cells, .int .i64 now] w fun e w' => e = .returned (.tuple #[.pointer none, .int .i64 1]) ∧ Below w.heap.size w w' := by
  obtain ⟨ac, kp, rd, lk⟩ := c
  unfold Cp.cells
  dsimp only
  obtain ⟨w1, hw1⟩ : ∃ w1, w1 = w.alloc (.cells #[.int .i64 ac, .int .i64 kp, .int .i64 rd, .int .i64 lk] 31) := ⟨_, rfl⟩
  have B1 : Below w.heap.size w w1 := by rw [hw1]; exact (Below.refl _ w).alloc (Nat.le_refl _) _
  have b0 : w1.cell? ⟨w.heap.size, 0, none⟩ = some (.int .i64 ac) := by rw [hw1]; simp [go_sem]
  have b1 : w1.cell? ⟨w.heap.size, 1, none⟩ = some (.int .i64 kp) := by rw [hw1]; simp [go_sem]
  have b2 : w1.cell? ⟨w.heap.size, 2, none⟩ = some (.int .i64 rd) := by rw [hw1]; simp [go_sem]
  have b3 : w1.cell? ⟨w.heap.size, 3, none⟩ = some (.int .i64 lk) := by rw [hw1]; simp [go_sem]
  by_cases h0 : ac < 1 ∨ 64 < ac ∨ kp < 0 ∨ 1024 < kp ∨ now < 0
  · clear h
    go_enter Tryz.func12, Tryz.ntmps12
    go_upto_region 1 with (fail)
    rw [← hw1]
    clear hw1
    go_wp2
    all_goals first | omega | skip
    all_goals (go_ret2; exact ⟨rfl, B1⟩)
  · simp only [not_or, Int.not_lt] at h0
    obtain ⟨g1, g2, g3, g4, g5⟩ := h0
    by_cases hl : lk < 1 ∨ 4096 < lk
    · have N := Lck.New_bad lk w1 hl
      clear h hl
      go_enter Tryz.func12, Tryz.ntmps12
      go_upto_region 1 with (fail)
      rw [← hw1]
      clear hw1
      go_wp2_with (go_at_call 36; refine N.mono ?_; rintro e w' ⟨rfl, rfl⟩)
      all_goals first | omega | skip
      all_goals (go_ret2; exact ⟨rfl, B1⟩)
    · simp only [not_or, Int.not_lt] at hl
      have N := New36 lk w1 hl.1 hl.2
      have hr : rd < 1 ∨ 65536 < rd := by
        unfold mayC at h
        have k1 : decide (1 ≤ ac) = true := decide_eq_true g1
        have k2 : decide (ac ≤ 64) = true := decide_eq_true g2
        have k3 : decide (0 ≤ kp) = true := decide_eq_true g3
        have k4 : decide (kp ≤ 1024) = true := decide_eq_true g4
        have k5 : decide (0 ≤ now) = true := decide_eq_true g5
        have k6 : decide (1 ≤ lk) = true := decide_eq_true hl.1
        have k7 : decide (lk ≤ 4096) = true := decide_eq_true hl.2
        simp only [k1, k2, k3, k4, k5, k6, k7, Bool.true_and, Bool.and_true, Bool.and_eq_false_iff, decide_eq_false_iff_not] at h
        omega
      have N2 := fun w2 => New_bad rd w2 hr
      clear h hr hl
      go_enter Tryz.func12, Tryz.ntmps12
      go_upto_region 1 with (fail)
      rw [← hw1]
      clear hw1
      go_upto_region 6 with (go_at_call 36; refine N.mono ?_; rintro e w2 ⟨rfl, -, B2, -, -⟩)
      have e2 : w2.cell? ⟨w.heap.size, 2, none⟩ = some (.int .i64 rd) := below_cell B2 b2
      have N2 := N2 w2
      clear N b0 b1 b2 b3
      go_wp2_with (go_at_call 37; refine N2.mono ?_; rintro e w3 ⟨rfl, rfl⟩)
      all_goals (go_ret2; exact ⟨rfl, below_then B1 B1.size B2⟩)
end Go.Proofs.YthaoedfalkebbaaGreat
namespace Go.Proofs.YthaoedfalkebbaaGreat
open Go.RowKit Go.Maps Go.Sort Go.Lib Go.Shelf Go.Proofs.YthaoedfalkebbaaGreatW.PrintWords Go.Proofs.YthaoedfalkebbaaGreatW.PrintLast Go.Proofs.YthaoedfalkebbaaGreatW.PrintMore
set_option linter.unusedVariables false
set_option linter.unusedSimpArgs false
set_option linter.unusedSectionVars false
theorem Pm.made {w2 w3 W : World} {base lp lb rp rb : Nat} {c : Cp} {now : Int} (F : Nat → Prop) (hL : Lck.Mg w2 lp lb c.locks []) (hk : ∃ cs s, w2.heap[lp]? = some (.cells cs 147 s)) (B3 : Below w2.heap.size w2 w3) (hR : MrS w3 base rp rb c.reads St0) (h2 : w2.heap.size ≤ rp) (h2b : w2.heap.size ≤ rb) (hbase : base ≤ lp ∧ base ≤ lb ∧ base ≤ w3.heap.size)
    (hW : W = (w3.alloc (.map #[] 0)).alloc (hdCells (S0 c now) w3.heap.size lp rp)) : Pm W base ⟨w3.heap.size + 1, w3.heap.size, lp, lb, rp, rb, fun _ => 0, F⟩ (S0 c now) := by
  have lb2 : lb < w2.heap.size := by
    obtain ⟨D, ⟨es, clock, hlm, _⟩, _⟩ := hL.tab
    exact (Array.getElem?_eq_some_iff.1 hlm).1
  have lp2 : lp < w2.heap.size := by
    obtain ⟨cs, s, hc⟩ := hk
    exact (Array.getElem?_eq_some_iff.1 hc).1
  have rb3 : rb < w3.heap.size := by
    obtain ⟨⟨L, M, _, _⟩, _⟩ := hR
    obtain ⟨e3', c3', hrm⟩ := M.tab.isMap
    exact (Array.getElem?_eq_some_iff.1 hrm).1
  have hs3 := B3.size
  have G3 : w3.grownBy (w3.alloc (.map #[] 0)) none := World.grownBy_alloc _ _ _
  have G4 : (w3.alloc (.map #[] 0)).grownBy W none := by rw [hW]; exact World.grownBy_alloc _ _ _
  have BW : Below w3.heap.size w3 W := by rw [hW]; exact below_alloc ((Below.refl _ w3).alloc (Nat.le_refl _) _) _
  have B2W : Below w2.heap.size w2 W := below_then B3 B3.size BW
  constructor
  · rw [hW]
    have := heap_alloc_new (w3.alloc (.map #[] 0)) (hdCells (S0 c now) w3.heap.size lp rp)
    simpa using this
  · exact (Tab.made w3).kept G4 (by simp)
  · intro t ht; cases ht
  · intro t ht; cases ht
  · exact hL.fr (Fr.ofBelow (O := fun _ => False) B2W) (fun h => h) (fun h => h)
  · obtain ⟨cs, s, hc⟩ := hk
    exact ⟨cs, s, (B2W.block lp lp2).trans hc⟩
  · exact (hR.kept G3).kept G4
  · exact List.Pairwise.nil
  · intro t ht; cases ht
  · exact Nat.zero_le _
  · show w3.heap.size ≠ lb
    omega
  · show w3.heap.size ≠ rb
    omega
  · show lb ≠ rb
    omega
  · refine ⟨by show base ≤ w3.heap.size + 1; omega, hbase.2.2, hbase.1, hbase.2.1, ?_, fun t ht => by cases ht⟩
    obtain ⟨⟨L, M, _, hbb⟩, _⟩ := hR
    exact hbb
set_option maxHeartbeats 16000000 in
set_option maxRecDepth 100000 in
theorem New_s (c : Cp) (now : Int) (base : Nat) (F : Nat → Prop) (w : World) (hb : base ≤ w.heap.size) (h : mayC c = true) (h0 : 0 ≤ now) :
    Calls Tryz.prog 12 #[.agg c.cells, .int .i64 now] w fun e w' => ∃ l : Loc, e = .returned (.tuple #[ptr l.p, .int .i64 0]) ∧ Pm w' base l (S0 c now) ∧ Below w.heap.size w w' ∧ w.heap.size ≤ l.p ∧ l.F = F := by
  obtain ⟨ac, kp, rd, lk⟩ := c
  unfold mayC at h
  simp only [Bool.and_eq_true, decide_eq_true_eq] at h
  obtain ⟨⟨⟨⟨⟨⟨⟨g1, g2⟩, g3⟩, g4⟩, g5⟩, g6⟩, g7⟩, g8⟩ := h
  unfold Cp.cells
  dsimp only
  obtain ⟨w1, hw1⟩ : ∃ w1, w1 = w.alloc (.cells #[.int .i64 ac, .int .i64 kp, .int .i64 rd, .int .i64 lk] 31) := ⟨_, rfl⟩
  have B1 : Below w.heap.size w w1 := by rw [hw1]; exact (Below.refl _ w).alloc (Nat.le_refl _) _
  have b0 : w1.cell? ⟨w.heap.size, 0, none⟩ = some (.int .i64 ac) := by rw [hw1]; simp [go_sem]
  have b1 : w1.cell? ⟨w.heap.size, 1, none⟩ = some (.int .i64 kp) := by rw [hw1]; simp [go_sem]
  have b2 : w1.cell? ⟨w.heap.size, 2, none⟩ = some (.int .i64 rd) := by rw [hw1]; simp [go_sem]
  have b3 : w1.cell? ⟨w.heap.size, 3, none⟩ = some (.int .i64 lk) := by rw [hw1]; simp [go_sem]
  have hs1 := B1.size
  have N := New36 lk w1 g7 g8
  have N2 := fun w2 (B2 : Below w1.heap.size w1 w2) => New_calls rd w2.heap.size w2 (Nat.le_refl _) g5 g6
  have CEL : ∀ W, Below w1.heap.size w1 W → W.cell? ⟨w.heap.size, 0, none⟩ = some (.int .i64 ac) ∧ W.cell? ⟨w.heap.size, 1, none⟩ = some (.int .i64 kp) ∧ W.cell? ⟨w.heap.size, 2, none⟩ = some (.int .i64 rd) ∧ W.cell? ⟨w.heap.size, 3, none⟩ = some (.int .i64 lk) := fun W B => ⟨below_cell B b0, below_cell B b1, below_cell B b2, below_cell B b3⟩
  have FIN : ∀ w2 w3, Lck.Mg w2 (w1.heap.size + 1) w1.heap.size lk [] → (∃ cs s, w2.heap[w1.heap.size + 1]? = some (.cells cs 147 s)) → Below w1.heap.size w1 w2 → w2.heap.size = w1.heap.size + 2 → Below w2.heap.size w2 w3 → Mr w3 w2.heap.size (w2.heap.size + 1) w2.heap.size rd 0 [] (fun _ => []) →
      ∃ l : Loc, (Ending.returned (.tuple #[ptr (w3.heap.size + 1), .int .i64 0])) = Ending.returned (.tuple #[ptr l.p, .int .i64 0]) ∧ Pm ((w3.alloc (.map #[] 0)).alloc (hdCells (S0 ⟨ac, kp, rd, lk⟩ now) w3.heap.size (w1.heap.size + 1) (w2.heap.size + 1))) base l (S0 ⟨ac, kp, rd, lk⟩ now) ∧ Below w.heap.size w ((w3.alloc (.map #[] 0)).alloc (hdCells (S0 ⟨ac, kp, rd, lk⟩ now) w3.heap.size (w1.heap.size + 1) (w2.heap.size + 1))) ∧ w.heap.size ≤ l.p ∧ l.F = F := fun w2 w3 hL hk B2 hs2 B3 hM => by
    have hs3 := B3.size
    have BA := below_then B1 B1.size (below_then B2 B2.size B3)
    have hM2 : Mr w3 base (w2.heap.size + 1) w2.heap.size rd 0 [] (fun _ => []) := ⟨hM.cells, hM.tab, by omega, by simp, hM.off, by simp⟩
    refine ⟨_, rfl, Pm.made F hL hk B3 (rb := w2.heap.size) ⟨⟨[], hM2, rfl, by omega⟩, InvK.empty, by show (0 : Int) ≤ rd; omega, g6, g5⟩ (by omega) (Nat.le_refl _) ⟨by omega, by omega, by omega⟩ rfl, below_alloc (below_alloc BA _) _, ?_, rfl⟩
    show w.heap.size ≤ w3.heap.size + 1
    omega
  unfold hdCells S0 at FIN
  dsimp only at FIN
  unfold S0
  clear b0 b1 b2 b3
  obtain ⟨b0, b1, b2, b3⟩ := CEL w1 (Below.refl _ _)
  have hmm := @run_makeMap Tryz.prog
  replace CEL := Aside0.mk CEL
  replace FIN := Aside0.mk FIN
  replace N2 := Aside0.mk N2
  clear B1 hb
  go_enter Tryz.func12, Tryz.ntmps12
  go_upto_region 1 with (fail)
  rw [← hw1]
  clear hw1
  go_upto_region 6 with (go_at_call 36; refine N.mono ?_; rintro e w2 ⟨rfl, hL, B2, hs2, hk⟩)
  clear N b0 b1 b2 b3
  obtain ⟨b0, b1, b2, b3⟩ := CEL.out w2 B2
  have N3 := N2.out w2 B2
  have K2 := Aside0.mk (And.intro hL (And.intro hk (And.intro B2 hs2)))
  clear hL hk hs2
  go_upto_region 9 with (go_at_call 37; refine N3.mono ?_; rintro e w3 ⟨rfl, hM, B3⟩)
  clear N3 b0 b1 b2 b3
  obtain ⟨b0, b1, b2, b3⟩ := CEL.out w3 (below_then B2 B2.size B3)
  obtain ⟨kL, kk, kB, ks⟩ := K2.out
  have K4 := Aside0.mk (FIN.out w2 w3 kL kk kB ks B3 hM)
  clear kL kk kB ks hM B3 B2
  go_wp2
  go_ret2
  exact K4.out
end Go.Proofs.YthaoedfalkebbaaGreat
namespace Go.Proofs.YthaoedfalkebbaaGreat
set_option linter.unusedVariables false
set_option linter.unusedSectionVars false
set_option linter.unusedSimpArgs false
section
variable {ρ : Type} {I : RdI ρ}
def NumSub (S' S : Sm ρ) : Prop := ∀ t ∈ S'.txs, ∃ u ∈ S.txs, u.num = t.num
theorem NumSub.refl (S : Sm ρ) : NumSub S S := fun t ht => ⟨t, ht, rfl⟩
theorem NumSub.trans {A B C : Sm ρ} (h : NumSub A B) (k : NumSub B C) : NumSub A C := fun t ht => by
  obtain ⟨u, hu, e⟩ := h t ht
  obtain ⟨v, hv, e2⟩ := k u hu
  exact ⟨v, hv, e2.trans e⟩
theorem forget_nums (S : Sm ρ) : NumSub (S.forget I) S := fun t ht => ⟨t, (List.mem_filter.1 ht).1, rfl⟩
theorem gone_nums (S : Sm ρ) (n : Int) : NumSub (S.gone I n) S := fun t ht => ⟨t, (List.mem_filter.1 (List.mem_filter.1 ht).1).1, rfl⟩
theorem put_nums (S : Sm ρ) (t : Tx) (so : Tx → Bool) (out : Bool) : NumSub (S.put I t so out).2 S := by
  unfold Sm.put
  split
  · exact gone_nums S _
  · intro x hx
    obtain ⟨o, ho, e⟩ := List.mem_map.1 hx
    refine ⟨o, ho, ?_⟩
    rw [← e]
    split
    · split <;> rfl
    · split <;> rfl
theorem noteS_nums (S : Sm ρ) (t : Tx) (x : Rd) (f u : ByteArray) : NumSub (S.noteS I t x f u).2 S := by
  unfold Sm.noteS
  split
  · exact gone_nums (I := I) { S with reads := (I.note S.reads t.num x).2 } t.num
  · exact put_nums (I := I) { S with reads := (I.note S.reads t.num x).2 } t _ true
theorem read_nums (S : Sm ρ) (tx : Int) (a : Lk) : NumSub (S.read I tx a).2 S := by
  unfold Sm.read
  split
  · exact NumSub.refl S
  · split
    · exact NumSub.refl S
    · exact noteS_nums S _ _ _ _
theorem scan_nums (S : Sm ρ) (tx : Int) (tb f u : ByteArray) : NumSub (S.scan I tx tb f u).2 S := by
  unfold Sm.scan
  split
  · exact NumSub.refl S
  · split
    · exact NumSub.refl S
    · exact noteS_nums S _ _ _ _
theorem write_nums (S : Sm ρ) (tx : Int) (a : Lk) (last : Int) : NumSub (S.write I tx a last).2 S := by
  unfold Sm.write
  split
  · exact NumSub.refl S
  · split
    · exact NumSub.refl S
    · split
      · exact NumSub.refl S
      · split
        · exact gone_nums S tx
        · split
          · exact gone_nums (I := I) { S with locks := _ } tx
          · exact put_nums (I := I) { S with locks := _ } _ _ false
theorem abort_nums (S : Sm ρ) (tx : Int) : NumSub (S.abort I tx).2 S := by
  unfold Sm.abort
  split
  · exact NumSub.refl S
  · exact gone_nums S tx
theorem ends_nums (S : Sm ρ) (tx : Int) : NumSub (S.ends tx) S := fun x hx => by
  obtain ⟨o, ho, e⟩ := List.mem_map.1 hx
  refine ⟨o, ho, ?_⟩
  rw [← e]
  split <;> rfl
theorem commit_nums (S : Sm ρ) (tx : Int) : NumSub (S.commit I tx).2 S := by
  unfold Sm.commit
  split
  · exact NumSub.refl S
  · split
    · exact gone_nums S tx
    · split
      · exact gone_nums S tx
      · refine (forget_nums (I := I) _).trans ?_
        split
        · exact fun t ht => ends_nums S tx t (List.mem_filter.1 ht).1
        · exact ends_nums S tx
end
end Go.Proofs.YthaoedfalkebbaaGreat
namespace Go.Proofs.YthaoedfalkebbaaGreat
open Go.RowKit Go.Maps Go.Sort Go.Lib Go.Shelf Go.Proofs.YthaoedfalkebbaaGreatW.PrintWords Go.Proofs.YthaoedfalkebbaaGreatW.PrintLast Go.Proofs.YthaoedfalkebbaaGreatW.PrintMore
set_option linter.unusedVariables false
set_option linter.unusedSimpArgs false
set_option linter.unusedSectionVars false
/-- what an operation leaves, wherever its parts have gone -/
def StQ (base : Nat) (l : Loc) (S S' : Sm St) (w w' : World) : Prop := ∃ l' : Loc, l'.p = l.p ∧ l'.F = l.F ∧ Pm w' base l' S' ∧ Fr (l.own S.txs) w w' ∧ ∀ k, l'.own S'.txs k → l.own S.txs k ∨ w.heap.size ≤ k
theorem own_sub {l : Loc} {S S' : Sm St} (hs : NumSub S' S) {n : Nat} : ∀ k, l.own S'.txs k → l.own S.txs k ∨ n ≤ k := fun k hk => by
  rcases hk with e | e | e | e | e | ⟨t, ht, e⟩
  · exact .inl (.inl e)
  · exact .inl (.inr (.inl e))
  · exact .inl (.inr (.inr (.inl e)))
  · exact .inl (.inr (.inr (.inr (.inl e))))
  · exact .inl (.inr (.inr (.inr (.inr (.inl e)))))
  · obtain ⟨u, hu, e2⟩ := hs t ht
    exact .inl (.inr (.inr (.inr (.inr (.inr ⟨u, hu, by rw [e, e2]⟩)))))
theorem OpQ.st {base : Nat} {l : Loc} {S : Sm St} {r : Int × Sm St} {w : World} {e : Ending} {w' : World} (h : OpQ base l S r w e w') (hs : NumSub r.2 S) : e = .returned (.int .i64 r.1) ∧ StQ base l S r.2 w w' := by
  obtain ⟨h1, rb', h2, h3, h4⟩ := h
  refine ⟨h1, { l with rb := rb' }, rfl, rfl, h2, h4, fun k hk => ?_⟩
  rcases hk with e | e | e | e | e | e
  · exact .inl (.inl e)
  · exact .inl (.inr (.inl e))
  · exact .inl (.inr (.inr (.inl e)))
  · exact .inl (.inr (.inr (.inr (.inl e))))
  · have e : k = rb' := e
    rcases h3 with h3 | h3
    · exact .inl (.inr (.inr (.inr (.inr (.inl (e.trans h3))))))
    · exact .inr (by omega)
  · exact own_sub hs k (.inr (.inr (.inr (.inr (.inr e)))))
def newT (S : Sm St) : Tx := ⟨S.last + 1, S.now, true, S.clock + 1, 0, false, false, []⟩
def begS (S : Sm St) : Sm St := { S with last := S.last + 1, clock := S.clock + 1, txs := S.txs ++ [newT S] }
theorem begin_new {S : Sm St} (h : ¬ S.caps.active ≤ S.acts) : S.begin = ((S.last + 1, S.now, 0), begS S) := by unfold Sm.begin; rw [if_neg h]; rfl
theorem got_none_tx {w : World} {base : Nat} {l : Loc} {S : Sm St} (h : Pm w base l S) : got (txL l.Q S.txs) (S.last + 1) = none := by
  rw [got_tx]
  have : S.txs.find? (fun t => t.num == S.last + 1) = none := by
    rw [List.find?_eq_none]
    intro t ht hp
    have := (h.nums t ht).2.1
    simp at hp
    omega
  rw [this]
  rfl
theorem Pm.born {w W : World} {base : Nat} {l : Loc} {S : Sm St} (h : Pm w base l S) (K N : Int) (hC : Cap S K N) (hok : okN (S.last + 1)) (q : Nat) (hq : w.heap.size ≤ q) (F : Fr (fun k => k = l.p ∨ k = l.mb) w W) (hh : W.heap[l.p]? = some (hdCells (begS S) l.mb l.lp l.rp)) (ht : TabT W l.mb (S.txs.length + 1) (txL l.Q S.txs ++ [(S.last + 1, some q)])) (hc : W.heap[q]? = some (txCells (newT S) (.slice none 0 0))) :
    Pm W base { l with Q := fun n => if n = S.last + 1 then q else l.Q n } (begS S) := by
  obtain ⟨hk, k1, k2, k3, k4, k5, k6, k7, k8, k9, k10, k11, k12⟩ := h.kinds
  have hQ : ∀ t ∈ S.txs, (if t.num = S.last + 1 then q else l.Q t.num) = l.Q t.num := fun t ht => by
    have := (h.nums t ht).2.1
    rw [if_neg (by omega)]
  have hlt : ∀ t ∈ S.txs, l.Q t.num < w.heap.size := fun t ht => h.lts _ (.inr (.inr (.inr (.inr (.inr ⟨t, ht, rfl⟩)))))
  have mem : ∀ t, t ∈ S.txs ++ [newT S] → t ∈ S.txs ∨ t = newT S := fun t ht => by
    rcases List.mem_append.1 ht with e | e
    · exact .inl e
    · exact .inr (List.mem_singleton.1 e)
  have hnn : (newT S).num = S.last + 1 := rfl
  constructor
  · exact hh
  · have e : txL (fun n => if n = S.last + 1 then q else l.Q n) (S.txs ++ [newT S]) = txL l.Q S.txs ++ [(S.last + 1, some q)] := by
      unfold txL
      rw [List.map_append]
      congr 1
      · exact List.map_congr_left fun t ht => by dsimp only; rw [hQ t ht]
      · simp [newT]
    show TabT W l.mb (S.txs ++ [newT S]).length (txL (fun n => if n = S.last + 1 then q else l.Q n) (S.txs ++ [newT S]))
    rw [e, List.length_append]
    exact ht
  · intro t ht'
    show ∃ v, W.heap[if t.num = S.last + 1 then q else l.Q t.num]? = some (txCells t v) ∧ ∃ ws, Lo Lck.cellsL 2 23 W base v ws ∧ ws.length ≤ 4096 ∧ (∀ a, a ∈ ws ↔ a ∈ t.wrote) ∧ ∀ b, v.ownBlock = some b → ¬ l.F b
    rcases mem t ht' with hm | rfl
    · rw [hQ t hm]
      obtain ⟨v, h1, ws, h2, h3⟩ := h.tx t hm
      obtain ⟨q1, q2, _⟩ := hk t hm
      refine ⟨v, F.block _ _ (fun e => by rcases e with e | e; exact q1 e; exact q2 e) h1, ws, h2.move fun g hg => ?_, h3⟩
      obtain ⟨_, _, cells, hcc⟩ := h2.typed g hg
      refine (F.block g _ (fun e => ?_) hcc).trans hcc.symm
      rcases e with e | e
      · rw [e, h.head] at hcc
        unfold hdCells at hcc
        simp at hcc
      · obtain ⟨es1, c1, hmap⟩ := h.tab.isMap
        rw [e, hmap] at hcc
        cases hcc
    · rw [if_pos hnn]
      exact ⟨_, hc, [], Lo.nil _ _, by simp, by simp [newT], fun b hb => by cases hb⟩
  · intro t ht' u hu e
    have e : (if t.num = S.last + 1 then q else l.Q t.num) = (if u.num = S.last + 1 then q else l.Q u.num) := e
    rcases mem t ht' with hm | rfl <;> rcases mem u hu with hm2 | rfl
    · rw [hQ t hm, hQ u hm2] at e
      exact h.qinj t hm u hm2 e
    · rw [hQ t hm, if_pos hnn] at e
      have := hlt t hm
      omega
    · rw [hQ u hm2, if_pos hnn] at e
      have := hlt u hm2
      omega
    · rfl
  · exact h.locks.fr F (fun e => by rcases e with e | e; exact k2 e.symm; exact k6 e) (fun e => by rcases e with e | e; exact k3 e.symm; exact h.ne1 e.symm)
  · obtain ⟨c, s, hcc⟩ := h.lkind
    exact ⟨c, s, F.block _ _ (fun e => by rcases e with e | e; exact k2 e.symm; exact k6 e) hcc⟩
  · refine h.reads.fr F (fun e => by rcases e with e | e; exact k4 e.symm; exact k10 e) (fun e => by rcases e with e | e; exact k5 e.symm; exact h.ne2 e.symm) (fun k c s hk2 hcc => ?_)
    rcases hk2 with e | e
    · rw [e, h.head] at hcc
      unfold hdCells at hcc
      simp at hcc
    · obtain ⟨es1, c1, hmap⟩ := h.tab.isMap
      rw [e, hmap] at hcc
      cases hcc
  · show (S.txs ++ [newT S]).Pairwise _
    rw [List.pairwise_append]
    refine ⟨h.dist, by simp, fun a ha b hb => ?_⟩
    rw [List.mem_singleton.1 hb]
    have := (h.nums a ha).2.1
    show a.num < S.last + 1
    omega
  · intro t ht'
    have hl := hC.last
    rcases mem t ht' with hm | rfl
    · have := h.nums t hm
      exact ⟨this.1, by show t.num ≤ S.last + 1; omega, this.2.2⟩
    · exact ⟨by show 1 ≤ S.last + 1; omega, by show S.last + 1 ≤ S.last + 1; omega, hok⟩
  · have := hC.few
    show (S.txs ++ [newT S]).length ≤ _
    simp
    omega
  · exact h.ne1
  · exact h.ne2
  · exact h.ne3
  · refine ⟨h.low.1, h.low.2.1, h.low.2.2.1, h.low.2.2.2.1, h.low.2.2.2.2.1, fun t ht' => ?_⟩
    show base ≤ (if t.num = S.last + 1 then q else l.Q t.num)
    rcases mem t ht' with hm | rfl
    · rw [hQ t hm]
      exact h.low.2.2.2.2.2 t hm
    · rw [if_pos hnn]
      have := h.low.1
      have := h.lts _ (.inl rfl)
      omega
/-- how many are under way, as the walk asks it -/
theorem act_ask (base : Nat) (l : Loc) (S : Sm St) (w : World) (h : Pm w base l S) (W : World) (B : Below w.heap.size w W) :
    Calls Tryz.prog 26 #[ptr l.p] W fun e w' => ∃ A c, e = .returned (.slice A S.acts c) ∧ Below W.heap.size W w' := by
  refine (Active_s base l S W (h.below B)).mono ?_
  rintro e w' ⟨v, rfl, hv, B2⟩
  obtain ⟨A, c, rfl, _⟩ := (Lo.ofR hv : Lo _ _ _ _ _ _ _).slice
  rw [actN_len]
  exact ⟨A, c, rfl, B2⟩
def hdC (a k r o now last clock : Int) (mb lp rp : Nat) : Obj := .cells #[.int .i64 a, .int .i64 k, .int .i64 r, .int .i64 o, .int .i64 now, .int .i64 last, .int .i64 clock, .map (some mb), ptr lp, ptr rp] 90 (0, 0)
theorem hdC_cells {w : World} {p mb lp rp : Nat} {a k r o now last clock : Int} (h : w.heap[p]? = some (hdC a k r o now last clock mb lp rp)) :
    w.cell? ⟨p, 0, none⟩ = some (.int .i64 a) ∧ w.cell? ⟨p, 1, none⟩ = some (.int .i64 k) ∧ w.cell? ⟨p, 4, none⟩ = some (.int .i64 now) ∧ w.cell? ⟨p, 5, none⟩ = some (.int .i64 last) ∧ w.cell? ⟨p, 6, none⟩ = some (.int .i64 clock) ∧ w.cell? ⟨p, 7, none⟩ = some (.map (some mb)) ∧ w.cell? ⟨p, 8, none⟩ = some (ptr lp) ∧ w.cell? ⟨p, 9, none⟩ = some (ptr rp) :=
  ⟨cell_of_row w p 0 _ 90 (0, 0) h, cell_of_row w p 1 _ 90 (0, 0) h, cell_of_row w p 4 _ 90 (0, 0) h, cell_of_row w p 5 _ 90 (0, 0) h, cell_of_row w p 6 _ 90 (0, 0) h, cell_of_row w p 7 _ 90 (0, 0) h, cell_of_row w p 8 _ 90 (0, 0) h, cell_of_row w p 9 _ 90 (0, 0) h⟩
def txC (num snap : Int) (act : Bool) (begun ended : Int) (fin fout : Bool) (v : Value) : Obj := .cells #[.int .i64 num, .int .i64 snap, .bool act, .int .i64 begun, .int .i64 ended, .bool fin, .bool fout, v] 101 (0, 0)
set_option maxHeartbeats 16000000 in
set_option maxRecDepth 100000 in
theorem Begin_walk (p mb lp rp n0 : Nat) (a k r o now last clock : Int) (w : World) (Post : Int → Int → Int → World → Prop) (H2 : World → Prop) (hn0 : n0 ≤ 65536) (hla : 0 ≤ last ∧ last ≤ 4611686018427387904) (hcl : 0 ≤ clock ∧ clock ≤ 4611686018427387904)
    (N : Calls Tryz.prog 38 #[ptr p] w fun e w' => e = .returned (.bool false) ∧ w = w')
    (hd : w.heap[p]? = some (hdC a k r o now last clock mb lp rp))
    (AC : ∀ n, Calls Tryz.prog 26 #[ptr p] (w.drewN n) fun e w2 => ∃ A c, e = .returned (.slice A n0 c) ∧ H2 w2)
    (C2 : ∀ W, H2 W → W.heap[p]? = some (hdC a k r o now last clock mb lp rp))
    (FULL : a ≤ n0 → ∀ W, H2 W → Post 0 0 4 W)
    (NEW : (n0 : Int) < a → ∀ W, H2 W → ∃ w5, (Instr.mapUpdate 86 (.map (some mb)) (.int .i64 (last + 1)) (ptr W.heap.size)).run Tryz.prog ((((W.setCell ⟨p, 5, none⟩ (.int .i64 (last + 1))).setCell ⟨p, 6, none⟩ (.int .i64 (clock + 1))).alloc (txC (last + 1) now true (clock + 1) 0 false false (.slice none 0 0))).drew) = .ok () w5 ∧ w5.heap[p]? = some (hdC a k r o now (last + 1) (clock + 1) mb lp rp) ∧ ∀ n, Post (last + 1) now 0 (w5.drewN n)) :
    Calls Tryz.prog 13 #[ptr p] w fun e w' => ∃ x y z, e = .returned (.tuple #[.int .i64 x, .int .i64 y, .int .i64 z]) ∧ Post x y z w' := by
  obtain ⟨c0, _⟩ := hdC_cells hd
  replace C2 := Aside0.mk C2
  replace FULL := Aside0.mk FULL
  replace NEW := Aside0.mk NEW
  have wl1 : IntKind.i64.wrap (last + 1) = last + 1 := IntWalk.i64_in _ (by omega)
  have wc1 : IntKind.i64.wrap (clock + 1) = clock + 1 := IntWalk.i64_in _ (by omega)
  clear hd
  go_enter Tryz.func13, Tryz.ntmps13
  go_wp2_with fail
  refine N.mono ?_
  rintro e w' ⟨rfl, rfl⟩
  go_wp2_with fail
  go_region_held3 (fun V => V.cell? ⟨p, 0, none⟩ = some (.int .i64 a)) (first | exact c0 | exact K2.1)
    ((go_at_call 26; refine (AC _).mono ?_; rintro e w2 ⟨A2, c2, rfl, B2⟩; have K2 := hdC_cells (C2.out w2 B2)))
  by_cases hf : a ≤ n0
  · have F := FULL.out hf w2 B2
    clear NEW C2 AC
    go_wp2
    go_ret3
    exact ⟨_, _, _, rfl, F⟩
  · have hf2 : (n0 : Int) < a := by omega
    have NW := NEW.out hf2 w2 B2
    have op2 := C2.out w2 B2
    have fz := blk_frozen op2
    obtain ⟨d0, d1, d4, d5, d6, d7, d8, d9⟩ := K2
    obtain ⟨w3, hw3⟩ : ∃ w3, w3 = (w2.setCell ⟨p, 5, none⟩ (.int .i64 (last + 1))).setCell ⟨p, 6, none⟩ (.int .i64 (clock + 1)) := ⟨_, rfl⟩
    have op3 : w3.heap[p]? = some (hdC a k r o now (last + 1) (clock + 1) mb lp rp) := by rw [hw3]; rw [blk_set (blk_set op2 5 _) 6 _]; rfl
    replace op3 := Aside0.mk op3
    clear FULL C2 AC op2 NEW
    replace hf2 := Aside0.mk hf2
    go_upto_region 7 with (fail)
    rw [← hw3]
    rw [← hw3] at NW
    have hsz : w2.heap.size = w3.heap.size := by rw [hw3]; simp [World.setCell]
    rw [hsz] at NW
    clear hw3 d0 d1 d4 d5 d6 d7 d8 d9 fz hsz
    obtain ⟨e0, e1, e4, e5, e6, e7, e8, e9⟩ := hdC_cells op3.out
    obtain ⟨w5, hmu, op5, P5⟩ := NW
    unfold txC at hmu
    obtain ⟨f0, f1, f4, f5, f6, f7, f8, f9⟩ := hdC_cells op5
    replace op5 := Aside0.mk op5
    go_region_held3 (fun V => V.cell? ⟨p, 7, none⟩ = some (.map (some mb)) ∧ V.cell? ⟨p, 5, none⟩ = some (.int .i64 (last + 1)) ∧ V.cell? ⟨p, 4, none⟩ = some (.int .i64 now) ∧ V.cell? ⟨p, 6, none⟩ = some (.int .i64 (clock + 1))) (first | exact ⟨e7, e5, e4, e6⟩ | exact ⟨below_cell (allocDB w3 _) e7, below_cell (allocDB w3 _) e5, below_cell (allocDB w3 _) e4, below_cell (allocDB w3 _) e6⟩ | exact ⟨below_cell (allocB w3 _) e7, below_cell (allocB w3 _) e5, below_cell (allocB w3 _) e4, below_cell (allocB w3 _) e6⟩ | exact ⟨f7, f5, f4, f6⟩) (fail)
    replace P5 := Aside0.mk P5
    clear e0 e1 e4 e5 e6 e7 e8 e9 hmu
    go_wp2_with fail
    go_region_held3 (fun V => V.cell? ⟨p, 5, none⟩ = some (.int .i64 (last + 1)) ∧ V.cell? ⟨p, 4, none⟩ = some (.int .i64 now)) (exact ⟨f5, f4⟩) (fail)
    go_wp2
    go_ret3
    exact ⟨_, _, _, rfl, P5.out 1⟩
theorem begin_full {S : Sm St} (h : S.caps.active ≤ S.acts) : S.begin = ((0, 0, 4), S) := by unfold Sm.begin; rw [if_pos h]
theorem Begin_s (base : Nat) (l : Loc) (S : Sm St) (w : World) (K N : Int) (h : Pm w base l S) (hC : Cap S K N) (hK : K ≤ 4611686018427387903) :
    Calls Tryz.prog 13 #[ptr l.p] w fun e w' => e = .returned (.tuple #[.int .i64 S.begin.1.1, .int .i64 S.begin.1.2.1, .int .i64 S.begin.1.2.2]) ∧ StQ base l S S.begin.2 w w' := by
  obtain ⟨_, _, _, _, _, _, _, c7, _, _⟩ := h.cells
  obtain ⟨hk, k1, k2, k3, k4, k5, k6, k7, k8, k9, k10, k11, k12⟩ := h.kinds
  have hl := hC.last
  have hcl := hC.clock
  have hok : okN (S.last + 1) := by
    show (Lit.int .i64 (S.last + 1)).wf = true
    simp only [Lit.wf, Bool.and_eq_true, decide_eq_true_eq]
    have e1 : IntKind.i64.min = -9223372036854775808 := by decide
    have e2 : IntKind.i64.max = 9223372036854775807 := by decide
    rw [e1, e2]
    omega
  have hfew := hC.few
  have hacts : S.acts ≤ S.txs.length := List.length_filter_le _ _
  refine (Begin_walk l.p l.mb l.lp l.rp S.acts S.caps.active S.caps.kept S.caps.reads S.caps.locks S.now S.last S.clock w (fun x y z W => ((x, y, z) : Int × Int × Int) = S.begin.1 ∧ StQ base l S S.begin.2 w W) (fun W => Below w.heap.size w W) (by omega) (by omega) (by omega) (none_s l.p l.mb w c7) h.head
    (fun n => (act_ask base l S w h (w.drewN n) (drewB2 w n)).mono fun e w' ⟨A, c, h1, h2⟩ => ⟨A, c, h1, below_then (drewB2 w n) (by simp) h2⟩) (fun W B => (h.below B).head) ?_ ?_).mono ?_
  · intro hf W B
    rw [begin_full hf]
    exact ⟨rfl, l, rfl, rfl, h.below B, Fr.ofBelow B, fun k hk => .inl hk⟩
  · intro hf W B
    have P := h.below B
    rw [begin_new (by omega)]
    obtain ⟨W3, hW3⟩ : ∃ W3, W3 = (((W.setCell ⟨l.p, 5, none⟩ (.int .i64 (S.last + 1))).setCell ⟨l.p, 6, none⟩ (.int .i64 (S.clock + 1))).alloc (txC (S.last + 1) S.now true (S.clock + 1) 0 false false (.slice none 0 0))).drew := ⟨_, rfl⟩
    have G1 : W.grownBy ((W.setCell ⟨l.p, 5, none⟩ (.int .i64 (S.last + 1))).setCell ⟨l.p, 6, none⟩ (.int .i64 (S.clock + 1))) (some l.p) := trans_grown (grown_set _ _ _ _) (grown_set _ _ _ _)
    obtain ⟨W2, hW2⟩ : ∃ W2, W2 = (W.setCell ⟨l.p, 5, none⟩ (.int .i64 (S.last + 1))).setCell ⟨l.p, 6, none⟩ (.int .i64 (S.clock + 1)) := ⟨_, rfl⟩
    have hsz : W2.heap.size = W.heap.size := by rw [hW2]; simp [World.setCell]
    have op2 : W2.heap[l.p]? = some (hdCells (begS S) l.mb l.lp l.rp) := by
      rw [hW2, blk_set (blk_set P.head 5 _) 6 _]
      rfl
    rw [← hW2] at hW3 G1
    rw [← hW2, ← hW3]
    have B3 : Below W2.heap.size W2 W3 := by rw [hW3]; exact allocDB W2 _
    have F3 : Fr (fun k => k = l.p) W W3 := (Fr.grown G1 |>.mono (O2 := fun k => k = l.p) (fun k hk _ => by injection hk with hk; exact hk.symm)).trans (Fr.ofBelow (O := fun _ => False) B3) (fun k hk _ => hk.elim)
    have T3 : TabT W3 l.mb S.txs.length (txL l.Q S.txs) := P.tab.fr F3 (fun e => k1 e.symm)
    obtain ⟨w5, hmu, T5, hturn⟩ := T3.store (t := 86) (e := 99) keyN valQ Tryz.underlying86 (by simp only [maxLen]; omega) hok (some W.heap.size)
    have G5 := Fr.grown (turned_grown hturn)
    have hq3 : W3.heap[W.heap.size]? = some (txCells (newT S) (.slice none 0 0)) := by
      rw [hW3, ← hsz]
      exact heap_alloc_new W2 _
    have F5 : Fr (fun k => k = l.p ∨ k = l.mb) W w5 := (F3.mono (fun k hk _ => .inl hk)).trans G5 (fun k hk _ => by injection hk with hk; exact .inr hk.symm)
    have h5 : w5.heap[l.p]? = some (hdCells (begS S) l.mb l.lp l.rp) := G5.block _ _ (fun e => by injection e with e; exact k1 e.symm) ((B3.block _ (Array.getElem?_eq_some_iff.1 op2).1).trans op2)
    have q5 : w5.heap[W.heap.size]? = some (txCells (newT S) (.slice none 0 0)) := G5.block _ _ (fun e => by injection e with e; have := P.lts _ (.inr (.inl rfl)); omega) hq3
    have eu : upd (txL l.Q S.txs) (S.last + 1) (some W.heap.size) = txL l.Q S.txs ++ [(S.last + 1, some W.heap.size)] := by
      unfold upd
      rw [got_none_tx h]
      rfl
    rw [eu] at T5
    have PB := P.born K N hC hok W.heap.size (Nat.le_refl _) F5 h5 T5 q5
    refine ⟨w5, hmu, h5, fun n => ⟨rfl, { l with Q := fun n => if n = S.last + 1 then W.heap.size else l.Q n }, rfl, rfl, PB.below (drewB2 w5 n), ?_, fun k hk => ?_⟩⟩
    · exact (((Fr.ofBelow (O := l.own S.txs) B).trans F5 (fun k hk _ => by rcases hk with e | e; exact .inl e; exact .inr (.inl e))).trans (Fr.drewN (O := fun _ => False) w5 n) (fun k hk _ => hk.elim))
    · rcases hk with e | e | e | e | e | ⟨t, ht, e⟩
      · exact .inl (.inl e)
      · exact .inl (.inr (.inl e))
      · exact .inl (.inr (.inr (.inl e)))
      · exact .inl (.inr (.inr (.inr (.inl e))))
      · exact .inl (.inr (.inr (.inr (.inr (.inl e)))))
      · have e : k = if t.num = S.last + 1 then W.heap.size else l.Q t.num := e
        by_cases h1 : t.num = S.last + 1
        · rw [if_pos h1] at e
          have := B.size
          exact .inr (by omega)
        · rw [if_neg h1] at e
          rcases List.mem_append.1 (show t ∈ S.txs ++ [newT S] from ht) with h2 | h2
          · exact .inl (.inr (.inr (.inr (.inr (.inr ⟨t, h2, e⟩)))))
          · exact absurd (by rw [List.mem_singleton.1 h2]; rfl) h1
  · rintro e w' ⟨x, y, z, rfl, h1, h2⟩
    rw [← h1]
    exact ⟨rfl, h2⟩
end Go.Proofs.YthaoedfalkebbaaGreat
namespace Go.Proofs.YthaoedfalkebbaaGreat
open Go.RowKit Go.Maps Go.Sort Go.Lib Go.Shelf Go.Proofs.YthaoedfalkebbaaGreatW.PrintWords Go.Proofs.YthaoedfalkebbaaGreatW.PrintLast Go.Proofs.YthaoedfalkebbaaGreatW.PrintMore
set_option linter.unusedVariables false
set_option linter.unusedSimpArgs false
set_option linter.unusedSectionVars false
set_option maxRecDepth 100000 in
theorem Now_s (base : Nat) (l : Loc) (S : Sm St) (w : World) (h : Pm w base l S) : Calls Tryz.prog 34 #[ptr l.p] w fun e w' => e = .returned (.int .i64 S.now) ∧ w = w' := by
  obtain ⟨_, _, _, _, c4, _, _, c7, _, _⟩ := h.cells
  have N := none_s l.p l.mb w c7
  clear h
  go_enter Tryz.func34, Tryz.ntmps34
  go_wp2_with fail
  refine N.mono ?_
  rintro e w' ⟨rfl, rfl⟩
  go_wp2
  go_ret
  exact ⟨rfl, rfl⟩
set_option maxHeartbeats 16000000 in
set_option maxRecDepth 100000 in
theorem Tracked_s (base : Nat) (l : Loc) (S : Sm St) (w : World) (K N : Int) (h : Pm w base l S) (hC : Cap S K N) : Calls Tryz.prog 24 #[ptr l.p] w fun e w' => e = .returned (.agg #[.int .i64 S.acts, .int .i64 ((S.txs.length : Int) - S.acts), .int .i64 S.reads.n, .int .i64 S.locks.length]) ∧ Below w.heap.size w w' := by
  obtain ⟨w1, hw1⟩ : ∃ w1, w1 = w.alloc (.cells #[.int .i64 0, .int .i64 0, .int .i64 0, .int .i64 0] 60) := ⟨_, rfl⟩
  have B1 : Below w.heap.size w w1 := by rw [hw1]; exact (Below.refl _ w).alloc (Nat.le_refl _) _
  have P1 := h.below B1
  have ob : w1.heap[w.heap.size]? = some (.cells #[.int .i64 0, .int .i64 0, .int .i64 0, .int .i64 0] 60 (0, 0)) := by rw [hw1]; exact heap_alloc_new w _
  obtain ⟨_, _, _, _, _, _, _, c7, c8, c9⟩ := P1.cells
  have N := none_s l.p l.mb w1 c7
  have AC := act_ask base l S w h w1 B1
  have hfew := hC.few
  have hacts : S.acts ≤ S.txs.length := List.length_filter_le _ _
  have CELS : ∀ W, Below w.heap.size w W → W.cell? ⟨l.p, 7, none⟩ = some (.map (some l.mb)) ∧ W.cell? ⟨l.p, 8, none⟩ = some (ptr l.lp) ∧ W.cell? ⟨l.p, 9, none⟩ = some (ptr l.rp) ∧ (Builtin.len_ #[86] 3 #[.map (some l.mb)]).run Tryz.prog W = .ok (.int .i64 (S.txs.length : Int)) W := fun W B => by
    have P := h.below B
    obtain ⟨_, _, _, _, _, _, _, c7, c8, c9⟩ := P.cells
    have := Tab.len (t := 86) Tryz.underlying86 P.tab 3
    unfold txL at this
    rw [List.length_map] at this
    exact ⟨c7, c8, c9, this⟩
  have L61 : ∀ W, Below w1.heap.size w1 W → ∀ n, Calls Tryz.prog 61 #[ptr l.rp] (W.drewN n) fun e w' => e = .returned (.int .i64 S.reads.n) ∧ W.drewN n = w' := fun W B n => Len_S base l.rp l.rb S.caps.reads S.reads _ ((P1.below B).below (drewB2 W n)).reads
  have L62 : ∀ W, Below w1.heap.size w1 W → ∀ n, Calls Tryz.prog 62 #[ptr l.lp] (W.drewN n) fun e w' => e = .returned (.int .i64 (S.locks.length : Int)) ∧ W.drewN n = w' := fun W B n => Lck.Len_calls l.lp l.lb S.caps.locks S.locks _ ((P1.below B).below (drewB2 W n)).locks
  have hwr : IntKind.i64.wrap ((S.txs.length : Int) - S.acts) = (S.txs.length : Int) - S.acts := IntWalk.i64_in _ (by omega)
  have CEL : ∀ W, Below w1.heap.size w1 W → W.heap[w.heap.size]? = some (.cells #[.int .i64 0, .int .i64 0, .int .i64 0, .int .i64 0] 60 (0, 0)) ∧ ∀ n, Below w.heap.size w (W.drewN n) := fun W B => ⟨(B.block _ (Array.getElem?_eq_some_iff.1 ob).1).trans ob, fun n => below_then (below_then B1 B1.size B) (below_then B1 B1.size B).size (drewB2 W n)⟩
  generalize (S.txs.length : Int) = tl at *
  generalize (S.locks.length : Int) = kl at *
  generalize S.reads.n = rn at *
  generalize S.acts = ac at *
  clear h P1 hC hfew hacts
  replace CEL := Aside0.mk CEL
  replace CELS := Aside0.mk CELS
  replace L61 := Aside0.mk L61
  replace L62 := Aside0.mk L62
  go_enter Tryz.func24, Tryz.ntmps24
  go_upto_region 1 with (fail)
  rw [← hw1]
  clear hw1
  go_wp2_with fail
  refine N.mono ?_
  rintro e w' ⟨rfl, rfl⟩
  go_wp2_with fail
  refine AC.mono ?_
  rintro e w2 ⟨A2, c2, rfl, B2⟩
  obtain ⟨ob2, BW⟩ := CEL.out w2 B2
  have obn : ∀ n, (w2.drewN n).heap[w.heap.size]? = some (.cells #[.int .i64 0, .int .i64 0, .int .i64 0, .int .i64 0] 60 (0, 0)) := fun n => ob2
  have fz := fun n => blk_frozen (obn n)
  have x0 := fun n => cell_of_row (w2.drewN n) _ 0 _ 60 (0, 0) (obn n)
  have x1 := fun n => cell_of_row (w2.drewN n) _ 1 _ 60 (0, 0) (obn n)
  have x2 := fun n => cell_of_row (w2.drewN n) _ 2 _ 60 (0, 0) (obn n)
  have x3 := fun n => cell_of_row (w2.drewN n) _ 3 _ 60 (0, 0) (obn n)
  have L61 := L61.out w2 B2
  have L62 := L62.out w2 B2
  clear CEL c7 c8 c9 ob B2
  replace obn := Aside0.mk obn
  replace BW := Aside0.mk BW
  have h4 : w.heap.size ≤ w.heap.size := Nat.le_refl _
  go_wp2_with fail
  go_region_held3 (fun V => V.cell? ⟨l.p, 7, none⟩ = some (.map (some l.mb)) ∧ V.cell? ⟨l.p, 8, none⟩ = some (ptr l.lp) ∧ V.cell? ⟨l.p, 9, none⟩ = some (ptr l.rp) ∧ (Builtin.len_ #[86] 3 #[.map (some l.mb)]).run Tryz.prog V = .ok (.int .i64 tl) V) (first | exact CELS.out _ (BW.out 0) | exact CELS.out _ (BW.out 1) | exact CELS.out _ (BW.out 2) | exact CELS.out _ (BW.out _) | exact CELS.out _ (((((BW.out 1).setCell h4 _).setCell h4 _).setCell h4 _).setCell h4 _))
    (first | (go_at_call 61; refine (L61 _).mono ?_; rintro e w3 ⟨rfl, rfl⟩) | (go_at_call 62; refine (L62 _).mono ?_; rintro e w3 ⟨rfl, rfl⟩))
  clear x0 x1 x2 x3 fz L61 L62 AC N
  go_wp2
  exact bodyPost_ret (results_cell_row rfl _ _ w.heap.size 60 #[.int .i64 ac, .int .i64 (tl - ac), .int .i64 rn, .int .i64 kl] (0, 0) _ rfl (by rw [blk_set (blk_set (blk_set (blk_set (obn.out 1) 0 _) 1 _) 2 _) 3 _]; rfl) Tryz.underlying60 rfl (by kernel_rfl)) rfl ⟨rfl, ((((BW.out 1).setCell h4 _).setCell h4 _).setCell h4 _).setCell h4 _⟩
end Go.Proofs.YthaoedfalkebbaaGreat
namespace Go.Proofs.YthaoedfalkebbaaGreat
set_option linter.unusedVariables false
set_option linter.unusedSectionVars false
def cntT : List Bool → Nat
  | [] => 0
  | b :: l => (if b then 1 else 0) + cntT l
theorem cntT_le : ∀ l : List Bool, cntT l ≤ l.length
  | [] => Nat.le_refl _
  | b :: l => by
    have := cntT_le l
    simp only [cntT, List.length_cons]
    split <;> omega
theorem cntT_all : ∀ l : List Bool, l.length ≤ cntT l → ∀ b ∈ l, b = true
  | [], _, b, hb => by cases hb
  | a :: l, h, b, hb => by
    have h1 := cntT_le l
    simp only [cntT, List.length_cons] at h
    cases a with
    | false => simp at h; omega
    | true =>
      simp at h
      rcases List.mem_cons.1 hb with rfl | hb
      · rfl
      · exact cntT_all l (by omega) b hb
theorem cntT_set : ∀ (l : List Bool) (i : Nat), l[i]? = some false → cntT (l.set i true) = cntT l + 1
  | [], i, h => by cases h
  | a :: l, 0, h => by
    simp at h
    subst h
    simp [cntT]
    omega
  | a :: l, i + 1, h => by
    have := cntT_set l i (by simpa using h)
    simp only [List.set_cons_succ, cntT, this]
    omega
def freeO (deps : List (Nat × Nat)) (g : List Bool) (i : Nat) : Bool := !(g[i]?.getD false) && deps.all (fun d => !(d.2 == i && d.1 != i && !(g[d.1]?.getD false)))
def stepO (deps : List (Nat × Nat)) (g : List Bool) (i : Nat) : List Bool := if freeO deps g i then g.set i true else g
def passO (deps : List (Nat × Nat)) (g : List Bool) (k : Nat) : List Bool := (List.range k).foldl (stepO deps) g
theorem passO_succ (deps : List (Nat × Nat)) (g : List Bool) (k : Nat) : passO deps g (k + 1) = stepO deps (passO deps g k) k := by
  unfold passO
  rw [List.range_succ, List.foldl_append]
  rfl
theorem stepO_len (deps : List (Nat × Nat)) (g : List Bool) (i : Nat) : (stepO deps g i).length = g.length := by
  unfold stepO
  split
  · exact List.length_set
  · rfl
theorem passO_len (deps : List (Nat × Nat)) (g : List Bool) : ∀ k, (passO deps g k).length = g.length
  | 0 => rfl
  | k + 1 => by rw [passO_succ, stepO_len, passO_len deps g k]
theorem freeO_false {deps : List (Nat × Nat)} {g : List Bool} {i : Nat} (hi : i < g.length) (h : freeO deps g i = true) : g[i]? = some false := by
  unfold freeO at h
  rw [Bool.and_eq_true] at h
  rw [List.getElem?_eq_getElem hi] at h ⊢
  simp at h
  rw [h.1]
theorem stepO_cnt {deps : List (Nat × Nat)} {g : List Bool} {i : Nat} (hi : i < g.length) : cntT (stepO deps g i) = cntT g + (if freeO deps g i then 1 else 0) := by
  unfold stepO
  by_cases h : freeO deps g i = true
  · rw [if_pos h, if_pos h]
    exact cntT_set g i (freeO_false hi h)
  · rw [if_neg h, if_neg h]
    rfl
theorem passO_cnt {deps : List (Nat × Nat)} {g : List Bool} : ∀ k, k ≤ g.length → cntT g ≤ cntT (passO deps g k)
  | 0, _ => Nat.le_refl _
  | k + 1, h => by
    have := passO_cnt (deps := deps) (g := g) k (by omega)
    rw [passO_succ, stepO_cnt (by rw [passO_len]; omega)]
    split <;> omega
/-- what is gone stays gone -/
theorem stepO_keep {deps : List (Nat × Nat)} {g : List Bool} {i j : Nat} (h : g[j]? = some true) : (stepO deps g i)[j]? = some true := by
  unfold stepO
  split
  · by_cases e : i = j
    · subst e
      exact List.getElem?_set_self (List.getElem?_eq_some_iff.1 h).1
    · rw [List.getElem?_set_ne e]; exact h
  · exact h
theorem passO_keep {deps : List (Nat × Nat)} {g : List Bool} {j : Nat} (h : g[j]? = some true) : ∀ k, (passO deps g k)[j]? = some true
  | 0 => h
  | k + 1 => by rw [passO_succ]; exact stepO_keep (passO_keep h k)
theorem freeO_keep {deps : List (Nat × Nat)} {g g' : List Bool} (hk : ∀ j : Nat, g[j]? = some true → g'[j]? = some true) {i : Nat} (h : freeO deps g i = true) (h' : g'[i]?.getD false = false) : freeO deps g' i = true := by
  unfold freeO at h ⊢
  rw [Bool.and_eq_true, List.all_eq_true] at h ⊢
  refine ⟨by rw [h']; rfl, fun d hd => ?_⟩
  have := h.2 d hd
  cases hg : g[d.1]?.getD false with
  | false =>
    rw [hg] at this
    simp only [Bool.not_false, Bool.and_true] at this
    cases h1 : (d.2 == i && d.1 != i) with
    | false => simp
    | true => rw [h1] at this; cases this
  | true =>
    have h2 : g[d.1]? = some true := by
      cases h3 : g[d.1]? with
      | none => rw [h3] at hg; cases hg
      | some b => rw [h3] at hg; simp at hg; rw [hg]
    rw [hk _ h2]
    simp
theorem passO_more {deps : List (Nat × Nat)} {g : List Bool} {i : Nat} (hi : i < g.length) (h : freeO deps g i = true) : cntT g < cntT (passO deps g g.length) := by
  have key : ∀ k, i + 1 ≤ k → k ≤ g.length → cntT g < cntT (passO deps g k) := by
    intro k
    induction k with
    | zero => intro h1; omega
    | succ k ih =>
      intro h1 h2
      rw [passO_succ, stepO_cnt (by rw [passO_len]; omega)]
      by_cases e : i = k
      · subst e
        have hle := passO_cnt (deps := deps) (g := g) i (by omega)
        cases hb : (passO deps g i)[i]?.getD false with
        | false =>
          have := freeO_keep (fun j hj => passO_keep (deps := deps) hj i) h hb
          rw [if_pos this]
          omega
        | true =>
          have key2 : ∀ k, k ≤ i → (passO deps g k)[i]? = some false := by
            intro k
            induction k with
            | zero => intro _; exact freeO_false hi h
            | succ k ih2 =>
              intro hk
              rw [passO_succ]
              unfold stepO
              split
              · rw [List.getElem?_set_ne (by omega)]; exact ih2 (by omega)
              · exact ih2 (by omega)
          rw [key2 i (Nat.le_refl _)] at hb
          cases hb
      · have := ih (by omega) (by omega)
        split <;> omega
  exact key _ (by omega) (Nat.le_refl _)
def loopO (deps : List (Nat × Nat)) : Nat → List Bool → List Bool
  | 0, g => g
  | k + 1, g => if cntT g < cntT (passO deps g g.length) then loopO deps k (passO deps g g.length) else passO deps g g.length
def orderedO (n : Nat) (deps : List (Nat × Nat)) : Bool := (loopO deps n (List.replicate n false)).all (fun b => b)
theorem loopO_all {deps : List (Nat × Nat)} {n : Nat} (H : ∀ g : List Bool, g.length = n → (∃ i : Nat, g[i]? = some false) → ∃ i, i < n ∧ freeO deps g i = true) :
    ∀ (k : Nat) (g : List Bool), g.length = n → n ≤ cntT g + k → ∀ b ∈ loopO deps k g, b = true
  | 0, g, hl, hk, b, hb => cntT_all g (by omega) b hb
  | k + 1, g, hl, hk, b, hb => by
    unfold loopO at hb
    have hp := passO_len deps g g.length
    by_cases h : cntT g < cntT (passO deps g g.length)
    · rw [if_pos h] at hb
      exact loopO_all H k _ (by omega) (by omega) b hb
    · rw [if_neg h] at hb
      have hall : ∀ b ∈ g, b = true := by
        intro b hb
        cases b with
        | true => rfl
        | false =>
          obtain ⟨i, hi⟩ := List.mem_iff_getElem?.1 hb
          obtain ⟨j, hj, hf⟩ := H g hl ⟨i, hi⟩
          exact absurd (passO_more (by omega) hf) h
      have hc : g.length ≤ cntT g := by
        clear hb h hp H hk hl
        induction g with
        | nil => exact Nat.le_refl _
        | cons a g ih =>
          have := ih (fun b hb => hall b (List.mem_cons_of_mem _ hb))
          have ha := hall a List.mem_cons_self
          subst ha
          simp only [cntT, List.length_cons, if_true]
          omega
      have := passO_cnt (deps := deps) (g := g) g.length (Nat.le_refl _)
      exact cntT_all _ (by omega) b hb
section
variable {ρ : Type} {I : RdI ρ} {ok : ρ → Prop} {most : Int}
theorem ordered_of {S : Sm ρ} {list : List Run} {G : List Gh} {vs : List Ver} {now : Int} (M : MI I ok S list G) (s : SI list G vs now) : orderedO list.length (depsW vs list) = true := by
  unfold orderedO
  rw [List.all_eq_true]
  refine loopO_all (n := list.length) (fun g hl hex => ?_) _ _ (by simp) (by omega)
  obtain ⟨i0, h0⟩ := hex
  obtain ⟨i, hi, hleft, hno⟩ := free_one M s (fun i => g[i]?.getD false = false) ⟨i0, by rw [← hl]; exact (List.getElem?_eq_some_iff.1 h0).1, by rw [h0]; rfl⟩
  refine ⟨i, hi, ?_⟩
  unfold freeO
  rw [Bool.and_eq_true, List.all_eq_true]
  refine ⟨by rw [hleft]; rfl, fun d hd => ?_⟩
  rw [Bool.not_eq_true']
  cases h1 : (d.2 == i) with
  | false => simp
  | true =>
    cases h2 : (d.1 != i) with
    | false => simp
    | true =>
      have := hno d.1 d.2 hd (by simpa using h1) (by simpa using h2)
      cases h3 : g[d.1]?.getD false with
      | false => exact absurd h3 this
      | true => rfl
end
end Go.Proofs.YthaoedfalkebbaaGreat
namespace Go.Proofs.YthaoedfalkebbaaGreat
set_option linter.unusedVariables false
set_option linter.unusedSectionVars false
set_option linter.unusedSimpArgs false
section
variable {ρ : Type} {I : RdI ρ} {ok : ρ → Prop} {most : Int}
def Kp (S : Sm ρ) : Prop := ∀ t ∈ S.txs, keepB S.txs t = true
end
end Go.Proofs.YthaoedfalkebbaaGreat
namespace Go.Proofs.YthaoedfalkebbaaGreat
set_option linter.unusedVariables false
set_option linter.unusedSectionVars false
set_option linter.unusedSimpArgs false
section
variable {ρ : Type} {I : RdI ρ} {ok : ρ → Prop} {most : Int}
/-- at most one is under way; nothing else is there -/
def Al (S : Sm ρ) : Prop := S.txs = [] ∨ ∃ t, S.txs = [t] ∧ t.act = true ∧ t.fin = false ∧ t.fout = false ∧ t.snap = S.now ∧ 1 ≤ t.num
end
end Go.Proofs.YthaoedfalkebbaaGreat
namespace Go.Proofs.YthaoedfalkebbaaGreat
set_option linter.unusedVariables false
set_option linter.unusedSectionVars false
set_option linter.unusedSimpArgs false
section
variable {ρ : Type} {I : RdI ρ} {ok : ρ → Prop} {most : Int}
theorem put_nil (S : Sm ρ) (t : Tx) (out : Bool) (h1 : t.fin = false ∨ t.fout = false) (so : Tx → Bool) (hso : ∀ o ∈ S.txs, so o = false) : S.put I t so out = (0, S) := by
  unfold Sm.put
  have e : S.txs.any (fun o => concB t o && so o) = false := by
    rw [List.any_eq_false]
    intro o ho
    rw [hso o ho]
    simp
  have e2 : S.txs.any (fun o => (concB t o && so o) && (!o.act && bothB o.fin o.fout out (!out))) = false := by
    rw [List.any_eq_false]
    intro o ho
    rw [hso o ho]
    simp
  rw [e, e2]
  have e3 : bothB t.fin t.fout (!out && false) (out && false) = false := by unfold bothB; rcases h1 with h1 | h1 <;> rw [h1] <;> simp
  rw [e3]
  simp only [Bool.or_false, Bool.false_eq_true, if_false]
  have e4 : S.txs.map (fun o => if o.num == t.num then o else if concB t o && so o then setF o out else o) = S.txs := by
    conv => rhs; rw [← List.map_id S.txs]
    apply List.map_congr_left
    intro o ho
    rw [hso o ho]
    simp
  rw [e4]
end
end Go.Proofs.YthaoedfalkebbaaGreat
namespace Go.Proofs.YthaoedfalkebbaaGreat
open Go.RowKit Go.Maps Go.Sort Go.Lib
set_option linter.unusedVariables false
set_option linter.unusedSimpArgs false
set_option linter.unusedSectionVars false
instance rdOK (x : Rd) : Decidable x.OK := decidable_of_iff (x.t.size ≤ reachBytes ∧ (Lit.int .i64 x.k).wf = true ∧ x.f.size ≤ reachBytes ∧ x.u.size ≤ reachBytes) ⟨fun ⟨a, b, c, d⟩ => ⟨a, b, c, d⟩, fun h => ⟨h.t, h.k, h.f, h.u⟩⟩
/-- the machine's notes; a note that never comes is refused -/
def iT (most : Int) : RdI St := ⟨fun r t x => if x.OK then noteP r most t x else (4, r), fun r t => (dropP r t).2, readP, fun r t => !(ofP r t).isEmpty, fun r => r.n⟩
theorem noteS_iT (most : Int) (S : Sm St) (t : Tx) (x : Rd) (f u : ByteArray) (h : x.OK) : S.noteS (iS most) t x f u = S.noteS (iT most) t x f u := by
  have e : (iT most).note S.reads t.num x = (iS most).note S.reads t.num x := by
    show (if x.OK then noteP S.reads most t.num x else (4, S.reads)) = _
    rw [if_pos h]
    rfl
  unfold Sm.noteS
  rw [e]
  rfl
theorem cov_refl (a : Rd) : cov a a = true := by
  unfold cov
  rw [less_irrefl, less_irrefl]
  cases (spn a).2.2 <;> rfl
theorem cov_trans {a b c : Rd} (h : cov a b = true) (k : cov b c = true) : cov a c = true := by
  unfold cov at *
  simp only [Bool.and_eq_true, Bool.or_eq_true, Bool.not_eq_true'] at *
  obtain ⟨h1, h2⟩ := h
  obtain ⟨k1, k2⟩ := k
  refine ⟨le_trans' h1 k1, ?_⟩
  rcases h2 with h2 | ⟨h2, h3⟩
  · exact .inl h2
  · rw [h2] at k2
    rcases k2 with k2 | ⟨k2, k3⟩
    · cases k2
    · exact .inr ⟨k2, le_trans' k3 h3⟩
theorem cov_whole (t : ByteArray) (z : Rd) : cov (whole t) z = true := by
  have e : spn (whole t) = (⟨#[]⟩, ⟨#[]⟩, false) := by unfold spn whole; simp
  unfold cov
  rw [e]
  have : (⟨#[]⟩ : ByteArray).toList = [] := by rw [Lib.toList_data]
  simp only [this, less_nil]
  rfl
/-- some note at the place covers the note -/
def HasC (R : Pl → List Rd) (q : Pl) (z : Rd) : Prop := ∃ y ∈ R q, cov y z = true
theorem HasC.left {R : Pl → List Rd} {q : Pl} {z : Rd} (h : HasC R q z) (t : Int) (x : Rd) : HasC (put1 R (t, x.t) (left (R (t, x.t)) x)) q z := by
  obtain ⟨y, hy, hc⟩ := h
  unfold HasC
  by_cases e : q = (t, x.t)
  · rw [e] at hy ⊢
    rw [put1_same]
    cases hxy : cov x y with
    | true => exact ⟨x, by unfold YthaoedfalkebbaaGreat.left; simp, cov_trans hxy hc⟩
    | false => exact ⟨y, by unfold YthaoedfalkebbaaGreat.left; exact List.mem_append_left _ (List.mem_filter.2 ⟨hy, by simp [hxy]⟩), hc⟩
  · rw [put1_other _ _ e]
    exact ⟨y, hy, hc⟩
theorem HasC.whole {R : Pl → List Rd} {p : Pl} {z : Rd} (h : HasC R p z) (q : Pl) : HasC (put1 R q [YthaoedfalkebbaaGreat.whole q.2]) p z := by
  obtain ⟨y, hy, hc⟩ := h
  unfold HasC
  by_cases e : p = q
  · rw [e, put1_same]
    exact ⟨_, List.mem_singleton.2 rfl, cov_whole _ _⟩
  · rw [put1_other _ _ e]
    exact ⟨y, hy, hc⟩
/-- what Note leaves: nothing is lost -/
theorem noteP_keeps {S : St} (hI : InvK S) {most t : Int} {x : Rd} (hx : x.OK) {q : Pl} {z : Rd} (h : HasC S.R q z) : HasC (noteP S most t x).2.R q z := by
  unfold noteP
  split
  · exact h
  · rename_i h1
    simp only [not_or, Int.not_lt, Bool.not_eq_false] at h1
    split
    · exact h
    · rename_i h2
      split
      · exact h
      · rename_i R' n' he
        have hn := hI.note h1.1 hx h1.2 (by simpa using h2)
        exact (coarse_keeps (most := most) (fun R => HasC R q z) (fun R p hR _ => hR.whole p) _ _ _ R' n' (Nat.le_refl _) hn (h.left t x) he).2.1
theorem noteP_new {S : St} (hI : InvK S) {most t : Int} {x : Rd} (hx : x.OK) (h0 : (noteP S most t x).1 = 0) : HasC (noteP S most t x).2.R (t, x.t) x := by
  unfold noteP at h0 ⊢
  split
  · rename_i h1
    rw [if_pos h1] at h0
    cases h0
  · rename_i h1
    rw [if_neg h1] at h0
    simp only [not_or, Int.not_lt, Bool.not_eq_false] at h1
    split
    · rename_i h2
      obtain ⟨y, hy, hc⟩ := List.any_eq_true.1 h2
      exact ⟨y, hy, hc⟩
    · rename_i h2
      rw [if_neg h2] at h0
      split
      · rename_i he
        rw [he] at h0
        cases h0
      · rename_i R' n' he
        have hn := hI.note h1.1 hx h1.2 (by simpa using h2)
        refine (coarse_keeps (most := most) (fun R => HasC R (t, x.t) x) (fun R p hR _ => hR.whole p) _ _ _ R' n' (Nat.le_refl _) hn ?_ he).2.1
        exact ⟨x, by rw [put1_same]; unfold left; simp, cov_refl _⟩
theorem noteP_K {S : St} {most t : Int} {x : Rd} : ∀ q ∈ (noteP S most t x).2.K, q ∈ S.K ∨ q.1 = t := by
  intro q hq
  unfold noteP at hq
  split at hq
  · exact .inl hq
  · split at hq
    · exact .inl hq
    · split at hq
      · exact .inl hq
      · rcases mem_keysK.1 hq with rfl | h
        · exact .inr rfl
        · exact .inl h
theorem mem_readP {S : St} {tab key : ByteArray} {n : Int} : n ∈ readP S tab key ↔ ∃ q ∈ S.K, q.1 = n ∧ q.2.toList = tab.toList ∧ ∃ y ∈ S.R q, holdB y key = true := by
  unfold readP
  rw [(rise_spec _).2]
  constructor
  · intro h
    obtain ⟨q, hq, e⟩ := List.mem_map.1 h
    obtain ⟨h1, h2⟩ := List.mem_filter.1 hq
    rw [Bool.and_eq_true, List.any_eq_true] at h2
    exact ⟨q, h1, e, by simpa using h2.1, h2.2⟩
  · rintro ⟨q, h1, e, h2, h3⟩
    refine List.mem_map.2 ⟨q, List.mem_filter.2 ⟨h1, ?_⟩, e⟩
    rw [Bool.and_eq_true, List.any_eq_true]
    exact ⟨by simpa using h2, h3⟩
theorem has_iff {S : St} (h : InvK S) (n : Int) : (!(ofP S n).isEmpty) = true ↔ ∃ q ∈ S.K, q.1 = n := by
  unfold ofP
  rw [Bool.not_eq_true', ← Bool.not_eq_true, List.isEmpty_iff]
  constructor
  · intro h2
    by_cases e : ∃ q ∈ S.K, q.1 = n
    · exact e
    · exfalso
      apply h2
      have : S.K.filter (fun q => q.1 == n) = [] := by
        rw [List.filter_eq_nil_iff]
        intro q hq h3
        exact e ⟨q, hq, by simpa using h3⟩
      rw [this]
      rfl
  · rintro ⟨q, hq, e⟩ h2
    have hp := h.pos q hq
    apply hp
    have : ∀ z, z ∈ (S.K.filter (fun q => q.1 == n)).flatMap S.R → False := fun z hz => by rw [h2] at hz; cases hz
    cases hR : S.R q with
    | nil => rfl
    | cons z l => exact (this z (List.mem_flatMap.2 ⟨q, List.mem_filter.2 ⟨hq, by simpa using e⟩, by rw [hR]; exact List.mem_cons_self⟩)).elim
theorem dropP_inv {S : St} (h : InvK S) (t : Int) : InvK (dropP S t).2 := by
  unfold dropP
  split
  · exact h
  · exact dropS_inv h t
theorem dropP_le {S : St} (h : InvK S) (t : Int) : (dropP S t).2.n ≤ S.n := by
  unfold dropP
  split
  · exact Int.le_refl _
  · exact dropS_le h t
theorem iT_law (most : Int) : RdL (iT most) (fun r => InvK r ∧ r.n ≤ most) most where
  note_ok r t x h := by
    show InvK (if x.OK then noteP r most t x else (4, r)).2 ∧ (if x.OK then noteP r most t x else (4, r)).2.n ≤ most
    split
    · rename_i hx; exact noteP_inv h.1 hx h.2
    · exact h
  note_bad r t x h h0 := by
    change (if x.OK then noteP r most t x else (4, r)).1 ≠ 0 at h0
    show (if x.OK then noteP r most t x else (4, r)).2 = r
    split
    · rename_i hx
      rw [if_pos hx] at h0
      unfold noteP at h0 ⊢
      split
      · rfl
      · rename_i h1
        rw [if_neg h1] at h0
        split
        · rfl
        · rename_i h2
          rw [if_neg h2] at h0
          split
          · rfl
          · rename_i R' n' he
            rw [he] at h0
            exact absurd rfl h0
    · rfl
  note_err r t x h ht hm := by
    show (if x.OK then noteP r most t x else (4, r)).1 = 0 ∨ (if x.OK then noteP r most t x else (4, r)).1 = 4
    split
    · unfold noteP
      rw [if_neg (by rw [hm]; simp; omega)]
      split
      · exact .inl rfl
      · split
        · exact .inr rfl
        · exact .inl rfl
    · exact .inr rfl
  note_keep r t x tb key n h hn := by
    change n ∈ readP r tb key at hn
    show n ∈ readP (if x.OK then noteP r most t x else (4, r)).2 tb key
    split
    · rename_i hx
      rw [mem_readP] at hn ⊢
      obtain ⟨q, hq, e, h2, y, hy, h3⟩ := hn
      obtain ⟨z, hz, hc⟩ := noteP_keeps h.1 hx (most := most) (t := t) (x := x) ⟨y, hy, cov_refl y⟩
      have hI := noteP_inv h.1 hx h.2 (t := t)
      refine ⟨q, ?_, e, h2, z, hz, cov_holds hc h3⟩
      by_cases h4 : q ∈ (noteP r most t x).2.K
      · exact h4
      · rw [hI.1.off q h4] at hz; cases hz
    · exact hn
  note_new r t x key h h0 hh := by
    change (if x.OK then noteP r most t x else (4, r)).1 = 0 at h0
    show t ∈ readP (if x.OK then noteP r most t x else (4, r)).2 x.t key
    split
    · rename_i hx
      rw [if_pos hx] at h0
      obtain ⟨z, hz, hc⟩ := noteP_new h.1 hx h0
      have hI := noteP_inv h.1 hx h.2 (t := t)
      rw [mem_readP]
      refine ⟨(t, x.t), ?_, rfl, rfl, z, hz, cov_holds hc hh⟩
      by_cases h4 : (t, x.t) ∈ (noteP r most t x).2.K
      · exact h4
      · rw [hI.1.off _ h4] at hz; cases hz
    · rename_i hx
      rw [if_neg hx] at h0
      cases h0
  note_has r t x n h h0 := by
    change (!(ofP (if x.OK then noteP r most t x else (4, r)).2 n).isEmpty) = true at h0
    show (!(ofP r n).isEmpty) = true ∨ n = t
    split at h0
    · rename_i hx
      rw [has_iff (noteP_inv h.1 hx h.2 (t := t)).1] at h0
      obtain ⟨q, hq, e⟩ := h0
      rcases noteP_K q hq with h2 | h2
      · exact .inl ((has_iff h.1 n).2 ⟨q, h2, e⟩)
      · exact .inr (e.symm.trans h2)
    · exact .inl h0
  drop_ok r t h := ⟨dropP_inv h.1 t, Int.le_trans (dropP_le h.1 t) h.2⟩
  drop_rdrs r t tb key n h ht hne hn := by
    change n ∈ readP r tb key at hn
    show n ∈ readP (dropP r t).2 tb key
    rw [dropP_pos r ht]
    rw [mem_readP] at hn ⊢
    obtain ⟨q, hq, e, h2, y, hy, h3⟩ := hn
    refine ⟨q, List.mem_filter.2 ⟨hq, by simp; omega⟩, e, h2, y, ?_, h3⟩
    show y ∈ dropR r.R t q
    rw [dropR_other _ (by omega)]
    exact hy
  drop_has r t n h ht h0 := by
    change (!(ofP (dropP r t).2 n).isEmpty) = true at h0
    show (!(ofP r n).isEmpty) = true ∧ n ≠ t
    rw [has_iff (dropP_inv h.1 t)] at h0
    obtain ⟨q, hq, e⟩ := h0
    rw [dropP_pos r ht] at hq
    obtain ⟨h1, h2⟩ := List.mem_filter.1 hq
    have h2 : q.1 ≠ t := by simpa using h2
    exact ⟨(has_iff h.1 n).2 ⟨q, h1, e⟩, by omega⟩
  rdrs_has r tb key n h hn := by
    change n ∈ readP r tb key at hn
    show (!(ofP r n).isEmpty) = true
    obtain ⟨q, hq, e, _⟩ := mem_readP.1 hn
    exact (has_iff h.1 n).2 ⟨q, hq, e⟩
  len_le r h := h.2
  len_none r h h0 := by
    show r.n = 0
    have e : r.K = [] := by
      cases hK : r.K with
      | nil => rfl
      | cons q K =>
        have h2 : (!(ofP r q.1).isEmpty) = true := (has_iff h.1 q.1).2 ⟨q, by rw [hK]; exact List.mem_cons_self, rfl⟩
        have h3 : (!(ofP r q.1).isEmpty) = false := h0 q.1
        rw [h2] at h3
        cases h3
    rw [h.1.sum, e]
    rfl
end Go.Proofs.YthaoedfalkebbaaGreat
namespace Go.Proofs.YthaoedfalkebbaaGreat
open Go.RowKit Go.Maps Go.Sort Go.Lib Go.Shelf Go.Proofs.YthaoedfalkebbaaGreatW.PrintWords Go.Proofs.YthaoedfalkebbaaGreatW.PrintLast Go.Proofs.YthaoedfalkebbaaGreatW.PrintMore
set_option linter.unusedVariables false
set_option linter.unusedSimpArgs false
set_option linter.unusedSectionVars false
theorem fld60 (x y z k : Int) (w : World) : (Instr.field 60 (.agg #[.int .i64 x, .int .i64 y, .int .i64 z, .int .i64 k]) 3).run Tryz.prog w = .ok (.int .i64 k) w := by kernel_rfl
theorem Pm.ownLow {w : World} {base : Nat} {l : Loc} {S : Sm St} (h : Pm w base l S) : ∀ k, l.own S.txs k → base ≤ k := by
  intro k hk
  obtain ⟨h1, h2, h3, h4, h5, h6⟩ := h.low
  rcases hk with rfl | rfl | rfl | rfl | rfl | ⟨t, ht, rfl⟩
  · exact h1
  · exact h2
  · exact h4
  · exact h.reads.low
  · exact h5
  · exact h6 t ht
/-- ahead of the manager nothing changes -/
theorem StQ.below {base : Nat} {l : Loc} {S S' : Sm St} {w w' : World} (h : StQ base l S S' w w') (P : Pm w base l S) (hb : base ≤ w.heap.size) : Below base w w' := by
  obtain ⟨l', _, _, _, F, _⟩ := h
  exact F.below hb P.ownLow
def bgC : Cp := ⟨2, 2, 2, 2⟩
def bg1 : Sm St := begS (S0 bgC 5)
theorem bg_begin : (S0 bgC 5).begin = ((1, 5, 0), bg1) := rfl
theorem bg_write (a : Lk) : bg1.write (iS 2) 1 a 0 = (0, { bg1 with locks := [(a, 1)] }) := by
  unfold Sm.write
  have e : bg1.actv 1 = some (newT (S0 bgC 5)) := rfl
  rw [e]
  dsimp only
  rw [if_neg (by decide), if_neg (by simp [bg1, begS, S0, holder])]
  have e2 : tk bg1.caps.locks bg1.locks 1 (newT (S0 bgC 5)).snap 0 a = (0, [(a, 1)]) := rfl
  rw [e2]
  dsimp only
  rw [if_neg (by simp)]
  have e3 : bg1.txs.any (fun o => concB (newT (S0 bgC 5)) o && (!o.act && decide (a ∈ o.wrote))) = false := rfl
  rw [if_neg (by rw [e3]; decide)]
  refine put_nil (I := iS 2) { bg1 with locks := [(a, 1)] } (newT (S0 bgC 5)) false (.inl rfl) _ (fun o ho => ?_)
  refine decide_eq_false (fun hm => ?_)
  obtain ⟨q, hq, _⟩ := mem_readP.1 (show o.num ∈ readP St0 a.1 a.2 from hm)
  cases hq
theorem bg_cap0 : Cap (S0 bgC 5) 0 5 := Cap.start bgC 5 (by decide) (by decide)
theorem bg_cap1 : Cap bg1 1 5 := bg_cap0.begin
set_option maxHeartbeats 16000000 in
set_option maxRecDepth 100000 in
theorem begun_calls (w : World) : Calls Tryz.prog 11 #[] w fun e w' => e = .returned (.bool true) ∧ Below w.heap.size w w' := by
  have NW := New_s bgC 5 w.heap.size (fun _ => False) w (Nat.le_refl _) (by decide) (by decide)
  have BG : ∀ l W, Pm W w.heap.size l (S0 bgC 5) → Calls Tryz.prog 13 #[ptr l.p] W fun e w' => e = .returned (.tuple #[.int .i64 1, .int .i64 5, .int .i64 0]) ∧ ∃ l' : Loc, l'.p = l.p ∧ Pm w' w.heap.size l' bg1 ∧ (w.heap.size ≤ W.heap.size → Below w.heap.size W w') := fun l W P => by
    have := Begin_s w.heap.size l (S0 bgC 5) W 0 5 P bg_cap0 (by decide)
    rw [bg_begin] at this
    refine this.mono ?_
    rintro e w' ⟨rfl, hS⟩
    have hS2 := hS
    obtain ⟨l', h1, h2, h3, h4⟩ := hS
    exact ⟨rfl, l', h1, h3, fun hb => hS2.below P hb⟩
  have WR : ∀ l W (s u : ByteArray), Pm W w.heap.size l bg1 → s.size ≤ reachBytes → u.size ≤ reachBytes → Calls Tryz.prog 15 #[ptr l.p, .int .i64 1, .agg #[.string s, .string u], .int .i64 0] W fun e w' => e = .returned (.int .i64 0) ∧ ∃ l' : Loc, l'.p = l.p ∧ Pm w' w.heap.size l' { bg1 with locks := [((s, u), 1)] } ∧ (w.heap.size ≤ W.heap.size → Below w.heap.size W w') := fun l W s u P h1 h2 => by
    have := Write_s w.heap.size l bg1 1 (s, u) 0 W 1 5 P bg_cap1 (by show (Lit.int .i64 1).wf = true; decide) ⟨h1, h2⟩
    refine this.mono ?_
    intro e w' hQ
    obtain ⟨h3, hS⟩ := hQ.st (write_nums _ _ _ _)
    have e1 := bg_write (s, u)
    rw [show bg1.caps.reads = 2 from rfl, e1] at h3 hS
    have hS2 := hS
    obtain ⟨l', g1, g2, g3, g4⟩ := hS
    exact ⟨h3, l', g1, g3, fun hb => hS2.below P hb⟩
  have TR : ∀ l W (s u : ByteArray), Pm W w.heap.size l { bg1 with locks := [((s, u), 1)] } → Calls Tryz.prog 24 #[ptr l.p] W fun e w' => ∃ x y z, e = .returned (.agg #[.int .i64 x, .int .i64 y, .int .i64 z, .int .i64 1]) ∧ Below W.heap.size W w' := fun l W s u P => by
    have := Tracked_s w.heap.size l _ W 1 5 P (bg_cap1.lks (by show ((1 : Nat) : Int) ≤ 2; decide))
    refine this.mono ?_
    rintro e w' ⟨rfl, h2⟩
    exact ⟨_, _, _, rfl, h2⟩
  replace BG := Aside0.mk BG
  replace WR := Aside0.mk WR
  replace TR := Aside0.mk TR
  unfold bgC Cp.cells at NW
  dsimp only at NW
  go_enter Tryz.func11, Tryz.ntmps11
  go_wp2_with fail
  refine NW.mono ?_
  rintro e w1 ⟨l, rfl, P1, B1, -, -⟩
  have BG1 := BG.out l w1 P1
  obtain ⟨p, hp⟩ : ∃ p, p = l.p := ⟨_, rfl⟩
  rw [← hp] at BG1 ⊢
  clear NW P1 hp
  go_wp2_with fail
  refine BG1.mono ?_
  rintro e w2 ⟨rfl, l2, e2, P2, B2⟩
  have B2' := B1.trans (B2 B1.size)
  have WR2 := fun s u => WR.out l2 w2 s u P2
  rw [e2] at WR2
  clear BG1 B2 P2
  replace e2 := Aside0.mk e2
  go_wp2_with fail
  refine (WR2 _ _ (by decide) (by decide)).mono ?_
  rintro e w3 ⟨rfl, l3, e3, P3, B3⟩
  have B3' := B2'.trans (B3 B2'.size)
  have TR2 := TR.out l3 w3 _ _ P3
  rw [e3] at TR2
  clear WR2 B3 P3 e3 e2
  go_wp2_with fail
  refine TR2.mono ?_
  rintro e w4 ⟨x, y, z, rfl, B4⟩
  clear TR2
  have B4' := below_then B3' B3'.size B4
  have hf := fld60 x y z 1 w4
  go_wp2
  go_ret
  exact ⟨rfl, B4'⟩
end Go.Proofs.YthaoedfalkebbaaGreat
namespace Go.Proofs.YthaoedfalkebbaaGreat
open Go.RowKit Go.Maps Go.Sort Go.Lib Go.Shelf Go.Proofs.YthaoedfalkebbaaGreatW.PrintWords Go.Proofs.YthaoedfalkebbaaGreatW.PrintLast Go.Proofs.YthaoedfalkebbaaGreatW.PrintMore
set_option linter.unusedVariables false
set_option linter.unusedSimpArgs false
set_option linter.unusedSectionVars false
structure Opn.OK (x : Opn) : Prop where
  kind : (Lit.int .i64 x.kind).wf = true
  tx : okN x.tx
  at_ : LkOK x.at_
  to_ : x.to_.size ≤ reachBytes
  last : (Lit.int .i64 x.last).wf = true
end Go.Proofs.YthaoedfalkebbaaGreat
namespace Go.Proofs.YthaoedfalkebbaaGreat
open Go.ChangeShapes Go.WideShapes Go.ChangeAt Go.RowKit Go.Lib Go.Proofs.YthaoedfalkebbaaGreatW.PrintWords Go.Proofs.YthaoedfalkebbaaGreatW.PrintLast Go.Proofs.YthaoedfalkebbaaGreatW.PrintMore
open Go.Deep (open_slice)
set_option linter.unusedVariables false
set_option linter.unusedSimpArgs false
set_option linter.unusedSectionVars false
theorem cellsT2 : Tryz.prog.cellsOf 2 = 1 := by kernel_rfl
theorem cellsT3 : Tryz.prog.cellsOf 3 = 1 := by kernel_rfl
theorem cells9' : Tryz.prog.cellsOf 9 = 1 := by kernel_rfl
theorem cells23' : Tryz.prog.cellsOf 23 = 2 := by kernel_rfl
section
variable {H : Type} {enc : TypeId × Value → H} {w : World} {base : Nat} {spare : Nat → Bool} {held : Bool}
set_option maxRecDepth 100000 in
theorem opens_lk {fuel : Nat} {cs : List Value} {y : DataW H × List MemPlace} (h : DataW.trod enc Tryz.prog w base spare held fuel 23 cs = some y) (hl : Light Tryz.prog 23 y.1) : ∃ a : Lk, cs = [.string a.1, .string a.2] ∧ LkOK a := by
  obtain ⟨hc, hf⟩ := opens_fields Tryz.underlying23 h hl
  have hc2 : cs.length = 2 := hc.trans cells23'
  match cs, hc2 with
  | [v0, v1], _ =>
    have f0 : FldAt enc Tryz.prog w base spare held [v0, v1] 9 0 := hf 0 _ rfl
    obtain ⟨n0, y0, t0, g0⟩ := f0
    have f1 : FldAt enc Tryz.prog w base spare held [v0, v1] 9 1 := hf 1 _ rfl
    obtain ⟨n1, y1, t1, g1⟩ := f1
    simp only [cells9', List.drop_zero, List.drop_succ_cons, List.take_succ_cons, List.take_zero] at t0 t1
    obtain ⟨s, e0, w0⟩ := opens_string Tryz.underlying9 _ _ _ t0 g0
    obtain ⟨u, e1, w1⟩ := opens_string Tryz.underlying9 _ _ _ t1 g1
    cases e0; cases e1
    exact ⟨(s, u), rfl, w0, w1⟩
def encOn (o : Opn) : List Value := [.int .i64 o.kind, .int .i64 o.tx, .string o.at_.1, .string o.at_.2, .string o.to_, .int .i64 o.last]
abbrev dOn : Kd Opn := Kd.flat encOn 6 (fun _ => rfl) (fun o u hu => by simp only [encOn, List.mem_cons, List.not_mem_nil, or_false] at hu; rcases hu with rfl | rfl | rfl | rfl | rfl | rfl <;> rfl)
set_option maxRecDepth 100000 in
theorem opens_opn : Opens enc Tryz.prog w base spare held 36 dOn Opn.OK := by
  intro fuel cs y h hl
  obtain ⟨hc, hf⟩ := opens_fields Tryz.underlying36 h hl
  have hc6 : cs.length = 6 := hc.trans (by kernel_rfl)
  match cs, hc6 with
  | [v0, v1, v2, v3, v4, v5], _ =>
    have f0 : FldAt enc Tryz.prog w base spare held [v0, v1, v2, v3, v4, v5] 3 0 := hf 0 _ rfl
    obtain ⟨n0, y0, t0, g0⟩ := f0
    have f1 : FldAt enc Tryz.prog w base spare held [v0, v1, v2, v3, v4, v5] 2 1 := hf 1 _ rfl
    obtain ⟨n1, y1, t1, g1⟩ := f1
    have f2 : FldAt enc Tryz.prog w base spare held [v0, v1, v2, v3, v4, v5] 23 2 := hf 2 _ rfl
    obtain ⟨n2, y2, t2, g2⟩ := f2
    have f3 : FldAt enc Tryz.prog w base spare held [v0, v1, v2, v3, v4, v5] 9 4 := hf 3 _ rfl
    obtain ⟨n3, y3, t3, g3⟩ := f3
    have f4 : FldAt enc Tryz.prog w base spare held [v0, v1, v2, v3, v4, v5] 2 5 := hf 4 _ rfl
    obtain ⟨n4, y4, t4, g4⟩ := f4
    simp only [cellsT2, cellsT3, cells9', cells23', List.drop_zero, List.drop_succ_cons, List.take_succ_cons, List.take_zero] at t0 t1 t2 t3 t4
    obtain ⟨a0, e0, w0⟩ := opens_int (k := .i64) Tryz.underlying3 _ _ _ t0 g0
    obtain ⟨a1, e1, w1⟩ := opens_int (k := .i64) Tryz.underlying2 _ _ _ t1 g1
    obtain ⟨a2, e2, w2⟩ := opens_lk t2 g2
    obtain ⟨a3, e3, w3⟩ := opens_string Tryz.underlying9 _ _ _ t3 g3
    obtain ⟨a4, e4, w4⟩ := opens_int (k := .i64) Tryz.underlying2 _ _ _ t4 g4
    cases e0; cases e1; cases e2; cases e3; cases e4
    exact ⟨⟨a0, a1, a2, a3, a4⟩, rfl, ⟨w0, w1, w2, w3, w4⟩⟩
structure Cp.OK (c : Cp) : Prop where
  a : (Lit.int .i64 c.active).wf = true
  k : (Lit.int .i64 c.kept).wf = true
  r : (Lit.int .i64 c.reads).wf = true
  l : (Lit.int .i64 c.locks).wf = true
set_option maxRecDepth 100000 in
theorem open_cp {ts : List TypeId} {ds : List (DataW H)} (hsz : (DataW.weightsEach Tryz.prog ts ds).all (· ≤ reachBytes) = true) {j : Nat} {r : Reach} {b0 : Nat} {v : Value} {d : DataW H} {p : List MemPlace} (ht : ts[j]? = some 31) (hd : ds[j]? = some d)
    (hv : Value.okWide Tryz.prog w r b0 31 v) (h : DataW.Trod enc Tryz.prog w base spare held 31 v d p) : ∃ c : Cp, v = .agg c.cells ∧ c.OK := by
  obtain ⟨cs, rfl, hc, hf⟩ := opens_param Tryz.underlying31 hv h (light_of hsz ht hd)
  have hc4 : cs.length = 4 := hc.trans (by kernel_rfl)
  match cs, hc4 with
  | [v0, v1, v2, v3], _ =>
    have f0 : FldAt enc Tryz.prog w base spare held [v0, v1, v2, v3] 3 0 := hf 0 _ rfl
    obtain ⟨n0, y0, t0, g0⟩ := f0
    have f1 : FldAt enc Tryz.prog w base spare held [v0, v1, v2, v3] 3 1 := hf 1 _ rfl
    obtain ⟨n1, y1, t1, g1⟩ := f1
    have f2 : FldAt enc Tryz.prog w base spare held [v0, v1, v2, v3] 3 2 := hf 2 _ rfl
    obtain ⟨n2, y2, t2, g2⟩ := f2
    have f3 : FldAt enc Tryz.prog w base spare held [v0, v1, v2, v3] 3 3 := hf 3 _ rfl
    obtain ⟨n3, y3, t3, g3⟩ := f3
    simp only [cellsT3, List.drop_zero, List.drop_succ_cons, List.take_succ_cons, List.take_zero] at t0 t1 t2 t3
    obtain ⟨a0, e0, w0⟩ := opens_int (k := .i64) Tryz.underlying3 _ _ _ t0 g0
    obtain ⟨a1, e1, w1⟩ := opens_int (k := .i64) Tryz.underlying3 _ _ _ t1 g1
    obtain ⟨a2, e2, w2⟩ := opens_int (k := .i64) Tryz.underlying3 _ _ _ t2 g2
    obtain ⟨a3, e3, w3⟩ := opens_int (k := .i64) Tryz.underlying3 _ _ _ t3 g3
    cases e0; cases e1; cases e2; cases e3
    exact ⟨⟨a0, a1, a2, a3⟩, rfl, ⟨w0, w1, w2, w3⟩⟩
structure Scp where
  A : Option Addr
  c : Nat
  xs : List Opn
def Scp.val (z : Scp) : Value := .slice z.A z.xs.length z.c
structure Scp.OK (z : Scp) (w : World) : Prop where
  reads : dOn.C w z.A z.xs.length z.xs
  ops : ∀ x ∈ z.xs, x.OK
  len : z.xs.length * 72 ≤ reachBytes
set_option maxRecDepth 100000 in
theorem open_scp {ts : List TypeId} {ds : List (DataW H)} (hsz : (DataW.weightsEach Tryz.prog ts ds).all (· ≤ reachBytes) = true) {j : Nat} {r : Reach} {b0 : Nat} {v : Value} {d : DataW H} {p : List MemPlace} (ht : ts[j]? = some 24) (hd : ds[j]? = some d)
    (hv : Value.okWide Tryz.prog w r b0 24 v) (h : DataW.Trod enc Tryz.prog w base spare held 24 v d p) : ∃ z : Scp, v = z.val ∧ z.OK w := by
  obtain ⟨a, n, c, rfl⟩ := okWide_slice Tryz.underlying24 hv
  obtain ⟨fuel, hf⟩ := h
  obtain ⟨A, c', xs, e, h1, h2, h3, h4, h5⟩ := opens_C (d := dOn) Tryz.underlying24 (by kernel_rfl) opens_opn hf (light_of hsz ht hd)
  simp [Value.cells] at e
  obtain ⟨rfl, rfl, rfl⟩ := e
  refine ⟨⟨a, c, xs⟩, rfl, h3, h5, ?_⟩
  have hb : Tryz.prog.bytesOf 36 = 72 := by kernel_rfl
  rw [hb] at h4
  exact h4
end
end Go.Proofs.YthaoedfalkebbaaGreat
