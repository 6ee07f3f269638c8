/- Cut by a program out of the seat's texts (YW YX XZ YY YZ XN XO XP XQ XS XL ZA ZB): what the theorem needs, one behind the other. -/
import Derived.Test.YthaoedfalkebbaaGreatPBJ
import Derived.Test.YthaoedfalkebbaaGreatPBE
import Derived.Test.YthaoedfalkebbaaGreatPBI
import Derived.OwnWalk
import Derived.Laws.Rows
namespace Go.Proofs.YthaoedfalkebbaaGreat
open Go.RowKit Go.Maps Go.Sort Go.Lib Go.Shelf Go.Proofs.YthaoedfalkebbaaGreatW.PrintWords Go.Proofs.YthaoedfalkebbaaGreatW.PrintLast Go.Proofs.YthaoedfalkebbaaGreatW.PrintMore
set_option linter.unusedVariables false
set_option linter.unusedSimpArgs false
set_option linter.unusedSectionVars false
set_option maxRecDepth 100000 in
theorem New36 (most : Int) (w : World) (h1 : 1 ≤ most) (h2 : most ≤ 4096) : Calls Tryz.prog 36 #[.int .i64 most] w fun e w' => e = .returned (.tuple #[ptr (w.heap.size + 1), .int .i64 0]) ∧ Lck.Mg w' (w.heap.size + 1) w.heap.size most [] ∧ Below w.heap.size w w' ∧ w'.heap.size = w.heap.size + 2 ∧ ∃ c s, w'.heap[w.heap.size + 1]? = some (.cells c 147 s) := by
  have hmm := @run_makeMap Tryz.prog
  go_enter Tryz.func36, Tryz.ntmps36
  go_wp2
  go_ret2
  refine ⟨rfl, ⟨?_, ?_, (Lck.Tab.made w).kept (World.grownBy_alloc _ _ none) (by simp)⟩, ((Below.refl _ w).alloc (Nat.le_refl _) _).alloc (by simp) _, by simp [go_sem], ?_⟩
  · simp [go_sem]
  · simp [go_sem]
  · have := heap_alloc_new (w.alloc (.map #[] 0)) (.cells #[.int .i64 most, .map (some w.heap.size)] 147)
    exact ⟨_, _, by simpa using this⟩
def mayC (c : Cp) : Bool := decide (1 ≤ c.active) && decide (c.active ≤ 64) && decide (0 ≤ c.kept) && decide (c.kept ≤ 1024) && decide (1 ≤ c.reads) && decide (c.reads ≤ 65536) && decide (1 ≤ c.locks) && decide (c.locks ≤ 4096)
def S0 (c : Cp) (now : Int) : Sm St := ⟨c, now, 0, 0, [], [], St0⟩
theorem Cap.start (c : Cp) (now : Int) (hc : mayC c = true) (h0 : 0 ≤ now) : Cap (S0 c now) 0 now := by
  unfold mayC at hc
  simp only [Bool.and_eq_true, decide_eq_true_eq] at hc
  obtain ⟨⟨⟨⟨⟨⟨⟨h1, h2⟩, h3⟩, h4⟩, h5⟩, h6⟩, h7⟩, h8⟩ := hc
  constructor
  · exact ⟨h1, h2, h3, h4, h5, h6, h7, h8⟩
  · show ((0 : Nat) : Int) ≤ c.active
    omega
  · show ((0 : Nat) : Int) ≤ c.kept
    omega
  · show ((0 : Nat) : Int) ≤ c.locks
    omega
  · show (0 : Int) ≤ 0 ∧ (0 : Int) ≤ 0
    omega
  · show (0 : Int) ≤ 0 ∧ (0 : Int) ≤ 0
    omega
  · show 0 ≤ now ∧ now ≤ now + 0
    omega
  · intro t ht; cases ht
  · exact List.Pairwise.nil
def Cp.cells (c : Cp) : Array Value := #[.int .i64 c.active, .int .i64 c.kept, .int .i64 c.reads, .int .i64 c.locks]
set_option maxHeartbeats 16000000 in
set_option maxRecDepth 100000 in
theorem New_no (c : Cp) (now : Int) (w : World) (h : (mayC c && decide (0 ≤ now)) = false) :
    Calls Tryz.prog 12 #[.agg c.cells, .int .i64 now] w fun e w' => e = .returned (.tuple #[.pointer none, .int .i64 1]) ∧ Below w.heap.size w w' := by
  obtain ⟨ac, kp, rd, lk⟩ := c
  unfold Cp.cells
  dsimp only
  obtain ⟨w1, hw1⟩ : ∃ w1, w1 = w.alloc (.cells #[.int .i64 ac, .int .i64 kp, .int .i64 rd, .int .i64 lk] 31) := ⟨_, rfl⟩
  have B1 : Below w.heap.size w w1 := by rw [hw1]; exact (Below.refl _ w).alloc (Nat.le_refl _) _
  have b0 : w1.cell? ⟨w.heap.size, 0, none⟩ = some (.int .i64 ac) := by rw [hw1]; simp [go_sem]
  have b1 : w1.cell? ⟨w.heap.size, 1, none⟩ = some (.int .i64 kp) := by rw [hw1]; simp [go_sem]
  have b2 : w1.cell? ⟨w.heap.size, 2, none⟩ = some (.int .i64 rd) := by rw [hw1]; simp [go_sem]
  have b3 : w1.cell? ⟨w.heap.size, 3, none⟩ = some (.int .i64 lk) := by rw [hw1]; simp [go_sem]
  by_cases h0 : ac < 1 ∨ 64 < ac ∨ kp < 0 ∨ 1024 < kp ∨ now < 0
  · clear h
    go_enter Tryz.func12, Tryz.ntmps12
    go_upto_region 1 with (fail)
    rw [← hw1]
    clear hw1
    go_wp2
    all_goals first | omega | skip
    all_goals (go_ret2; exact ⟨rfl, B1⟩)
  · simp only [not_or, Int.not_lt] at h0
    obtain ⟨g1, g2, g3, g4, g5⟩ := h0
    by_cases hl : lk < 1 ∨ 4096 < lk
    · have N := Lck.New_bad lk w1 hl
      clear h hl
      go_enter Tryz.func12, Tryz.ntmps12
      go_upto_region 1 with (fail)
      rw [← hw1]
      clear hw1
      go_wp2_with (go_at_call 36; refine N.mono ?_; rintro e w' ⟨rfl, rfl⟩)
      all_goals first | omega | skip
      all_goals (go_ret2; exact ⟨rfl, B1⟩)
    · simp only [not_or, Int.not_lt] at hl
      have N := New36 lk w1 hl.1 hl.2
      have hr : rd < 1 ∨ 65536 < rd := by
        unfold mayC at h
        have k1 : decide (1 ≤ ac) = true := decide_eq_true g1
        have k2 : decide (ac ≤ 64) = true := decide_eq_true g2
        have k3 : decide (0 ≤ kp) = true := decide_eq_true g3
        have k4 : decide (kp ≤ 1024) = true := decide_eq_true g4
        have k5 : decide (0 ≤ now) = true := decide_eq_true g5
        have k6 : decide (1 ≤ lk) = true := decide_eq_true hl.1
        have k7 : decide (lk ≤ 4096) = true := decide_eq_true hl.2
        simp only [k1, k2, k3, k4, k5, k6, k7, Bool.true_and, Bool.and_true, Bool.and_eq_false_iff, decide_eq_false_iff_not] at h
        omega
      have N2 := fun w2 => New_bad rd w2 hr
      clear h hr hl
      go_enter Tryz.func12, Tryz.ntmps12
      go_upto_region 1 with (fail)
      rw [← hw1]
      clear hw1
      go_upto_region 6 with (go_at_call 36; refine N.mono ?_; rintro e w2 ⟨rfl, -, B2, -, -⟩)
      have e2 : w2.cell? ⟨w.heap.size, 2, none⟩ = some (.int .i64 rd) := below_cell B2 b2
      have N2 := N2 w2
      clear N b0 b1 b2 b3
      go_wp2_with (go_at_call 37; refine N2.mono ?_; rintro e w3 ⟨rfl, rfl⟩)
      all_goals (go_ret2; exact ⟨rfl, below_then B1 B1.size B2⟩)
end Go.Proofs.YthaoedfalkebbaaGreat
namespace Go.Proofs.YthaoedfalkebbaaGreat
open Go.RowKit Go.Maps Go.Sort Go.Lib Go.Shelf Go.Proofs.YthaoedfalkebbaaGreatW.PrintWords Go.Proofs.YthaoedfalkebbaaGreatW.PrintLast Go.Proofs.YthaoedfalkebbaaGreatW.PrintMore
set_option linter.unusedVariables false
set_option linter.unusedSimpArgs false
set_option linter.unusedSectionVars false
theorem Pm.made {w2 w3 W : World} {base lp lb rp rb : Nat} {c : Cp} {now : Int} (F : Nat → Prop) (hL : Lck.Mg w2 lp lb c.locks []) (hk : ∃ cs s, w2.heap[lp]? = some (.cells cs 147 s)) (B3 : Below w2.heap.size w2 w3) (hR : MrS w3 base rp rb c.reads St0) (h2 : w2.heap.size ≤ rp) (h2b : w2.heap.size ≤ rb) (hbase : base ≤ lp ∧ base ≤ lb ∧ base ≤ w3.heap.size)
    (hW : W = (w3.alloc (.map #[] 0)).alloc (hdCells (S0 c now) w3.heap.size lp rp)) : Pm W base ⟨w3.heap.size + 1, w3.heap.size, lp, lb, rp, rb, fun _ => 0, F⟩ (S0 c now) := by
  have lb2 : lb < w2.heap.size := by
    obtain ⟨D, ⟨es, clock, hlm, _⟩, _⟩ := hL.tab
    exact (Array.getElem?_eq_some_iff.1 hlm).1
  have lp2 : lp < w2.heap.size := by
    obtain ⟨cs, s, hc⟩ := hk
    exact (Array.getElem?_eq_some_iff.1 hc).1
  have rb3 : rb < w3.heap.size := by
    obtain ⟨⟨L, M, _, _⟩, _⟩ := hR
    obtain ⟨e3', c3', hrm⟩ := M.tab.isMap
    exact (Array.getElem?_eq_some_iff.1 hrm).1
  have hs3 := B3.size
  have G3 : w3.grownBy (w3.alloc (.map #[] 0)) none := World.grownBy_alloc _ _ _
  have G4 : (w3.alloc (.map #[] 0)).grownBy W none := by rw [hW]; exact World.grownBy_alloc _ _ _
  have BW : Below w3.heap.size w3 W := by rw [hW]; exact below_alloc ((Below.refl _ w3).alloc (Nat.le_refl _) _) _
  have B2W : Below w2.heap.size w2 W := below_then B3 B3.size BW
  constructor
  · rw [hW]
    have := heap_alloc_new (w3.alloc (.map #[] 0)) (hdCells (S0 c now) w3.heap.size lp rp)
    simpa using this
  · exact (Tab.made w3).kept G4 (by simp)
  · intro t ht; cases ht
  · intro t ht; cases ht
  · exact hL.fr (Fr.ofBelow (O := fun _ => False) B2W) (fun h => h) (fun h => h)
  · obtain ⟨cs, s, hc⟩ := hk
    exact ⟨cs, s, (B2W.block lp lp2).trans hc⟩
  · exact (hR.kept G3).kept G4
  · exact List.Pairwise.nil
  · intro t ht; cases ht
  · exact Nat.zero_le _
  · show w3.heap.size ≠ lb
    omega
  · show w3.heap.size ≠ rb
    omega
  · show lb ≠ rb
    omega
  · refine ⟨by show base ≤ w3.heap.size + 1; omega, hbase.2.2, hbase.1, hbase.2.1, ?_, fun t ht => by cases ht⟩
    obtain ⟨⟨L, M, _, hbb⟩, _⟩ := hR
    exact hbb
set_option maxHeartbeats 16000000 in
set_option maxRecDepth 100000 in
theorem New_s (c : Cp) (now : Int) (base : Nat) (F : Nat → Prop) (w : World) (hb : base ≤ w.heap.size) (h : mayC c = true) (h0 : 0 ≤ now) :
    Calls Tryz.prog 12 #[.agg c.cells, .int .i64 now] w fun e w' => ∃ l : Loc, e = .returned (.tuple #[ptr l.p, .int .i64 0]) ∧ Pm w' base l (S0 c now) ∧ Below w.heap.size w w' ∧ w.heap.size ≤ l.p ∧ l.F = F := by
  obtain ⟨ac, kp, rd, lk⟩ := c
  unfold mayC at h
  simp only [Bool.and_eq_true, decide_eq_true_eq] at h
  obtain ⟨⟨⟨⟨⟨⟨⟨g1, g2⟩, g3⟩, g4⟩, g5⟩, g6⟩, g7⟩, g8⟩ := h
  unfold Cp.cells
  dsimp only
  obtain ⟨w1, hw1⟩ : ∃ w1, w1 = w.alloc (.cells #[.int .i64 ac, .int .i64 kp, .int .i64 rd, .int .i64 lk] 31) := ⟨_, rfl⟩
  have B1 : Below w.heap.size w w1 := by rw [hw1]; exact (Below.refl _ w).alloc (Nat.le_refl _) _
  have b0 : w1.cell? ⟨w.heap.size, 0, none⟩ = some (.int .i64 ac) := by rw [hw1]; simp [go_sem]
  have b1 : w1.cell? ⟨w.heap.size, 1, none⟩ = some (.int .i64 kp) := by rw [hw1]; simp [go_sem]
  have b2 : w1.cell? ⟨w.heap.size, 2, none⟩ = some (.int .i64 rd) := by rw [hw1]; simp [go_sem]
  have b3 : w1.cell? ⟨w.heap.size, 3, none⟩ = some (.int .i64 lk) := by rw [hw1]; simp [go_sem]
  have hs1 := B1.size
  have N := New36 lk w1 g7 g8
  have N2 := fun w2 (B2 : Below w1.heap.size w1 w2) => New_calls rd w2.heap.size w2 (Nat.le_refl _) g5 g6
  have CEL : ∀ W, Below w1.heap.size w1 W → W.cell? ⟨w.heap.size, 0, none⟩ = some (.int .i64 ac) ∧ W.cell? ⟨w.heap.size, 1, none⟩ = some (.int .i64 kp) ∧ W.cell? ⟨w.heap.size, 2, none⟩ = some (.int .i64 rd) ∧ W.cell? ⟨w.heap.size, 3, none⟩ = some (.int .i64 lk) := fun W B => ⟨below_cell B b0, below_cell B b1, below_cell B b2, below_cell B b3⟩
  have FIN : ∀ w2 w3, Lck.Mg w2 (w1.heap.size + 1) w1.heap.size lk [] → (∃ cs s, w2.heap[w1.heap.size + 1]? = some (.cells cs 147 s)) → Below w1.heap.size w1 w2 → w2.heap.size = w1.heap.size + 2 → Below w2.heap.size w2 w3 → Mr w3 w2.heap.size (w2.heap.size + 1) w2.heap.size rd 0 [] (fun _ => []) →
      ∃ l : Loc, (Ending.returned (.tuple #[ptr (w3.heap.size + 1), .int .i64 0])) = Ending.returned (.tuple #[ptr l.p, .int .i64 0]) ∧ Pm ((w3.alloc (.map #[] 0)).alloc (hdCells (S0 ⟨ac, kp, rd, lk⟩ now) w3.heap.size (w1.heap.size + 1) (w2.heap.size + 1))) base l (S0 ⟨ac, kp, rd, lk⟩ now) ∧ Below w.heap.size w ((w3.alloc (.map #[] 0)).alloc (hdCells (S0 ⟨ac, kp, rd, lk⟩ now) w3.heap.size (w1.heap.size + 1) (w2.heap.size + 1))) ∧ w.heap.size ≤ l.p ∧ l.F = F := fun w2 w3 hL hk B2 hs2 B3 hM => by
    have hs3 := B3.size
    have BA := below_then B1 B1.size (below_then B2 B2.size B3)
    have hM2 : Mr w3 base (w2.heap.size + 1) w2.heap.size rd 0 [] (fun _ => []) := ⟨hM.cells, hM.tab, by omega, by simp, hM.off, by simp⟩
    refine ⟨_, rfl, Pm.made F hL hk B3 (rb := w2.heap.size) ⟨⟨[], hM2, rfl, by omega⟩, InvK.empty, by show (0 : Int) ≤ rd; omega, g6, g5⟩ (by omega) (Nat.le_refl _) ⟨by omega, by omega, by omega⟩ rfl, below_alloc (below_alloc BA _) _, ?_, rfl⟩
    show w.heap.size ≤ w3.heap.size + 1
    omega
  unfold hdCells S0 at FIN
  dsimp only at FIN
  unfold S0
  clear b0 b1 b2 b3
  obtain ⟨b0, b1, b2, b3⟩ := CEL w1 (Below.refl _ _)
  have hmm := @run_makeMap Tryz.prog
  replace CEL := Aside0.mk CEL
  replace FIN := Aside0.mk FIN
  replace N2 := Aside0.mk N2
  clear B1 hb
  go_enter Tryz.func12, Tryz.ntmps12
  go_upto_region 1 with (fail)
  rw [← hw1]
  clear hw1
  go_upto_region 6 with (go_at_call 36; refine N.mono ?_; rintro e w2 ⟨rfl, hL, B2, hs2, hk⟩)
  clear N b0 b1 b2 b3
  obtain ⟨b0, b1, b2, b3⟩ := CEL.out w2 B2
  have N3 := N2.out w2 B2
  have K2 := Aside0.mk (And.intro hL (And.intro hk (And.intro B2 hs2)))
  clear hL hk hs2
  go_upto_region 9 with (go_at_call 37; refine N3.mono ?_; rintro e w3 ⟨rfl, hM, B3⟩)
  clear N3 b0 b1 b2 b3
  obtain ⟨b0, b1, b2, b3⟩ := CEL.out w3 (below_then B2 B2.size B3)
  obtain ⟨kL, kk, kB, ks⟩ := K2.out
  have K4 := Aside0.mk (FIN.out w2 w3 kL kk kB ks B3 hM)
  clear kL kk kB ks hM B3 B2
  go_wp2
  go_ret2
  exact K4.out
end Go.Proofs.YthaoedfalkebbaaGreat
namespace Go.Proofs.YthaoedfalkebbaaGreat
set_option linter.unusedVariables false
set_option linter.unusedSectionVars false
set_option linter.unusedSimpArgs false
section
variable {ρ : Type} {I : RdI ρ}
def NumSub (S' S : Sm ρ) : Prop := ∀ t ∈ S'.txs, ∃ u ∈ S.txs, u.num = t.num
theorem NumSub.refl (S : Sm ρ) : NumSub S S := fun t ht => ⟨t, ht, rfl⟩
theorem NumSub.trans {A B C : Sm ρ} (h : NumSub A B) (k : NumSub B C) : NumSub A C := fun t ht => by
  obtain ⟨u, hu, e⟩ := h t ht
  obtain ⟨v, hv, e2⟩ := k u hu
  exact ⟨v, hv, e2.trans e⟩
theorem forget_nums (S : Sm ρ) : NumSub (S.forget I) S := fun t ht => ⟨t, (List.mem_filter.1 ht).1, rfl⟩
theorem gone_nums (S : Sm ρ) (n : Int) : NumSub (S.gone I n) S := fun t ht => ⟨t, (List.mem_filter.1 (List.mem_filter.1 ht).1).1, rfl⟩
theorem put_nums (S : Sm ρ) (t : Tx) (so : Tx → Bool) (out : Bool) : NumSub (S.put I t so out).2 S := by
  unfold Sm.put
  split
  · exact gone_nums S _
  · intro x hx
    obtain ⟨o, ho, e⟩ := List.mem_map.1 hx
    refine ⟨o, ho, ?_⟩
    rw [← e]
    split
    · split <;> rfl
    · split <;> rfl
theorem noteS_nums (S : Sm ρ) (t : Tx) (x : Rd) (f u : ByteArray) : NumSub (S.noteS I t x f u).2 S := by
  unfold Sm.noteS
  split
  · exact gone_nums (I := I) { S with reads := (I.note S.reads t.num x).2 } t.num
  · exact put_nums (I := I) { S with reads := (I.note S.reads t.num x).2 } t _ true
theorem read_nums (S : Sm ρ) (tx : Int) (a : Lk) : NumSub (S.read I tx a).2 S := by
  unfold Sm.read
  split
  · exact NumSub.refl S
  · split
    · exact NumSub.refl S
    · exact noteS_nums S _ _ _ _
theorem scan_nums (S : Sm ρ) (tx : Int) (tb f u : ByteArray) : NumSub (S.scan I tx tb f u).2 S := by
  unfold Sm.scan
  split
  · exact NumSub.refl S
  · split
    · exact NumSub.refl S
    · exact noteS_nums S _ _ _ _
theorem write_nums (S : Sm ρ) (tx : Int) (a : Lk) (last : Int) : NumSub (S.write I tx a last).2 S := by
  unfold Sm.write
  split
  · exact NumSub.refl S
  · split
    · exact NumSub.refl S
    · split
      · exact NumSub.refl S
      · split
        · exact gone_nums S tx
        · split
          · exact gone_nums (I := I) { S with locks := _ } tx
          · exact put_nums (I := I) { S with locks := _ } _ _ false
theorem abort_nums (S : Sm ρ) (tx : Int) : NumSub (S.abort I tx).2 S := by
  unfold Sm.abort
  split
  · exact NumSub.refl S
  · exact gone_nums S tx
theorem ends_nums (S : Sm ρ) (tx : Int) : NumSub (S.ends tx) S := fun x hx => by
  obtain ⟨o, ho, e⟩ := List.mem_map.1 hx
  refine ⟨o, ho, ?_⟩
  rw [← e]
  split <;> rfl
theorem commit_nums (S : Sm ρ) (tx : Int) : NumSub (S.commit I tx).2 S := by
  unfold Sm.commit
  split
  · exact NumSub.refl S
  · split
    · exact gone_nums S tx
    · split
      · exact gone_nums S tx
      · refine (forget_nums (I := I) _).trans ?_
        split
        · exact fun t ht => ends_nums S tx t (List.mem_filter.1 ht).1
        · exact ends_nums S tx
end
end Go.Proofs.YthaoedfalkebbaaGreat
namespace Go.Proofs.YthaoedfalkebbaaGreat
open Go.RowKit Go.Maps Go.Sort Go.Lib Go.Shelf Go.Proofs.YthaoedfalkebbaaGreatW.PrintWords Go.Proofs.YthaoedfalkebbaaGreatW.PrintLast Go.Proofs.YthaoedfalkebbaaGreatW.PrintMore
set_option linter.unusedVariables false
set_option linter.unusedSimpArgs false
set_option linter.unusedSectionVars false
/-- what an operation leaves, wherever its parts have gone -/
def StQ (base : Nat) (l : Loc) (S S' : Sm St) (w w' : World) : Prop := ∃ l' : Loc, l'.p = l.p ∧ l'.F = l.F ∧ Pm w' base l' S' ∧ Fr (l.own S.txs) w w' ∧ ∀ k, l'.own S'.txs k → l.own S.txs k ∨ w.heap.size ≤ k
theorem own_sub {l : Loc} {S S' : Sm St} (hs : NumSub S' S) {n : Nat} : ∀ k, l.own S'.txs k → l.own S.txs k ∨ n ≤ k := fun k hk => by
  rcases hk with e | e | e | e | e | ⟨t, ht, e⟩
  · exact .inl (.inl e)
  · exact .inl (.inr (.inl e))
  · exact .inl (.inr (.inr (.inl e)))
  · exact .inl (.inr (.inr (.inr (.inl e))))
  · exact .inl (.inr (.inr (.inr (.inr (.inl e)))))
  · obtain ⟨u, hu, e2⟩ := hs t ht
    exact .inl (.inr (.inr (.inr (.inr (.inr ⟨u, hu, by rw [e, e2]⟩)))))
theorem OpQ.st {base : Nat} {l : Loc} {S : Sm St} {r : Int × Sm St} {w : World} {e : Ending} {w' : World} (h : OpQ base l S r w e w') (hs : NumSub r.2 S) : e = .returned (.int .i64 r.1) ∧ StQ base l S r.2 w w' := by
  obtain ⟨h1, rb', h2, h3, h4⟩ := h
  refine ⟨h1, { l with rb := rb' }, rfl, rfl, h2, h4, fun k hk => ?_⟩
  rcases hk with e | e | e | e | e | e
  · exact .inl (.inl e)
  · exact .inl (.inr (.inl e))
  · exact .inl (.inr (.inr (.inl e)))
  · exact .inl (.inr (.inr (.inr (.inl e))))
  · have e : k = rb' := e
    rcases h3 with h3 | h3
    · exact .inl (.inr (.inr (.inr (.inr (.inl (e.trans h3))))))
    · exact .inr (by omega)
  · exact own_sub hs k (.inr (.inr (.inr (.inr (.inr e)))))
def newT (S : Sm St) : Tx := ⟨S.last + 1, S.now, true, S.clock + 1, 0, false, false, []⟩
def begS (S : Sm St) : Sm St := { S with last := S.last + 1, clock := S.clock + 1, txs := S.txs ++ [newT S] }
theorem begin_new {S : Sm St} (h : ¬ S.caps.active ≤ S.acts) : S.begin = ((S.last + 1, S.now, 0), begS S) := by unfold Sm.begin; rw [if_neg h]; rfl
theorem got_none_tx {w : World} {base : Nat} {l : Loc} {S : Sm St} (h : Pm w base l S) : got (txL l.Q S.txs) (S.last + 1) = none := by
  rw [got_tx]
  have : S.txs.find? (fun t => t.num == S.last + 1) = none := by
    rw [List.find?_eq_none]
    intro t ht hp
    have := (h.nums t ht).2.1
    simp at hp
    omega
  rw [this]
  rfl
theorem Pm.born {w W : World} {base : Nat} {l : Loc} {S : Sm St} (h : Pm w base l S) (K N : Int) (hC : Cap S K N) (hok : okN (S.last + 1)) (q : Nat) (hq : w.heap.size ≤ q) (F : Fr (fun k => k = l.p ∨ k = l.mb) w W) (hh : W.heap[l.p]? = some (hdCells (begS S) l.mb l.lp l.rp)) (ht : TabT W l.mb (S.txs.length + 1) (txL l.Q S.txs ++ [(S.last + 1, some q)])) (hc : W.heap[q]? = some (txCells (newT S) (.slice none 0 0))) :
    Pm W base { l with Q := fun n => if n = S.last + 1 then q else l.Q n } (begS S) := by
  obtain ⟨hk, k1, k2, k3, k4, k5, k6, k7, k8, k9, k10, k11, k12⟩ := h.kinds
  have hQ : ∀ t ∈ S.txs, (if t.num = S.last + 1 then q else l.Q t.num) = l.Q t.num := fun t ht => by
    have := (h.nums t ht).2.1
    rw [if_neg (by omega)]
  have hlt : ∀ t ∈ S.txs, l.Q t.num < w.heap.size := fun t ht => h.lts _ (.inr (.inr (.inr (.inr (.inr ⟨t, ht, rfl⟩)))))
  have mem : ∀ t, t ∈ S.txs ++ [newT S] → t ∈ S.txs ∨ t = newT S := fun t ht => by
    rcases List.mem_append.1 ht with e | e
    · exact .inl e
    · exact .inr (List.mem_singleton.1 e)
  have hnn : (newT S).num = S.last + 1 := rfl
  constructor
  · exact hh
  · have e : txL (fun n => if n = S.last + 1 then q else l.Q n) (S.txs ++ [newT S]) = txL l.Q S.txs ++ [(S.last + 1, some q)] := by
      unfold txL
      rw [List.map_append]
      congr 1
      · exact List.map_congr_left fun t ht => by dsimp only; rw [hQ t ht]
      · simp [newT]
    show TabT W l.mb (S.txs ++ [newT S]).length (txL (fun n => if n = S.last + 1 then q else l.Q n) (S.txs ++ [newT S]))
    rw [e, List.length_append]
    exact ht
  · intro t ht'
    show ∃ v, W.heap[if t.num = S.last + 1 then q else l.Q t.num]? = some (txCells t v) ∧ ∃ ws, Lo Lck.cellsL 2 23 W base v ws ∧ ws.length ≤ 4096 ∧ (∀ a, a ∈ ws ↔ a ∈ t.wrote) ∧ ∀ b, v.ownBlock = some b → ¬ l.F b
    rcases mem t ht' with hm | rfl
    · rw [hQ t hm]
      obtain ⟨v, h1, ws, h2, h3⟩ := h.tx t hm
      obtain ⟨q1, q2, _⟩ := hk t hm
      refine ⟨v, F.block _ _ (fun e => by rcases e with e | e; exact q1 e; exact q2 e) h1, ws, h2.move fun g hg => ?_, h3⟩
      obtain ⟨_, _, cells, hcc⟩ := h2.typed g hg
      refine (F.block g _ (fun e => ?_) hcc).trans hcc.symm
      rcases e with e | e
      · rw [e, h.head] at hcc
        unfold hdCells at hcc
        simp at hcc
      · obtain ⟨es1, c1, hmap⟩ := h.tab.isMap
        rw [e, hmap] at hcc
        cases hcc
    · rw [if_pos hnn]
      exact ⟨_, hc, [], Lo.nil _ _, by simp, by simp [newT], fun b hb => by cases hb⟩
  · intro t ht' u hu e
    have e : (if t.num = S.last + 1 then q else l.Q t.num) = (if u.num = S.last + 1 then q else l.Q u.num) := e
    rcases mem t ht' with hm | rfl <;> rcases mem u hu with hm2 | rfl
    · rw [hQ t hm, hQ u hm2] at e
      exact h.qinj t hm u hm2 e
    · rw [hQ t hm, if_pos hnn] at e
      have := hlt t hm
      omega
    · rw [hQ u hm2, if_pos hnn] at e
      have := hlt u hm2
      omega
    · rfl
  · exact h.locks.fr F (fun e => by rcases e with e | e; exact k2 e.symm; exact k6 e) (fun e => by rcases e with e | e; exact k3 e.symm; exact h.ne1 e.symm)
  · obtain ⟨c, s, hcc⟩ := h.lkind
    exact ⟨c, s, F.block _ _ (fun e => by rcases e with e | e; exact k2 e.symm; exact k6 e) hcc⟩
  · refine h.reads.fr F (fun e => by rcases e with e | e; exact k4 e.symm; exact k10 e) (fun e => by rcases e with e | e; exact k5 e.symm; exact h.ne2 e.symm) (fun k c s hk2 hcc => ?_)
    rcases hk2 with e | e
    · rw [e, h.head] at hcc
      unfold hdCells at hcc
      simp at hcc
    · obtain ⟨es1, c1, hmap⟩ := h.tab.isMap
      rw [e, hmap] at hcc
      cases hcc
  · show (S.txs ++ [newT S]).Pairwise _
    rw [List.pairwise_append]
    refine ⟨h.dist, by simp, fun a ha b hb => ?_⟩
    rw [List.mem_singleton.1 hb]
    have := (h.nums a ha).2.1
    show a.num < S.last + 1
    omega
  · intro t ht'
    have hl := hC.last
    rcases mem t ht' with hm | rfl
    · have := h.nums t hm
      exact ⟨this.1, by show t.num ≤ S.last + 1; omega, this.2.2⟩
    · exact ⟨by show 1 ≤ S.last + 1; omega, by show S.last + 1 ≤ S.last + 1; omega, hok⟩
  · have := hC.few
    show (S.txs ++ [newT S]).length ≤ _
    simp
    omega
  · exact h.ne1
  · exact h.ne2
  · exact h.ne3
  · refine ⟨h.low.1, h.low.2.1, h.low.2.2.1, h.low.2.2.2.1, h.low.2.2.2.2.1, fun t ht' => ?_⟩
    show base ≤ (if t.num = S.last + 1 then q else l.Q t.num)
    rcases mem t ht' with hm | rfl
    · rw [hQ t hm]
      exact h.low.2.2.2.2.2 t hm
    · rw [if_pos hnn]
      have := h.low.1
      have := h.lts _ (.inl rfl)
      omega
/-- how many are under way, as the walk asks it -/
theorem act_ask (base : Nat) (l : Loc) (S : Sm St) (w : World) (h : Pm w base l S) (W : World) (B : Below w.heap.size w W) :
    Calls Tryz.prog 26 #[ptr l.p] W fun e w' => ∃ A c, e = .returned (.slice A S.acts c) ∧ Below W.heap.size W w' := by
  refine (Active_s base l S W (h.below B)).mono ?_
  rintro e w' ⟨v, rfl, hv, B2⟩
  obtain ⟨A, c, rfl, _⟩ := (Lo.ofR hv : Lo _ _ _ _ _ _ _).slice
  rw [actN_len]
  exact ⟨A, c, rfl, B2⟩
def hdC (a k r o now last clock : Int) (mb lp rp : Nat) : Obj := .cells #[.int .i64 a, .int .i64 k, .int .i64 r, .int .i64 o, .int .i64 now, .int .i64 last, .int .i64 clock, .map (some mb), ptr lp, ptr rp] 90 (0, 0)
theorem hdC_cells {w : World} {p mb lp rp : Nat} {a k r o now last clock : Int} (h : w.heap[p]? = some (hdC a k r o now last clock mb lp rp)) :
    w.cell? ⟨p, 0, none⟩ = some (.int .i64 a) ∧ w.cell? ⟨p, 1, none⟩ = some (.int .i64 k) ∧ w.cell? ⟨p, 4, none⟩ = some (.int .i64 now) ∧ w.cell? ⟨p, 5, none⟩ = some (.int .i64 last) ∧ w.cell? ⟨p, 6, none⟩ = some (.int .i64 clock) ∧ w.cell? ⟨p, 7, none⟩ = some (.map (some mb)) ∧ w.cell? ⟨p, 8, none⟩ = some (ptr lp) ∧ w.cell? ⟨p, 9, none⟩ = some (ptr rp) :=
  ⟨cell_of_row w p 0 _ 90 (0, 0) h, cell_of_row w p 1 _ 90 (0, 0) h, cell_of_row w p 4 _ 90 (0, 0) h, cell_of_row w p 5 _ 90 (0, 0) h, cell_of_row w p 6 _ 90 (0, 0) h, cell_of_row w p 7 _ 90 (0, 0) h, cell_of_row w p 8 _ 90 (0, 0) h, cell_of_row w p 9 _ 90 (0, 0) h⟩
def txC (num snap : Int) (act : Bool) (begun ended : Int) (fin fout : Bool) (v : Value) : Obj := .cells #[.int .i64 num, .int .i64 snap, .bool act, .int .i64 begun, .int .i64 ended, .bool fin, .bool fout, v] 101 (0, 0)
set_option maxHeartbeats 16000000 in
set_option maxRecDepth 100000 in
theorem Begin_walk (p mb lp rp n0 : Nat) (a k r o now last clock : Int) (w : World) (Post : Int → Int → Int → World → Prop) (H2 : World → Prop) (hn0 : n0 ≤ 65536) (hla : 0 ≤ last ∧ last ≤ 4611686018427387904) (hcl : 0 ≤ clock ∧ clock ≤ 4611686018427387904)
    (N : Calls Tryz.prog 38 #[ptr p] w fun e w' => e = .returned (.bool false) ∧ w = w')
    (hd : w.heap[p]? = some (hdC a k r o now last clock mb lp rp))
    (AC : ∀ n, Calls Tryz.prog 26 #[ptr p] (w.drewN n) fun e w2 => ∃ A c, e = .returned (.slice A n0 c) ∧ H2 w2)
    (C2 : ∀ W, H2 W → W.heap[p]? = some (hdC a k r o now last clock mb lp rp))
    (FULL : a ≤ n0 → ∀ W, H2 W → Post 0 0 4 W)
    (NEW : (n0 : Int) < a → ∀ W, H2 W → ∃ w5, (Instr.mapUpdate 86 (.map (some mb)) (.int .i64 (last + 1)) (ptr W.heap.size)).run Tryz.prog ((((W.setCell ⟨p, 5, none⟩ (.int .i64 (last + 1))).setCell ⟨p, 6, none⟩ (.int .i64 (clock + 1))).alloc (txC (last + 1) now true (clock + 1) 0 false false (.slice none 0 0))).drew) = .ok () w5 ∧ w5.heap[p]? = some (hdC a k r o now (last + 1) (clock + 1) mb lp rp) ∧ ∀ n, Post (last + 1) now 0 (w5.drewN n)) :
    Calls Tryz.prog 13 #[ptr p] w fun e w' => ∃ x y z, e = .returned (.tuple #[.int .i64 x, .int .i64 y, .int .i64 z]) ∧ Post x y z w' := by
  obtain ⟨c0, _⟩ := hdC_cells hd
  replace C2 := Aside0.mk C2
  replace FULL := Aside0.mk FULL
  replace NEW := Aside0.mk NEW
  have wl1 : IntKind.i64.wrap (last + 1) = last + 1 := IntWalk.i64_in _ (by omega)
  have wc1 : IntKind.i64.wrap (clock + 1) = clock + 1 := IntWalk.i64_in _ (by omega)
  clear hd
  go_enter Tryz.func13, Tryz.ntmps13
  go_wp2_with fail
  refine N.mono ?_
  rintro e w' ⟨rfl, rfl⟩
  go_wp2_with fail
  go_region_held3 (fun V => V.cell? ⟨p, 0, none⟩ = some (.int .i64 a)) (first | exact c0 | exact K2.1)
    ((go_at_call 26; refine (AC _).mono ?_; rintro e w2 ⟨A2, c2, rfl, B2⟩; have K2 := hdC_cells (C2.out w2 B2)))
  by_cases hf : a ≤ n0
  · have F := FULL.out hf w2 B2
    clear NEW C2 AC
    go_wp2
    go_ret3
    exact ⟨_, _, _, rfl, F⟩
  · have hf2 : (n0 : Int) < a := by omega
    have NW := NEW.out hf2 w2 B2
    have op2 := C2.out w2 B2
    have fz := blk_frozen op2
    obtain ⟨d0, d1, d4, d5, d6, d7, d8, d9⟩ := K2
    obtain ⟨w3, hw3⟩ : ∃ w3, w3 = (w2.setCell ⟨p, 5, none⟩ (.int .i64 (last + 1))).setCell ⟨p, 6, none⟩ (.int .i64 (clock + 1)) := ⟨_, rfl⟩
    have op3 : w3.heap[p]? = some (hdC a k r o now (last + 1) (clock + 1) mb lp rp) := by rw [hw3]; rw [blk_set (blk_set op2 5 _) 6 _]; rfl
    replace op3 := Aside0.mk op3
    clear FULL C2 AC op2 NEW
    replace hf2 := Aside0.mk hf2
    go_upto_region 7 with (fail)
    rw [← hw3]
    rw [← hw3] at NW
    have hsz : w2.heap.size = w3.heap.size := by rw [hw3]; simp [World.setCell]
    rw [hsz] at NW
    clear hw3 d0 d1 d4 d5 d6 d7 d8 d9 fz hsz
    obtain ⟨e0, e1, e4, e5, e6, e7, e8, e9⟩ := hdC_cells op3.out
    obtain ⟨w5, hmu, op5, P5⟩ := NW
    unfold txC at hmu
    obtain ⟨f0, f1, f4, f5, f6, f7, f8, f9⟩ := hdC_cells op5
    replace op5 := Aside0.mk op5
    go_region_held3 (fun V => V.cell? ⟨p, 7, none⟩ = some (.map (some mb)) ∧ V.cell? ⟨p, 5, none⟩ = some (.int .i64 (last + 1)) ∧ V.cell? ⟨p, 4, none⟩ = some (.int .i64 now) ∧ V.cell? ⟨p, 6, none⟩ = some (.int .i64 (clock + 1))) (first | exact ⟨e7, e5, e4, e6⟩ | exact ⟨below_cell (allocDB w3 _) e7, below_cell (allocDB w3 _) e5, below_cell (allocDB w3 _) e4, below_cell (allocDB w3 _) e6⟩ | exact ⟨below_cell (allocB w3 _) e7, below_cell (allocB w3 _) e5, below_cell (allocB w3 _) e4, below_cell (allocB w3 _) e6⟩ | exact ⟨f7, f5, f4, f6⟩) (fail)
    replace P5 := Aside0.mk P5
    clear e0 e1 e4 e5 e6 e7 e8 e9 hmu
    go_wp2_with fail
    go_region_held3 (fun V => V.cell? ⟨p, 5, none⟩ = some (.int .i64 (last + 1)) ∧ V.cell? ⟨p, 4, none⟩ = some (.int .i64 now)) (exact ⟨f5, f4⟩) (fail)
    go_wp2
    go_ret3
    exact ⟨_, _, _, rfl, P5.out 1⟩
theorem begin_full {S : Sm St} (h : S.caps.active ≤ S.acts) : S.begin = ((0, 0, 4), S) := by unfold Sm.begin; rw [if_pos h]
theorem Begin_s (base : Nat) (l : Loc) (S : Sm St) (w : World) (K N : Int) (h : Pm w base l S) (hC : Cap S K N) (hK : K ≤ 4611686018427387903) :
    Calls Tryz.prog 13 #[ptr l.p] w fun e w' => e = .returned (.tuple #[.int .i64 S.begin.1.1, .int .i64 S.begin.1.2.1, .int .i64 S.begin.1.2.2]) ∧ StQ base l S S.begin.2 w w' := by
  obtain ⟨_, _, _, _, _, _, _, c7, _, _⟩ := h.cells
  obtain ⟨hk, k1, k2, k3, k4, k5, k6, k7, k8, k9, k10, k11, k12⟩ := h.kinds
  have hl := hC.last
  have hcl := hC.clock
  have hok : okN (S.last + 1) := by
    show (Lit.int .i64 (S.last + 1)).wf = true
    simp only [Lit.wf, Bool.and_eq_true, decide_eq_true_eq]
    have e1 : IntKind.i64.min = -9223372036854775808 := by decide
    have e2 : IntKind.i64.max = 9223372036854775807 := by decide
    rw [e1, e2]
    omega
  have hfew := hC.few
  have hacts : S.acts ≤ S.txs.length := List.length_filter_le _ _
  refine (Begin_walk l.p l.mb l.lp l.rp S.acts S.caps.active S.caps.kept S.caps.reads S.caps.locks S.now S.last S.clock w (fun x y z W => ((x, y, z) : Int × Int × Int) = S.begin.1 ∧ StQ base l S S.begin.2 w W) (fun W => Below w.heap.size w W) (by omega) (by omega) (by omega) (none_s l.p l.mb w c7) h.head
    (fun n => (act_ask base l S w h (w.drewN n) (drewB2 w n)).mono fun e w' ⟨A, c, h1, h2⟩ => ⟨A, c, h1, below_then (drewB2 w n) (by simp) h2⟩) (fun W B => (h.below B).head) ?_ ?_).mono ?_
  · intro hf W B
    rw [begin_full hf]
    exact ⟨rfl, l, rfl, rfl, h.below B, Fr.ofBelow B, fun k hk => .inl hk⟩
  · intro hf W B
    have P := h.below B
    rw [begin_new (by omega)]
    obtain ⟨W3, hW3⟩ : ∃ W3, W3 = (((W.setCell ⟨l.p, 5, none⟩ (.int .i64 (S.last + 1))).setCell ⟨l.p, 6, none⟩ (.int .i64 (S.clock + 1))).alloc (txC (S.last + 1) S.now true (S.clock + 1) 0 false false (.slice none 0 0))).drew := ⟨_, rfl⟩
    have G1 : W.grownBy ((W.setCell ⟨l.p, 5, none⟩ (.int .i64 (S.last + 1))).setCell ⟨l.p, 6, none⟩ (.int .i64 (S.clock + 1))) (some l.p) := trans_grown (grown_set _ _ _ _) (grown_set _ _ _ _)
    obtain ⟨W2, hW2⟩ : ∃ W2, W2 = (W.setCell ⟨l.p, 5, none⟩ (.int .i64 (S.last + 1))).setCell ⟨l.p, 6, none⟩ (.int .i64 (S.clock + 1)) := ⟨_, rfl⟩
    have hsz : W2.heap.size = W.heap.size := by rw [hW2]; simp [World.setCell]
    have op2 : W2.heap[l.p]? = some (hdCells (begS S) l.mb l.lp l.rp) := by
      rw [hW2, blk_set (blk_set P.head 5 _) 6 _]
      rfl
    rw [← hW2] at hW3 G1
    rw [← hW2, ← hW3]
    have B3 : Below W2.heap.size W2 W3 := by rw [hW3]; exact allocDB W2 _
    have F3 : Fr (fun k => k = l.p) W W3 := (Fr.grown G1 |>.mono (O2 := fun k => k = l.p) (fun k hk _ => by injection hk with hk; exact hk.symm)).trans (Fr.ofBelow (O := fun _ => False) B3) (fun k hk _ => hk.elim)
    have T3 : TabT W3 l.mb S.txs.length (txL l.Q S.txs) := P.tab.fr F3 (fun e => k1 e.symm)
    obtain ⟨w5, hmu, T5, hturn⟩ := T3.store (t := 86) (e := 99) keyN valQ Tryz.underlying86 (by simp only [maxLen]; omega) hok (some W.heap.size)
    have G5 := Fr.grown (turned_grown hturn)
    have hq3 : W3.heap[W.heap.size]? = some (txCells (newT S) (.slice none 0 0)) := by
      rw [hW3, ← hsz]
      exact heap_alloc_new W2 _
    have F5 : Fr (fun k => k = l.p ∨ k = l.mb) W w5 := (F3.mono (fun k hk _ => .inl hk)).trans G5 (fun k hk _ => by injection hk with hk; exact .inr hk.symm)
    have h5 : w5.heap[l.p]? = some (hdCells (begS S) l.mb l.lp l.rp) := G5.block _ _ (fun e => by injection e with e; exact k1 e.symm) ((B3.block _ (Array.getElem?_eq_some_iff.1 op2).1).trans op2)
    have q5 : w5.heap[W.heap.size]? = some (txCells (newT S) (.slice none 0 0)) := G5.block _ _ (fun e => by injection e with e; have := P.lts _ (.inr (.inl rfl)); omega) hq3
    have eu : upd (txL l.Q S.txs) (S.last + 1) (some W.heap.size) = txL l.Q S.txs ++ [(S.last + 1, some W.heap.size)] := by
      unfold upd
      rw [got_none_tx h]
      rfl
    rw [eu] at T5
    have PB := P.born K N hC hok W.heap.size (Nat.le_refl _) F5 h5 T5 q5
    refine ⟨w5, hmu, h5, fun n => ⟨rfl, { l with Q := fun n => if n = S.last + 1 then W.heap.size else l.Q n }, rfl, rfl, PB.below (drewB2 w5 n), ?_, fun k hk => ?_⟩⟩
    · exact (((Fr.ofBelow (O := l.own S.txs) B).trans F5 (fun k hk _ => by rcases hk with e | e; exact .inl e; exact .inr (.inl e))).trans (Fr.drewN (O := fun _ => False) w5 n) (fun k hk _ => hk.elim))
    · rcases hk with e | e | e | e | e | ⟨t, ht, e⟩
      · exact .inl (.inl e)
      · exact .inl (.inr (.inl e))
      · exact .inl (.inr (.inr (.inl e)))
      · exact .inl (.inr (.inr (.inr (.inl e))))
      · exact .inl (.inr (.inr (.inr (.inr (.inl e)))))
      · have e : k = if t.num = S.last + 1 then W.heap.size else l.Q t.num := e
        by_cases h1 : t.num = S.last + 1
        · rw [if_pos h1] at e
          have := B.size
          exact .inr (by omega)
        · rw [if_neg h1] at e
          rcases List.mem_append.1 (show t ∈ S.txs ++ [newT S] from ht) with h2 | h2
          · exact .inl (.inr (.inr (.inr (.inr (.inr ⟨t, h2, e⟩)))))
          · exact absurd (by rw [List.mem_singleton.1 h2]; rfl) h1
  · rintro e w' ⟨x, y, z, rfl, h1, h2⟩
    rw [← h1]
    exact ⟨rfl, h2⟩
end Go.Proofs.YthaoedfalkebbaaGreat
namespace Go.Proofs.YthaoedfalkebbaaGreat
open Go.RowKit Go.Maps Go.Sort Go.Lib Go.Shelf Go.Proofs.YthaoedfalkebbaaGreatW.PrintWords Go.Proofs.YthaoedfalkebbaaGreatW.PrintLast Go.Proofs.YthaoedfalkebbaaGreatW.PrintMore
set_option linter.unusedVariables false
set_option linter.unusedSimpArgs false
set_option linter.unusedSectionVars false
set_option maxRecDepth 100000 in
theorem Now_s (base : Nat) (l : Loc) (S : Sm St) (w : World) (h : Pm w base l S) : Calls Tryz.prog 34 #[ptr l.p] w fun e w' => e = .returned (.int .i64 S.now) ∧ w = w' := by
  obtain ⟨_, _, _, _, c4, _, _, c7, _, _⟩ := h.cells
  have N := none_s l.p l.mb w c7
  clear h
  go_enter Tryz.func34, Tryz.ntmps34
  go_wp2_with fail
  refine N.mono ?_
  rintro e w' ⟨rfl, rfl⟩
  go_wp2
  go_ret
  exact ⟨rfl, rfl⟩
def snapV (o : Option Tx) : Int × Int := match o with
  | some t => (t.snap, 0)
  | none => (0, 101)
set_option maxRecDepth 100000 in
theorem Snapshot_s (base : Nat) (l : Loc) (S : Sm St) (tx : Int) (w : World) (h : Pm w base l S) (hx : okN tx) : Calls Tryz.prog 28 #[ptr l.p, .int .i64 tx] w fun e w' => e = .returned (.tuple #[.int .i64 (snapV (S.actv tx)).1, .int .i64 (snapV (S.actv tx)).2]) ∧ w = w' := by
  have A := active_s base l S tx w h hx
  unfold snapV
  cases ha : S.actv tx with
  | none =>
    rw [ha] at A
    unfold actV at A
    clear h ha
    go_enter Tryz.func28, Tryz.ntmps28
    go_wp2_with fail
    refine A.mono ?_
    rintro e w' ⟨rfl, rfl⟩
    go_wp2
    go_ret2
    exact ⟨rfl, rfl⟩
  | some t =>
    rw [ha] at A
    unfold actV at A
    dsimp only at A
    obtain ⟨ht, _, _⟩ := actv_mem ha
    obtain ⟨v, hv, _⟩ := h.tx t ht
    obtain ⟨_, d1, _⟩ := tx_cells hv
    generalize l.Q t.num = q at *
    clear h ha ht hv
    go_enter Tryz.func28, Tryz.ntmps28
    go_wp2_with fail
    refine A.mono ?_
    rintro e w' ⟨rfl, rfl⟩
    go_wp2
    go_ret2
    exact ⟨rfl, rfl⟩
def flagV (o : Option Tx) : Bool × Bool × Int := match o with
  | some t => (t.fin, t.fout, 0)
  | none => (false, false, 101)
set_option maxRecDepth 100000 in
theorem Flags_s (base : Nat) (l : Loc) (S : Sm St) (tx : Int) (w : World) (h : Pm w base l S) (hx : okN tx) : Calls Tryz.prog 27 #[ptr l.p, .int .i64 tx] w fun e w' => e = .returned (.tuple #[.agg #[.bool (flagV (S.actv tx)).1, .bool (flagV (S.actv tx)).2.1], .int .i64 (flagV (S.actv tx)).2.2]) ∧ Below w.heap.size w w' := by
  obtain ⟨w1, hw1⟩ : ∃ w1, w1 = w.alloc (.cells #[.bool false, .bool false] 67) := ⟨_, rfl⟩
  have B1 : Below w.heap.size w w1 := by rw [hw1]; exact (Below.refl _ w).alloc (Nat.le_refl _) _
  have P1 := h.below B1
  have A := active_s base l S tx w1 P1 hx
  unfold flagV
  cases ha : S.actv tx with
  | none =>
    rw [ha] at A
    unfold actV at A
    rw [hw1] at A B1
    clear h ha hw1 P1
    go_enter Tryz.func27, Tryz.ntmps27
    go_wp2_with fail
    refine A.mono ?_
    rintro e w' ⟨rfl, rfl⟩
    go_wp2
    exact bodyPost_ret (v := .tuple #[.agg #[.bool false, .bool false], .int .i64 101]) (by simp [results, Tryz.results27, go_sem]) rfl ⟨rfl, B1⟩
  | some t =>
    rw [ha] at A
    unfold actV at A
    dsimp only at A
    obtain ⟨ht, _, _⟩ := actv_mem ha
    obtain ⟨v, hv, _⟩ := P1.tx t ht
    obtain ⟨_, _, _, _, _, d5, d6, _⟩ := tx_cells hv
    generalize l.Q t.num = q at *
    rw [hw1] at A B1 d5 d6
    clear h ha ht hv hw1 P1
    dsimp only
    generalize t.fin = fi at *
    generalize t.fout = fo at *
    go_enter Tryz.func27, Tryz.ntmps27
    go_wp2_with fail
    refine A.mono ?_
    rintro e w' ⟨rfl, rfl⟩
    go_wp2
    exact bodyPost_ret (v := .tuple #[.agg #[.bool fi, .bool fo], .int .i64 0]) (by simp [results, Tryz.results27, go_sem]) rfl ⟨rfl, (Below.refl _ w).alloc (Nat.le_refl _) _⟩
set_option maxHeartbeats 16000000 in
set_option maxRecDepth 100000 in
theorem Tracked_s (base : Nat) (l : Loc) (S : Sm St) (w : World) (K N : Int) (h : Pm w base l S) (hC : Cap S K N) : Calls Tryz.prog 24 #[ptr l.p] w fun e w' => e = .returned (.agg #[.int .i64 S.acts, .int .i64 ((S.txs.length : Int) - S.acts), .int .i64 S.reads.n, .int .i64 S.locks.length]) ∧ Below w.heap.size w w' := by
  obtain ⟨w1, hw1⟩ : ∃ w1, w1 = w.alloc (.cells #[.int .i64 0, .int .i64 0, .int .i64 0, .int .i64 0] 60) := ⟨_, rfl⟩
  have B1 : Below w.heap.size w w1 := by rw [hw1]; exact (Below.refl _ w).alloc (Nat.le_refl _) _
  have P1 := h.below B1
  have ob : w1.heap[w.heap.size]? = some (.cells #[.int .i64 0, .int .i64 0, .int .i64 0, .int .i64 0] 60 (0, 0)) := by rw [hw1]; exact heap_alloc_new w _
  obtain ⟨_, _, _, _, _, _, _, c7, c8, c9⟩ := P1.cells
  have N := none_s l.p l.mb w1 c7
  have AC := act_ask base l S w h w1 B1
  have hfew := hC.few
  have hacts : S.acts ≤ S.txs.length := List.length_filter_le _ _
  have CELS : ∀ W, Below w.heap.size w W → W.cell? ⟨l.p, 7, none⟩ = some (.map (some l.mb)) ∧ W.cell? ⟨l.p, 8, none⟩ = some (ptr l.lp) ∧ W.cell? ⟨l.p, 9, none⟩ = some (ptr l.rp) ∧ (Builtin.len_ #[86] 3 #[.map (some l.mb)]).run Tryz.prog W = .ok (.int .i64 (S.txs.length : Int)) W := fun W B => by
    have P := h.below B
    obtain ⟨_, _, _, _, _, _, _, c7, c8, c9⟩ := P.cells
    have := Tab.len (t := 86) Tryz.underlying86 P.tab 3
    unfold txL at this
    rw [List.length_map] at this
    exact ⟨c7, c8, c9, this⟩
  have L61 : ∀ W, Below w1.heap.size w1 W → ∀ n, Calls Tryz.prog 61 #[ptr l.rp] (W.drewN n) fun e w' => e = .returned (.int .i64 S.reads.n) ∧ W.drewN n = w' := fun W B n => Len_S base l.rp l.rb S.caps.reads S.reads _ ((P1.below B).below (drewB2 W n)).reads
  have L62 : ∀ W, Below w1.heap.size w1 W → ∀ n, Calls Tryz.prog 62 #[ptr l.lp] (W.drewN n) fun e w' => e = .returned (.int .i64 (S.locks.length : Int)) ∧ W.drewN n = w' := fun W B n => Lck.Len_calls l.lp l.lb S.caps.locks S.locks _ ((P1.below B).below (drewB2 W n)).locks
  have hwr : IntKind.i64.wrap ((S.txs.length : Int) - S.acts) = (S.txs.length : Int) - S.acts := IntWalk.i64_in _ (by omega)
  have CEL : ∀ W, Below w1.heap.size w1 W → W.heap[w.heap.size]? = some (.cells #[.int .i64 0, .int .i64 0, .int .i64 0, .int .i64 0] 60 (0, 0)) ∧ ∀ n, Below w.heap.size w (W.drewN n) := fun W B => ⟨(B.block _ (Array.getElem?_eq_some_iff.1 ob).1).trans ob, fun n => below_then (below_then B1 B1.size B) (below_then B1 B1.size B).size (drewB2 W n)⟩
  generalize (S.txs.length : Int) = tl at *
  generalize (S.locks.length : Int) = kl at *
  generalize S.reads.n = rn at *
  generalize S.acts = ac at *
  clear h P1 hC hfew hacts
  replace CEL := Aside0.mk CEL
  replace CELS := Aside0.mk CELS
  replace L61 := Aside0.mk L61
  replace L62 := Aside0.mk L62
  go_enter Tryz.func24, Tryz.ntmps24
  go_upto_region 1 with (fail)
  rw [← hw1]
  clear hw1
  go_wp2_with fail
  refine N.mono ?_
  rintro e w' ⟨rfl, rfl⟩
  go_wp2_with fail
  refine AC.mono ?_
  rintro e w2 ⟨A2, c2, rfl, B2⟩
  obtain ⟨ob2, BW⟩ := CEL.out w2 B2
  have obn : ∀ n, (w2.drewN n).heap[w.heap.size]? = some (.cells #[.int .i64 0, .int .i64 0, .int .i64 0, .int .i64 0] 60 (0, 0)) := fun n => ob2
  have fz := fun n => blk_frozen (obn n)
  have x0 := fun n => cell_of_row (w2.drewN n) _ 0 _ 60 (0, 0) (obn n)
  have x1 := fun n => cell_of_row (w2.drewN n) _ 1 _ 60 (0, 0) (obn n)
  have x2 := fun n => cell_of_row (w2.drewN n) _ 2 _ 60 (0, 0) (obn n)
  have x3 := fun n => cell_of_row (w2.drewN n) _ 3 _ 60 (0, 0) (obn n)
  have L61 := L61.out w2 B2
  have L62 := L62.out w2 B2
  clear CEL c7 c8 c9 ob B2
  replace obn := Aside0.mk obn
  replace BW := Aside0.mk BW
  have h4 : w.heap.size ≤ w.heap.size := Nat.le_refl _
  go_wp2_with fail
  go_region_held3 (fun V => V.cell? ⟨l.p, 7, none⟩ = some (.map (some l.mb)) ∧ V.cell? ⟨l.p, 8, none⟩ = some (ptr l.lp) ∧ V.cell? ⟨l.p, 9, none⟩ = some (ptr l.rp) ∧ (Builtin.len_ #[86] 3 #[.map (some l.mb)]).run Tryz.prog V = .ok (.int .i64 tl) V) (first | exact CELS.out _ (BW.out 0) | exact CELS.out _ (BW.out 1) | exact CELS.out _ (BW.out 2) | exact CELS.out _ (BW.out _) | exact CELS.out _ (((((BW.out 1).setCell h4 _).setCell h4 _).setCell h4 _).setCell h4 _))
    (first | (go_at_call 61; refine (L61 _).mono ?_; rintro e w3 ⟨rfl, rfl⟩) | (go_at_call 62; refine (L62 _).mono ?_; rintro e w3 ⟨rfl, rfl⟩))
  clear x0 x1 x2 x3 fz L61 L62 AC N
  go_wp2
  exact bodyPost_ret (results_cell_row rfl _ _ w.heap.size 60 #[.int .i64 ac, .int .i64 (tl - ac), .int .i64 rn, .int .i64 kl] (0, 0) _ rfl (by rw [blk_set (blk_set (blk_set (blk_set (obn.out 1) 0 _) 1 _) 2 _) 3 _]; rfl) Tryz.underlying60 rfl (by kernel_rfl)) rfl ⟨rfl, ((((BW.out 1).setCell h4 _).setCell h4 _).setCell h4 _).setCell h4 _⟩
end Go.Proofs.YthaoedfalkebbaaGreat
namespace Go.Proofs.YthaoedfalkebbaaGreat
set_option linter.unusedVariables false
set_option linter.unusedSectionVars false
section
variable {ρ : Type} {I : RdI ρ} {ok : ρ → Prop} {most : Int}
/-- no two concurrent ones that commit have written one row -/
theorem first_of {W : Wld ρ} {G : List Gh} {mom : Int} (w : WI I ok W G mom) {i k : Nat} {a b : Run} (hik : i ≠ k) (ha : W.list[i]? = some a) (hb : W.list[k]? = some b) (ca : a.committed = true) (cb : b.committed = true) (h1 : ¬ a.ended < b.begun) (h2 : ¬ b.ended < a.begun) : ∀ x ∈ a.writes, x ∉ b.writes := by
  intro x hx hy
  obtain ⟨g, hg⟩ := w.mi.gh ha
  obtain ⟨h, hh⟩ := w.mi.gh hb
  have m1 := w.mo i k a b g h ha hb hg hh ca (by omega)
  have m2 := w.mo k i b a h g hb ha hh hg cb (by omega)
  rcases w.si.fcw i k a b g h hik ha hb hg hh (.inr ca) cb ⟨x, hx, hy⟩ with e | ⟨_, e⟩ <;> omega
end
end Go.Proofs.YthaoedfalkebbaaGreat
namespace Go.Proofs.YthaoedfalkebbaaGreat
set_option linter.unusedVariables false
set_option linter.unusedSectionVars false
set_option linter.unusedSimpArgs false
section
variable {ρ : Type} {I : RdI ρ} {ok : ρ → Prop} {most : Int}
/-- those under way, as the world counts them -/
def actW (list : List Run) : Nat := (list.filter (fun x => !x.over)).length
def lockW (list : List Run) : Nat := ((list.filter (fun x => !x.over)).map (fun x => x.writes.length)).sum
def openI (list : List Run) : List Int := (list.filter (fun x => !x.over)).map (fun x => x.tx)
theorem num_lt : ∀ (list : List Run) (k : Int), (∀ (i : Nat) (x : Run), list[i]? = some x → x.tx = k + (i : Int) + 1) → list.Pairwise (fun a b => a.tx < b.tx) ∧ ∀ x ∈ list, k < x.tx
  | [], k, h => ⟨List.Pairwise.nil, by simp⟩
  | x :: list, k, h => by
    have h0 := h 0 x rfl
    obtain ⟨h1, h2⟩ := num_lt list (k + 1) (fun i y hy => by have := h (i + 1) y (by simpa using hy); push_cast at this; omega)
    refine ⟨List.pairwise_cons.2 ⟨fun y hy => by have := h2 y hy; simp at h0; omega, h1⟩, fun y hy => ?_⟩
    rcases List.mem_cons.1 hy with rfl | hy
    · simp at h0; omega
    · have := h2 y hy; omega
theorem act_nums {S : Sm ρ} {list : List Run} {G : List Gh} (M : MI I ok S list G) : (S.txs.filter (fun t => t.act)).map (fun t => t.num) = openI list := by
  refine strict_unique ?_ ?_ (fun n => ?_)
  · rw [List.pairwise_map]
    exact M.dist.sublist List.filter_sublist
  · unfold openI
    rw [List.pairwise_map]
    exact (num_lt list 0 (fun i x hx => by have := M.num i x hx; omega)).1.sublist List.filter_sublist
  · unfold openI
    constructor
    · intro h
      obtain ⟨t, ht, e⟩ := List.mem_map.1 h
      obtain ⟨h1, h2⟩ := List.mem_filter.1 ht
      obtain ⟨i, x, g, k1, k2, k3, _, _, _, _, k8, _⟩ := M.tx t h1
      refine List.mem_map.2 ⟨x, List.mem_filter.2 ⟨List.mem_of_getElem? k1, by rw [k8 h2]; rfl⟩, ?_⟩
      rw [M.num i x k1]
      omega
    · intro h
      obtain ⟨x, hx, e⟩ := List.mem_map.1 h
      obtain ⟨h1, h2⟩ := List.mem_filter.1 hx
      obtain ⟨i, hi⟩ := List.mem_iff_getElem?.1 h1
      obtain ⟨t, ht, e2, ha⟩ := M.under i x hi (by simpa using h2)
      refine List.mem_map.2 ⟨t, List.mem_filter.2 ⟨ht, ha⟩, ?_⟩
      rw [← e, M.num i x hi]
      exact e2
theorem act_len {S : Sm ρ} {list : List Run} {G : List Gh} (M : MI I ok S list G) : S.acts = actW list := by
  have := congrArg List.length (act_nums M)
  unfold openI at this
  rw [List.length_map, List.length_map] at this
  exact this
theorem locks_sum : ∀ (ns : List Int) (L : List (Lk × Int)), ns.Nodup → (∀ p ∈ L, p.2 ∈ ns) → L.length = (ns.map (fun n => (heldOf L n).length)).sum
  | [], L, _, h => by
    cases L with
    | nil => rfl
    | cons p L => have := h p List.mem_cons_self; cases this
  | n :: ns, L, hn, h => by
    rw [List.nodup_cons] at hn
    have ih := locks_sum ns (L.filter (fun p => p.2 != n)) hn.2 (fun p hp => by
      obtain ⟨h1, h2⟩ := List.mem_filter.1 hp
      rcases List.mem_cons.1 (h p h1) with e | e
      · simp [e] at h2
      · exact e)
    have e1 : (ns.map (fun m => (heldOf (L.filter (fun p => p.2 != n)) m).length)) = ns.map (fun m => (heldOf L m).length) := by
      apply List.map_congr_left
      intro m hm
      rw [heldOf_filter L (fun e => hn.1 (by rw [← e]; exact hm))]
    rw [e1] at ih
    simp only [List.map_cons, List.sum_cons]
    rw [← ih]
    unfold heldOf
    rw [List.length_map]
    clear ih e1 h
    induction L with
    | nil => rfl
    | cons p L ih2 =>
      rw [List.filter_cons, List.filter_cons]
      by_cases e : p.2 = n
      · simp only [e, beq_self_eq_true, bne_self_eq_false, if_true, List.length_cons, Bool.false_eq_true, if_false]
        omega
      · have e1 : (p.2 == n) = false := by simpa using e
        have e2 : (p.2 != n) = true := by simpa using e
        simp only [e1, e2, if_true, List.length_cons, Bool.false_eq_true, if_false]
        omega
theorem lock_len {S : Sm ρ} {list : List Run} {G : List Gh} (M : MI I ok S list G) : S.locks.length = lockW list := by
  have hp := (num_lt list 0 (fun i x hx => by have := M.num i x hx; omega)).1
  have hnd : (openI list).Nodup := by
    unfold openI
    rw [List.Nodup, List.pairwise_map]
    exact (hp.sublist List.filter_sublist).imp (fun h => by omega)
  rw [locks_sum (openI list) S.locks hnd (fun p hp => by
    obtain ⟨i, x, h1, h2, h3⟩ := M.lown p hp
    refine List.mem_map.2 ⟨x, List.mem_filter.2 ⟨List.mem_of_getElem? h1, by rw [h2]; rfl⟩, ?_⟩
    rw [M.num i x h1, h3])]
  unfold openI lockW
  rw [List.map_map]
  congr 1
  apply List.map_congr_left
  intro x hx
  obtain ⟨h1, h2⟩ := List.mem_filter.1 hx
  obtain ⟨i, hi⟩ := List.mem_iff_getElem?.1 h1
  simp only [Function.comp]
  rw [M.num i x hi, M.locks i x hi (by simpa using h2)]
def Kp (S : Sm ρ) : Prop := ∀ t ∈ S.txs, keepB S.txs t = true
theorem keepB_forget (txs : List Tx) (t : Tx) : keepB (txs.filter (keepB txs)) t = keepB txs t := by
  unfold keepB
  congr 1
  rw [Bool.eq_iff_iff, List.any_eq_true, List.any_eq_true]
  constructor
  · rintro ⟨x, hx, h⟩
    exact ⟨x, (List.mem_filter.1 hx).1, h⟩
  · rintro ⟨x, hx, h⟩
    have h2 := (Bool.and_eq_true _ _).mp h
    exact ⟨x, List.mem_filter.2 ⟨hx, by rw [h2.1]; rfl⟩, h⟩
theorem Kp.forget (S : Sm ρ) : Kp (S.forget I) := by
  intro t ht
  show keepB (S.txs.filter (keepB S.txs)) t = true
  rw [keepB_forget]
  exact (List.mem_filter.1 ht).2
theorem Kp.gone (S : Sm ρ) (n : Int) : Kp (S.gone I n) := Kp.forget _
theorem keepB_map (txs : List Tx) (φ : Tx → Tx) (hφ : ∀ o, (φ o).act = o.act ∧ (φ o).begun = o.begun ∧ (φ o).ended = o.ended) (t : Tx) : keepB (txs.map φ) (φ t) = keepB txs t := by
  unfold keepB
  rw [(hφ t).1, List.any_map]
  congr 1
  congr 1
  funext a
  simp only [Function.comp]
  rw [(hφ a).1, (hφ a).2.1, (hφ t).2.2]
theorem Kp.put {S : Sm ρ} (h : Kp S) (t : Tx) (so : Tx → Bool) (out : Bool) : Kp (S.put I t so out).2 := by
  unfold Sm.put
  split
  · exact Kp.gone _ _
  · intro u hu
    obtain ⟨o, ho, e⟩ := List.mem_map.1 hu
    rw [← e]
    show keepB (S.txs.map _) _ = true
    rw [keepB_map S.txs (fun o => if o.num == t.num then (if S.txs.any (fun o => concB t o && so o) then setF o (!out) else o) else if concB t o && so o then setF o out else o) (fun o => by
      unfold setF
      split
      · split <;> exact ⟨rfl, rfl, rfl⟩
      · split <;> exact ⟨rfl, rfl, rfl⟩)]
    exact h o ho
theorem Kp.noteS {S : Sm ρ} (h : Kp S) (t : Tx) (x : Rd) (f u : ByteArray) : Kp (S.noteS I t x f u).2 := by
  unfold Sm.noteS
  split
  · exact Kp.gone _ _
  · exact Kp.put (show Kp { S with reads := (I.note S.reads t.num x).2 } from h) _ _ _
theorem Kp.read {S : Sm ρ} (h : Kp S) (tx : Int) (a : Lk) : Kp (S.read I tx a).2 := by
  unfold Sm.read
  split
  · exact h
  · split
    · exact h
    · exact h.noteS _ _ _ _
theorem Kp.scan {S : Sm ρ} (h : Kp S) (tx : Int) (tb f u : ByteArray) : Kp (S.scan I tx tb f u).2 := by
  unfold Sm.scan
  split
  · exact h
  · split
    · exact h
    · exact h.noteS _ _ _ _
theorem Kp.write {S : Sm ρ} (h : Kp S) (tx : Int) (a : Lk) (last : Int) : Kp (S.write I tx a last).2 := by
  unfold Sm.write
  split
  · exact h
  · split
    · exact h
    · split
      · exact h
      · split
        · exact Kp.gone _ _
        · split
          · exact Kp.gone _ _
          · rename_i t _ _ _ _ _
            exact Kp.put (show Kp { S with locks := (tk S.caps.locks S.locks tx t.snap last a).2 } from h) _ _ _
theorem Kp.abort {S : Sm ρ} (h : Kp S) (tx : Int) : Kp (S.abort I tx).2 := by
  unfold Sm.abort
  split
  · exact h
  · exact Kp.gone _ _
theorem Kp.commit {S : Sm ρ} (h : Kp S) (tx : Int) : Kp (S.commit I tx).2 := by
  unfold Sm.commit
  split
  · exact h
  · split
    · exact Kp.gone _ _
    · split
      · exact Kp.gone _ _
      · exact Kp.forget _
theorem Kp.begin {S : Sm ρ} (h : Kp S) : Kp S.begin.2 := by
  unfold Sm.begin
  split
  · exact h
  · intro t ht
    have key : ∀ o : Tx, keepB S.txs o = true → keepB (S.txs ++ [⟨S.last + 1, S.now, true, S.clock + 1, 0, false, false, []⟩]) o = true := fun o ho => by
      unfold keepB at ho ⊢
      rw [List.any_append]
      rw [Bool.or_eq_true] at ho ⊢
      rcases ho with ho | ho
      · exact .inl ho
      · exact .inr (by rw [ho]; rfl)
    rcases List.mem_append.1 ht with ht | ht
    · exact key t (h t ht)
    · rw [List.mem_singleton.1 ht]
      unfold keepB
      simp
/-- nobody is under way: nothing is there -/
theorem Kp.none {S : Sm ρ} (h : Kp S) (ha : S.acts = 0) : S.txs = [] := by
  have hno : ∀ t ∈ S.txs, t.act = false := fun t ht => by
    cases hc : t.act with
    | false => rfl
    | true =>
      have : 0 < S.acts := List.length_pos_iff_exists_mem.2 ⟨t, List.mem_filter.2 ⟨ht, hc⟩⟩
      omega
  cases hS : S.txs with
  | nil => rfl
  | cons t l =>
    have ht : t ∈ S.txs := by rw [hS]; exact List.mem_cons_self
    have := h t ht
    unfold keepB at this
    rw [hno t ht, Bool.false_or, List.any_eq_true] at this
    obtain ⟨a, ha2, hb⟩ := this
    rw [Bool.and_eq_true, hno a ha2] at hb
    cases hb.1
theorem all_gone (L : RdL I ok most) {S : Sm ρ} {list : List Run} {G : List Gh} (M : MI I ok S list G) (h : Kp S) (ha : S.acts = 0) : S.txs = [] ∧ S.locks = [] ∧ I.len S.reads = 0 := by
  have e := h.none ha
  refine ⟨e, ?_, L.len_none _ M.okr (fun n => ?_)⟩
  · cases hL : S.locks with
    | nil => rfl
    | cons p l =>
      obtain ⟨i, x, h1, h2, h3⟩ := M.lown p (by rw [hL]; exact List.mem_cons_self)
      obtain ⟨t, ht, _⟩ := M.under i x h1 h2
      rw [e] at ht
      cases ht
  · cases hn : I.has S.reads n with
    | false => rfl
    | true =>
      obtain ⟨t, ht, _⟩ := M.owners n hn
      rw [e] at ht
      cases ht
/-- the last aborts -/
def abortAll (I : RdI ρ) (S : Sm ρ) : List Run → Int × Sm ρ
  | [] => (0, S)
  | x :: l => if x.over then abortAll I S l else if (S.abort I x.tx).1 ≠ 0 then ((S.abort I x.tx).1, (S.abort I x.tx).2) else abortAll I (S.abort I x.tx).2 l
theorem abortAll_ok (L : RdL I ok most) : ∀ (post pre : List Run) (S : Sm ρ) (G : List Gh), MI I ok S (pre ++ post) G → Kp S → (∀ x ∈ pre, x.over = true) → ∃ list' G', MI I ok (abortAll I S post).2 list' G' ∧ Kp (abortAll I S post).2 ∧ (abortAll I S post).1 = 0 ∧ ∀ x ∈ list', x.over = true
  | [], pre, S, G, M, hK, hp => ⟨_, G, M, hK, rfl, fun x hx => hp x (by simpa using hx)⟩
  | x :: post, pre, S, G, M, hK, hp => by
    unfold abortAll
    cases ho : x.over with
    | true =>
      rw [if_pos rfl]
      have e : pre ++ x :: post = (pre ++ [x]) ++ post := by simp
      rw [e] at M
      exact abortAll_ok L post (pre ++ [x]) S G M hK (fun y hy => by
        rcases List.mem_append.1 hy with hy | hy
        · exact hp y hy
        · rw [List.mem_singleton.1 hy]; exact ho)
    | false =>
      rw [if_neg (by decide)]
      have hx : (pre ++ x :: post)[pre.length]? = some x := by simp
      obtain ⟨hc, t, g, ht, hg, e, ha, _, _, _, _, hav⟩ := M.open_ hx ho
      have htx := M.num _ _ hx
      have e1 : S.abort I x.tx = (0, S.gone I x.tx) := by
        unfold Sm.abort
        rw [htx, hav]
      rw [e1]
      simp only [ne_eq, not_true_eq_false, if_false]
      have M2 := (refused_gone (vs := []) L M hx ho).mi (overR x 0) rfl rfl hc rfl
      rw [← htx] at M2
      have e2 : (pre ++ x :: post).set pre.length (overR x 0) = (pre ++ [overR x 0]) ++ post := by simp
      rw [e2] at M2
      exact abortAll_ok L post _ _ G M2 (Kp.gone _ _) (fun y hy => by
        rcases List.mem_append.1 hy with hy | hy
        · exact hp y hy
        · rw [List.mem_singleton.1 hy]; rfl)
end
end Go.Proofs.YthaoedfalkebbaaGreat
namespace Go.Proofs.YthaoedfalkebbaaGreat
set_option linter.unusedVariables false
set_option linter.unusedSectionVars false
set_option linter.unusedSimpArgs false
section
variable {ρ : Type} {I : RdI ρ} {ok : ρ → Prop} {most : Int}
theorem opAt_L (L : RdL I ok most) {W : Wld ρ} {G : List Gh} (M : MI I ok W.m W.list G) (s : SI W.list G W.vers W.m.now) (hn0 : 0 ≤ W.m.now) (hnm : W.m.now ≤ 4611686018427387904) {i : Nat} {x : Run} (hx : W.list[i]? = some x) (ho : x.over = false) (o : Opn) (ht : o.tx = (i : Int) + 1) :
    ((W.opAt I o i x).1 ≠ 0 ∧ ∃ S', Refused I ok S' W.m W.list G W.vers i x ∧ (W.opAt I o i x).2 = { W with m := S' }) ∨
    ((W.opAt I o i x).1 = 0 ∧ (o.kind = 1 ∨ o.kind = 2 ∨ o.kind = 3) ∧ ∃ G' S' x', (W.opAt I o i x).2 = { W with m := S', list := W.list.set i x' } ∧ MI I ok S' (W.list.set i x') G' ∧ SI (W.list.set i x') G' W.vers W.m.now ∧ Grow G G' ∧ S'.now = W.m.now ∧ S'.caps = W.m.caps ∧ x'.begun = x.begun ∧ x'.over = false ∧ x'.committed = false ∧ S'.txs.map (fun t => (t.num, t.act)) = W.m.txs.map (fun t => (t.num, t.act)) ∧ (S'.locks.length = W.m.locks.length ∨ S'.locks.length ≤ W.m.caps.locks)) ∨
    ((W.opAt I o i x).1 = 0 ∧ o.kind = 4 ∧ ∃ g, G[i]? = some g ∧ ∃ S', (W.opAt I o i x).2 = ⟨S', W.rows, commitV W.vers x.writes (if x.writes = [] then W.m.now else W.m.now + 1) i, W.list.set i { x with committed := true }, W.bad⟩ ∧ S' = (W.m.commit I ((i : Int) + 1)).2 ∧ S'.now = (if x.writes = [] then W.m.now else W.m.now + 1) ∧ S'.caps = W.m.caps ∧
      (∀ x', x'.tx = x.tx → x'.over = true → x'.committed = true → x'.writes = x.writes → x'.snap = x.snap → x'.reads = x.reads →
        MI I ok S' (W.list.set i x') (G.set i { g with ce := W.m.clock + 1 }) ∧ SI (W.list.set i x') (G.set i { g with ce := W.m.clock + 1 }) (commitV W.vers x.writes (if x.writes = [] then W.m.now else W.m.now + 1) i) (if x.writes = [] then W.m.now else W.m.now + 1))) ∨
    ((W.opAt I o i x).1 = 0 ∧ o.kind ≠ 1 ∧ o.kind ≠ 2 ∧ o.kind ≠ 3 ∧ o.kind ≠ 4 ∧ ∃ S', Refused I ok S' W.m W.list G W.vers i x ∧ (W.opAt I o i x).2 = { W with m := S' }) := by
  obtain ⟨hc, t, g, htm, hg, hnum, hact, hsn, hbg, hfi, hfo, hav⟩ := M.open_ hx ho
  have hw := M.locks i x hx ho
  have hset : W.list.set i x = W.list := by
    apply List.ext_getElem?
    intro j
    by_cases e : j = i
    · subst e; rw [set_at hx, hx]
    · rw [set_ne e]
  unfold Wld.opAt
  rw [ht]
  by_cases k1 : o.kind = 1
  · simp only [if_pos k1]
    unfold Sm.read
    rw [hav]
    simp only
    by_cases hh : holder W.m.locks o.at_ = some ((i : Int) + 1)
    · simp only [if_pos hh, if_true]
      have hin : o.at_ ∈ x.writes := by rw [← hw]; exact (holder_iff M.ldist).1 hh
      refine .inr (.inl ⟨trivial, .inl k1, G, W.m, x, ?_, by rw [hset]; exact M, by rw [hset]; exact s, Grow.refl G, rfl, rfl, rfl, ho, hc, rfl, .inl rfl⟩)
      unfold sees
      rw [if_pos hin]
    · simp only [if_neg hh]
      by_cases hin : o.at_ ∈ x.writes
      · exact absurd ((holder_iff M.ldist).2 (by rw [hw]; exact hin)) hh
      · rcases noteS_step L M s hx ho hav ⟨o.at_.1, 1, o.at_.2, ⟨#[]⟩⟩ o.at_.2 (o.at_.2 ++ ⟨#[0]⟩) [⟨o.at_, newest W.vers o.at_ x.snap⟩] (fun r hr => by rw [List.mem_singleton.1 hr]) (fun r hr => by rw [List.mem_singleton.1 hr]; exact ⟨rfl, inR_key _, hold_key _ _⟩) with ⟨h1, h2, _⟩ | ⟨h1, G', h2, h3, h4, h5, h6, h7, h8⟩
        · refine .inl ⟨h1, _, h2, ?_⟩
          rw [if_neg h1]
        · refine .inr (.inl ⟨h1, .inl k1, G', _, _, ?_, h2, h3, h4, h5, h6, rfl, ho, hc, h7, .inl (by rw [h8])⟩)
          rw [if_pos h1]
          unfold sees
          rw [if_neg hin]
  · simp only [if_neg k1]
    by_cases k2 : o.kind = 2
    · simp only [if_pos k2]
      unfold Sm.scan
      rw [hav]
      simp only
      by_cases hh : o.to_.toList ≠ [] ∧ Op.bytesLess o.at_.2.toList o.to_.toList = false
      · simp only [if_pos hh, if_true]
        refine .inr (.inl ⟨trivial, .inr (.inl k2), G, W.m, x, ?_, by rw [hset]; exact M, by rw [hset]; exact s, Grow.refl G, rfl, rfl, rfl, ho, hc, rfl, .inl rfl⟩)
        have : W.rows.filter (fun a => eqS a.1 o.at_.1 && inR a.2 o.at_.2 o.to_) = [] := by
          rw [List.filter_eq_nil_iff]
          intro a _
          rw [inR_none hh.1 hh.2]
          simp
        rw [this]
        rfl
      · simp only [if_neg hh]
        rw [sees_fold]
        obtain ⟨rs, hrs⟩ : ∃ rs, rs = ((W.rows.filter (fun a => eqS a.1 o.at_.1 && inR a.2 o.at_.2 o.to_)).filter (fun a => decide (a ∉ x.writes))).map (fun a => (⟨a, newest W.vers a x.snap⟩ : Sw)) := ⟨_, rfl⟩
        rw [← hrs]
        have hmem : ∀ r ∈ rs, r.saw = newest W.vers r.at_ x.snap ∧ eqS r.at_.1 o.at_.1 = true ∧ inR r.at_.2 o.at_.2 o.to_ = true := fun r hr => by
          rw [hrs] at hr
          obtain ⟨a, ha, rfl⟩ := List.mem_map.1 hr
          have h1 := (List.mem_filter.1 ha).1
          have h2 := (List.mem_filter.1 h1).2
          rw [Bool.and_eq_true] at h2
          exact ⟨rfl, h2⟩
        rcases noteS_step L M s hx ho hav ⟨o.at_.1, 2, o.at_.2, o.to_⟩ o.at_.2 o.to_ rs (fun r hr => (hmem r hr).1) (fun r hr => ⟨eqS_eq (hmem r hr).2.1, (hmem r hr).2.2, inR_hold (hmem r hr).2.2⟩) with ⟨h1, h2, _⟩ | ⟨h1, G', h2, h3, h4, h5, h6, h7, h8⟩
        · refine .inl ⟨h1, _, h2, ?_⟩
          rw [if_neg h1]
        · refine .inr (.inl ⟨h1, .inr (.inl k2), G', _, _, ?_, h2, h3, h4, h5, h6, rfl, ho, hc, h7, .inl (by rw [h8])⟩)
          rw [if_pos h1]
    · simp only [if_neg k2]
      by_cases k3 : o.kind = 3
      · simp only [if_pos k3]
        have hls := lastNum_spec s hnm o.at_
        have hlu : (if 0 ≤ newest W.vers o.at_ 4611686018427387904 then ((W.vers[(newest W.vers o.at_ 4611686018427387904).toNat]?).map (·.num)).getD 0 else 0) = lastNum W.vers o.at_ := rfl
        rw [hlu]
        rcases write_step L M s hx ho o.at_ (lastNum W.vers o.at_) hls.1 hls.2 with ⟨h1, h2⟩ | ⟨h1, h2, h3⟩ | ⟨h1, h2, G', h3, h4, h5, h6, h7, h8, h9, h10⟩
        · refine .inl ⟨h1, _, h2, ?_⟩
          rw [if_neg (fun q => h1 q.1)]
        · refine .inr (.inl ⟨h1, .inr (.inr k3), G, W.m, x, ?_, by rw [hset]; exact M, by rw [hset]; exact s, Grow.refl G, rfl, rfl, rfl, ho, hc, rfl, .inl rfl⟩)
          rw [if_neg (fun q => q.2 h2), h3, hset]
        · refine .inr (.inl ⟨h1, .inr (.inr k3), G', _, _, ?_, h3, h4, h5, h6, h7, rfl, ho, hc, h8, .inr (by rw [h9, List.length_append]; simp only [List.length_cons, List.length_nil]; omega)⟩)
          rw [if_pos ⟨h1, h2⟩]
      · simp only [if_neg k3]
        by_cases k4 : o.kind = 4
        · simp only [if_pos k4]
          rcases commit_step L M s hn0 hx ho with ⟨h1, h2⟩ | ⟨h1, h2, h3, h4, g', hg', h5⟩
          · rw [if_neg h1]
            exact .inl ⟨h1, _, h2, rfl⟩
          · rw [if_pos h1]
            refine .inr (.inr (.inl ⟨rfl, k4, g', hg', _, ?_, rfl, h3, h4, h5⟩))
            rw [h2, h3]
            simp
        · simp only [if_neg k4]
          unfold Sm.abort
          rw [hav]
          exact .inr (.inr (.inr ⟨rfl, k1, k2, k3, k4, _, refused_gone L M hx ho, rfl⟩))
/-- the world without what its moments say -/
structure WL (I : RdI ρ) (ok : ρ → Prop) (W : Wld ρ) (G : List Gh) (mom : Int) : Prop where
  mi : MI I ok W.m W.list G
  si : SI W.list G W.vers W.m.now
  good : W.bad = false
  now0 : 0 ≤ W.m.now
  nowm : W.m.now ≤ mom
  kp : Kp W.m
theorem WL.later {W : Wld ρ} {G : List Gh} {mom : Int} (w : WL I ok W G mom) : WL I ok W G (mom + 1) :=
  ⟨w.mi, w.si, w.good, w.now0, by have := w.nowm; omega, w.kp⟩
theorem opAt_Kp {W : Wld ρ} (h : Kp W.m) (o : Opn) (i : Nat) (x : Run) : Kp (W.opAt I o i x).2.m := by
  unfold Wld.opAt
  split
  · exact h.read _ _
  · split
    · exact h.scan _ _ _ _
    · split
      · exact h.write _ _ _
      · split
        · split
          · exact h.commit _
          · exact h.commit _
        · exact h.abort _
theorem step_Kp {W : Wld ρ} (h : Kp W.m) (o : Opn) (m : Int) : Kp (W.step I o m).2.m := by
  unfold Wld.step
  split
  · split
    · exact h.begin
    · exact h.begin
  · split
    · exact h
    · split
      · exact h
      · split
        · exact h
        · dsimp only
          split
          · exact opAt_Kp h _ _ _
          · exact opAt_Kp h _ _ _
theorem step_WL (L : RdL I ok most) {W : Wld ρ} {G : List Gh} {mom : Int} (w : WL I ok W G mom) (hm : mom ≤ 4611686018427387904) (o : Opn) (m : Int) : ∃ G', WL I ok (W.step I o m).2 G' (mom + 1) := by
  have hk := step_Kp (I := I) w.kp o m
  unfold Wld.step at hk ⊢
  by_cases k0 : o.kind = 0
  · rw [if_pos k0] at hk ⊢
    rcases begin_step w.mi w.si (x := ⟨W.m.begin.1.1, W.m.begin.1.2.1, m, 0, false, false, [], []⟩) with h
    by_cases hb : W.m.caps.active ≤ W.m.acts
    · have e : W.m.begin = ((0, 0, 4), W.m) := by unfold Sm.begin; rw [if_pos hb]
      rw [e]
      simp only
      rw [if_neg (by decide)]
      exact ⟨G, w.later⟩
    · have e : W.m.begin.1 = (W.m.last + 1, W.m.now, 0) := by unfold Sm.begin; rw [if_neg hb]
      have H := h (by rw [e]) rfl rfl rfl (by rw [e]) rfl
      rcases H with ⟨h1, _⟩ | ⟨h1, h2, h3, h4, h5⟩
      · rw [e] at h1; exact absurd rfl h1
      · rw [if_pos (by rw [e])] at hk ⊢
        refine ⟨_, h4, ?_, ?_, ?_, ?_, hk⟩
        · show SI _ _ W.vers W.m.begin.2.now
          rw [h2]; exact h5
        · show (W.bad || _) = false
          rw [w.good, h2, e]
          simp
        · show 0 ≤ W.m.begin.2.now
          rw [h2]; exact w.now0
        · show W.m.begin.2.now ≤ _
          rw [h2]; have := w.nowm; omega
  · rw [if_neg k0] at hk ⊢
    rcases ofR_cases W.list o.tx with ⟨hneg, _⟩ | ⟨i, x, e, hx, hxt, ho⟩
    · cases hl : W.list[(ofR W.list o.tx).toNat]? with
      | none => exact ⟨G, w.later⟩
      | some x => simp only [if_pos hneg]; exact ⟨G, w.later⟩
    · rw [e] at hk ⊢
      simp only [Int.toNat_natCast, hx] at hk ⊢
      rw [if_neg (by omega)] at hk ⊢
      by_cases kr : o.kind < 1 ∨ 5 < o.kind
      · rw [if_pos kr]; exact ⟨G, w.later⟩
      · rw [if_neg kr] at hk ⊢
        have htx : o.tx = (i : Int) + 1 := by rw [← hxt]; exact w.mi.num i x hx
        have hmod : ∀ S' : Sm ρ, ({ W with m := S' } : Wld ρ).list.modify i (fun x => overR x m) = W.list.set i (overR x m) := fun S' => modify_set hx _
        have ref : ∀ S' : Sm ρ, Refused I ok S' W.m W.list G W.vers i x → Kp S' → WL I ok ⟨S', W.rows, W.vers, W.list.set i (overR x m), W.bad⟩ G (mom + 1) := fun S' R hK => by
          have hc := (w.mi.open_ hx ho).1
          refine ⟨R.mi (overR x m) rfl rfl hc rfl, ?_, w.good, by show 0 ≤ S'.now; rw [R.now]; exact w.now0, by show S'.now ≤ _; rw [R.now]; have := w.nowm; omega, hK⟩
          show SI _ _ _ S'.now
          rw [R.now]
          exact w.si.gone hx hc hc rfl rfl rfl
        rcases opAt_L L w.mi w.si w.now0 (by have := w.nowm; omega) hx ho o htx with ⟨h1, S', R, h2⟩ | ⟨h1, hkk, G', S', x', h2, h3, h4, h5, h6, h7, h8, h9, h10, _⟩ | ⟨h1, hkk, g, hg, S', h2, h3, h4, h5, h6⟩ | ⟨h1, _, _, _, k4, S', R, h2⟩
        · rw [if_pos (.inl h1), h2, hmod] at hk ⊢
          exact ⟨G, ref S' R hk⟩
        · have hno : ¬ ((W.opAt I o i x).1 ≠ 0 ∨ o.kind = 4 ∨ o.kind = 5) := by
            rw [h1]
            omega
          rw [if_neg hno, h2] at hk ⊢
          exact ⟨G', h3, by show SI _ _ _ S'.now; rw [h6]; exact h4, w.good, by show 0 ≤ S'.now; rw [h6]; exact w.now0, by show S'.now ≤ _; rw [h6]; have := w.nowm; omega, hk⟩
        · rw [if_pos (.inr (.inl hkk)), h2] at hk ⊢
          have hx2 : (W.list.set i { x with committed := true })[i]? = some { x with committed := true } := set_at hx
          have e2 : (W.list.set i { x with committed := true }).modify i (fun x => overR x m) = W.list.set i (overR { x with committed := true } m) := by
            rw [modify_set hx2, List.set_set]
          show ∃ G', WL I ok ⟨S', W.rows, _, (W.list.set i { x with committed := true }).modify i (fun x => overR x m), W.bad⟩ G' (mom + 1)
          rw [e2]
          obtain ⟨m1, m2⟩ := h6 (overR { x with committed := true } m) rfl rfl rfl rfl rfl rfl
          refine ⟨_, m1, by show SI _ _ _ S'.now; rw [h4]; exact m2, w.good, ?_, ?_, hk⟩
          · show 0 ≤ S'.now
            rw [h4]; have := w.now0; split <;> omega
          · show S'.now ≤ mom + 1
            rw [h4]; have := w.nowm; split <;> omega
        · have h5 : o.kind = 5 := by
            simp only [not_or] at kr
            obtain ⟨_, k1', k2', k3', _⟩ : True ∧ o.kind ≠ 1 ∧ o.kind ≠ 2 ∧ o.kind ≠ 3 ∧ True := ⟨trivial, by assumption, by assumption, by assumption, trivial⟩
            omega
          rw [if_pos (.inr (.inr h5)), h2, hmod] at hk ⊢
          exact ⟨G, ref S' R hk⟩
theorem gone_actv (S : Sm ρ) (n m : Int) : (S.gone I n).actv m = if m = n then none else S.actv m := by
  unfold Sm.actv Sm.gone Sm.forget
  simp only
  rw [List.find?_filter, List.find?_filter]
  by_cases e : m = n
  · rw [if_pos e, List.find?_eq_none]
    intro t ht hp
    simp only [decide_eq_true_eq, Bool.and_eq_true, beq_iff_eq, bne_iff_ne] at hp
    omega
  · rw [if_neg e]
    congr 1
    funext t
    by_cases h1 : t.num = m
    · cases ha : t.act with
      | false => simp [ha]
      | true =>
        have : t.num ≠ n := by omega
        simp [h1, ha, keepB, e]
    · simp [h1]
end
end Go.Proofs.YthaoedfalkebbaaGreat
namespace Go.Proofs.YthaoedfalkebbaaGreat
set_option linter.unusedVariables false
set_option linter.unusedSectionVars false
set_option linter.unusedSimpArgs false
section
variable {ρ : Type} {I : RdI ρ} {ok : ρ → Prop} {most : Int}
theorem leaves_of (L : RdL I ok most) {W : Wld ρ} {G : List Gh} {mom : Int} (w : WL I ok W G mom) (hm : mom ≤ 4611686018427387904) {i : Nat} {x : Run} (hx : W.list[i]? = some x) (ho : x.over = false) (o : Opn) (ht : o.tx = (i : Int) + 1) (hk : o.kind = 1 ∨ o.kind = 2 ∨ o.kind = 3) :
    ((W.opAt I o i x).1 ≠ 0 → ∀ n, (W.opAt I o i x).2.m.actv n = if n = (i : Int) + 1 then none else W.m.actv n) ∧ ((W.opAt I o i x).1 = 0 → ∃ t, (W.opAt I o i x).2.m.actv ((i : Int) + 1) = some t) := by
  rcases opAt_L L w.mi w.si w.now0 (by have := w.nowm; omega) hx ho o ht with ⟨h1, S', R, h2⟩ | ⟨h1, hkk, G', S', x', h2, h3, h4, h5, h6, h7, h8, h9, h10, _⟩ | ⟨h1, hkk, _⟩ | ⟨h1, k1, k2, k3, _⟩
  · refine ⟨fun _ n => ?_, fun h => absurd h h1⟩
    rw [h2]
    obtain ⟨r, e⟩ := R.gone
    show S'.actv n = _
    rw [e, gone_actv]
    rfl
  · refine ⟨fun h => absurd h1 h, fun _ => ?_⟩
    rw [h2]
    obtain ⟨_, t, g, _, _, _, _, _, _, _, _, e⟩ := h3.open_ (set_at hx) h9
    exact ⟨t, e⟩
  · omega
  · omega
/-- at most one is under way; nothing else is there -/
def Al (S : Sm ρ) : Prop := S.txs = [] ∨ ∃ t, S.txs = [t] ∧ t.act = true ∧ t.fin = false ∧ t.fout = false ∧ t.snap = S.now ∧ 1 ≤ t.num
end
end Go.Proofs.YthaoedfalkebbaaGreat
namespace Go.Proofs.YthaoedfalkebbaaGreat
set_option linter.unusedVariables false
set_option linter.unusedSectionVars false
set_option linter.unusedSimpArgs false
section
variable {ρ : Type} {I : RdI ρ} {ok : ρ → Prop} {most : Int}
theorem put_nil (S : Sm ρ) (t : Tx) (out : Bool) (h1 : t.fin = false ∨ t.fout = false) (so : Tx → Bool) (hso : ∀ o ∈ S.txs, so o = false) : S.put I t so out = (0, S) := by
  unfold Sm.put
  have e : S.txs.any (fun o => concB t o && so o) = false := by
    rw [List.any_eq_false]
    intro o ho
    rw [hso o ho]
    simp
  have e2 : S.txs.any (fun o => (concB t o && so o) && (!o.act && bothB o.fin o.fout out (!out))) = false := by
    rw [List.any_eq_false]
    intro o ho
    rw [hso o ho]
    simp
  rw [e, e2]
  have e3 : bothB t.fin t.fout (!out && false) (out && false) = false := by unfold bothB; rcases h1 with h1 | h1 <;> rw [h1] <;> simp
  rw [e3]
  simp only [Bool.or_false, Bool.false_eq_true, if_false]
  have e4 : S.txs.map (fun o => if o.num == t.num then o else if concB t o && so o then setF o out else o) = S.txs := by
    conv => rhs; rw [← List.map_id S.txs]
    apply List.map_congr_left
    intro o ho
    rw [hso o ho]
    simp
  rw [e4]
end
end Go.Proofs.YthaoedfalkebbaaGreat
namespace Go.Proofs.YthaoedfalkebbaaGreat
open Go.RowKit Go.Maps Go.Sort Go.Lib
set_option linter.unusedVariables false
set_option linter.unusedSimpArgs false
set_option linter.unusedSectionVars false
instance rdOK (x : Rd) : Decidable x.OK := decidable_of_iff (x.t.size ≤ reachBytes ∧ (Lit.int .i64 x.k).wf = true ∧ x.f.size ≤ reachBytes ∧ x.u.size ≤ reachBytes) ⟨fun ⟨a, b, c, d⟩ => ⟨a, b, c, d⟩, fun h => ⟨h.t, h.k, h.f, h.u⟩⟩
/-- the machine's notes; a note that never comes is refused -/
def iT (most : Int) : RdI St := ⟨fun r t x => if x.OK then noteP r most t x else (4, r), fun r t => (dropP r t).2, readP, fun r t => !(ofP r t).isEmpty, fun r => r.n⟩
theorem noteS_iT (most : Int) (S : Sm St) (t : Tx) (x : Rd) (f u : ByteArray) (h : x.OK) : S.noteS (iS most) t x f u = S.noteS (iT most) t x f u := by
  have e : (iT most).note S.reads t.num x = (iS most).note S.reads t.num x := by
    show (if x.OK then noteP S.reads most t.num x else (4, S.reads)) = _
    rw [if_pos h]
    rfl
  unfold Sm.noteS
  rw [e]
  rfl
theorem cov_refl (a : Rd) : cov a a = true := by
  unfold cov
  rw [less_irrefl, less_irrefl]
  cases (spn a).2.2 <;> rfl
theorem cov_trans {a b c : Rd} (h : cov a b = true) (k : cov b c = true) : cov a c = true := by
  unfold cov at *
  simp only [Bool.and_eq_true, Bool.or_eq_true, Bool.not_eq_true'] at *
  obtain ⟨h1, h2⟩ := h
  obtain ⟨k1, k2⟩ := k
  refine ⟨le_trans' h1 k1, ?_⟩
  rcases h2 with h2 | ⟨h2, h3⟩
  · exact .inl h2
  · rw [h2] at k2
    rcases k2 with k2 | ⟨k2, k3⟩
    · cases k2
    · exact .inr ⟨k2, le_trans' k3 h3⟩
theorem cov_whole (t : ByteArray) (z : Rd) : cov (whole t) z = true := by
  have e : spn (whole t) = (⟨#[]⟩, ⟨#[]⟩, false) := by unfold spn whole; simp
  unfold cov
  rw [e]
  have : (⟨#[]⟩ : ByteArray).toList = [] := by rw [Lib.toList_data]
  simp only [this, less_nil]
  rfl
/-- some note at the place covers the note -/
def HasC (R : Pl → List Rd) (q : Pl) (z : Rd) : Prop := ∃ y ∈ R q, cov y z = true
theorem HasC.left {R : Pl → List Rd} {q : Pl} {z : Rd} (h : HasC R q z) (t : Int) (x : Rd) : HasC (put1 R (t, x.t) (left (R (t, x.t)) x)) q z := by
  obtain ⟨y, hy, hc⟩ := h
  unfold HasC
  by_cases e : q = (t, x.t)
  · rw [e] at hy ⊢
    rw [put1_same]
    cases hxy : cov x y with
    | true => exact ⟨x, by unfold YthaoedfalkebbaaGreat.left; simp, cov_trans hxy hc⟩
    | false => exact ⟨y, by unfold YthaoedfalkebbaaGreat.left; exact List.mem_append_left _ (List.mem_filter.2 ⟨hy, by simp [hxy]⟩), hc⟩
  · rw [put1_other _ _ e]
    exact ⟨y, hy, hc⟩
theorem HasC.whole {R : Pl → List Rd} {p : Pl} {z : Rd} (h : HasC R p z) (q : Pl) : HasC (put1 R q [YthaoedfalkebbaaGreat.whole q.2]) p z := by
  obtain ⟨y, hy, hc⟩ := h
  unfold HasC
  by_cases e : p = q
  · rw [e, put1_same]
    exact ⟨_, List.mem_singleton.2 rfl, cov_whole _ _⟩
  · rw [put1_other _ _ e]
    exact ⟨y, hy, hc⟩
/-- what Note leaves: nothing is lost -/
theorem noteP_keeps {S : St} (hI : InvK S) {most t : Int} {x : Rd} (hx : x.OK) {q : Pl} {z : Rd} (h : HasC S.R q z) : HasC (noteP S most t x).2.R q z := by
  unfold noteP
  split
  · exact h
  · rename_i h1
    simp only [not_or, Int.not_lt, Bool.not_eq_false] at h1
    split
    · exact h
    · rename_i h2
      split
      · exact h
      · rename_i R' n' he
        have hn := hI.note h1.1 hx h1.2 (by simpa using h2)
        exact (coarse_keeps (most := most) (fun R => HasC R q z) (fun R p hR _ => hR.whole p) _ _ _ R' n' (Nat.le_refl _) hn (h.left t x) he).2.1
theorem noteP_new {S : St} (hI : InvK S) {most t : Int} {x : Rd} (hx : x.OK) (h0 : (noteP S most t x).1 = 0) : HasC (noteP S most t x).2.R (t, x.t) x := by
  unfold noteP at h0 ⊢
  split
  · rename_i h1
    rw [if_pos h1] at h0
    cases h0
  · rename_i h1
    rw [if_neg h1] at h0
    simp only [not_or, Int.not_lt, Bool.not_eq_false] at h1
    split
    · rename_i h2
      obtain ⟨y, hy, hc⟩ := List.any_eq_true.1 h2
      exact ⟨y, hy, hc⟩
    · rename_i h2
      rw [if_neg h2] at h0
      split
      · rename_i he
        rw [he] at h0
        cases h0
      · rename_i R' n' he
        have hn := hI.note h1.1 hx h1.2 (by simpa using h2)
        refine (coarse_keeps (most := most) (fun R => HasC R (t, x.t) x) (fun R p hR _ => hR.whole p) _ _ _ R' n' (Nat.le_refl _) hn ?_ he).2.1
        exact ⟨x, by rw [put1_same]; unfold left; simp, cov_refl _⟩
theorem noteP_K {S : St} {most t : Int} {x : Rd} : ∀ q ∈ (noteP S most t x).2.K, q ∈ S.K ∨ q.1 = t := by
  intro q hq
  unfold noteP at hq
  split at hq
  · exact .inl hq
  · split at hq
    · exact .inl hq
    · split at hq
      · exact .inl hq
      · rcases mem_keysK.1 hq with rfl | h
        · exact .inr rfl
        · exact .inl h
theorem mem_readP {S : St} {tab key : ByteArray} {n : Int} : n ∈ readP S tab key ↔ ∃ q ∈ S.K, q.1 = n ∧ q.2.toList = tab.toList ∧ ∃ y ∈ S.R q, holdB y key = true := by
  unfold readP
  rw [(rise_spec _).2]
  constructor
  · intro h
    obtain ⟨q, hq, e⟩ := List.mem_map.1 h
    obtain ⟨h1, h2⟩ := List.mem_filter.1 hq
    rw [Bool.and_eq_true, List.any_eq_true] at h2
    exact ⟨q, h1, e, by simpa using h2.1, h2.2⟩
  · rintro ⟨q, h1, e, h2, h3⟩
    refine List.mem_map.2 ⟨q, List.mem_filter.2 ⟨h1, ?_⟩, e⟩
    rw [Bool.and_eq_true, List.any_eq_true]
    exact ⟨by simpa using h2, h3⟩
theorem has_iff {S : St} (h : InvK S) (n : Int) : (!(ofP S n).isEmpty) = true ↔ ∃ q ∈ S.K, q.1 = n := by
  unfold ofP
  rw [Bool.not_eq_true', ← Bool.not_eq_true, List.isEmpty_iff]
  constructor
  · intro h2
    by_cases e : ∃ q ∈ S.K, q.1 = n
    · exact e
    · exfalso
      apply h2
      have : S.K.filter (fun q => q.1 == n) = [] := by
        rw [List.filter_eq_nil_iff]
        intro q hq h3
        exact e ⟨q, hq, by simpa using h3⟩
      rw [this]
      rfl
  · rintro ⟨q, hq, e⟩ h2
    have hp := h.pos q hq
    apply hp
    have : ∀ z, z ∈ (S.K.filter (fun q => q.1 == n)).flatMap S.R → False := fun z hz => by rw [h2] at hz; cases hz
    cases hR : S.R q with
    | nil => rfl
    | cons z l => exact (this z (List.mem_flatMap.2 ⟨q, List.mem_filter.2 ⟨hq, by simpa using e⟩, by rw [hR]; exact List.mem_cons_self⟩)).elim
theorem dropP_inv {S : St} (h : InvK S) (t : Int) : InvK (dropP S t).2 := by
  unfold dropP
  split
  · exact h
  · exact dropS_inv h t
theorem dropP_le {S : St} (h : InvK S) (t : Int) : (dropP S t).2.n ≤ S.n := by
  unfold dropP
  split
  · exact Int.le_refl _
  · exact dropS_le h t
theorem iT_law (most : Int) : RdL (iT most) (fun r => InvK r ∧ r.n ≤ most) most where
  note_ok r t x h := by
    show InvK (if x.OK then noteP r most t x else (4, r)).2 ∧ (if x.OK then noteP r most t x else (4, r)).2.n ≤ most
    split
    · rename_i hx; exact noteP_inv h.1 hx h.2
    · exact h
  note_bad r t x h h0 := by
    change (if x.OK then noteP r most t x else (4, r)).1 ≠ 0 at h0
    show (if x.OK then noteP r most t x else (4, r)).2 = r
    split
    · rename_i hx
      rw [if_pos hx] at h0
      unfold noteP at h0 ⊢
      split
      · rfl
      · rename_i h1
        rw [if_neg h1] at h0
        split
        · rfl
        · rename_i h2
          rw [if_neg h2] at h0
          split
          · rfl
          · rename_i R' n' he
            rw [he] at h0
            exact absurd rfl h0
    · rfl
  note_err r t x h ht hm := by
    show (if x.OK then noteP r most t x else (4, r)).1 = 0 ∨ (if x.OK then noteP r most t x else (4, r)).1 = 4
    split
    · unfold noteP
      rw [if_neg (by rw [hm]; simp; omega)]
      split
      · exact .inl rfl
      · split
        · exact .inr rfl
        · exact .inl rfl
    · exact .inr rfl
  note_keep r t x tb key n h hn := by
    change n ∈ readP r tb key at hn
    show n ∈ readP (if x.OK then noteP r most t x else (4, r)).2 tb key
    split
    · rename_i hx
      rw [mem_readP] at hn ⊢
      obtain ⟨q, hq, e, h2, y, hy, h3⟩ := hn
      obtain ⟨z, hz, hc⟩ := noteP_keeps h.1 hx (most := most) (t := t) (x := x) ⟨y, hy, cov_refl y⟩
      have hI := noteP_inv h.1 hx h.2 (t := t)
      refine ⟨q, ?_, e, h2, z, hz, cov_holds hc h3⟩
      by_cases h4 : q ∈ (noteP r most t x).2.K
      · exact h4
      · rw [hI.1.off q h4] at hz; cases hz
    · exact hn
  note_new r t x key h h0 hh := by
    change (if x.OK then noteP r most t x else (4, r)).1 = 0 at h0
    show t ∈ readP (if x.OK then noteP r most t x else (4, r)).2 x.t key
    split
    · rename_i hx
      rw [if_pos hx] at h0
      obtain ⟨z, hz, hc⟩ := noteP_new h.1 hx h0
      have hI := noteP_inv h.1 hx h.2 (t := t)
      rw [mem_readP]
      refine ⟨(t, x.t), ?_, rfl, rfl, z, hz, cov_holds hc hh⟩
      by_cases h4 : (t, x.t) ∈ (noteP r most t x).2.K
      · exact h4
      · rw [hI.1.off _ h4] at hz; cases hz
    · rename_i hx
      rw [if_neg hx] at h0
      cases h0
  note_has r t x n h h0 := by
    change (!(ofP (if x.OK then noteP r most t x else (4, r)).2 n).isEmpty) = true at h0
    show (!(ofP r n).isEmpty) = true ∨ n = t
    split at h0
    · rename_i hx
      rw [has_iff (noteP_inv h.1 hx h.2 (t := t)).1] at h0
      obtain ⟨q, hq, e⟩ := h0
      rcases noteP_K q hq with h2 | h2
      · exact .inl ((has_iff h.1 n).2 ⟨q, h2, e⟩)
      · exact .inr (e.symm.trans h2)
    · exact .inl h0
  drop_ok r t h := ⟨dropP_inv h.1 t, Int.le_trans (dropP_le h.1 t) h.2⟩
  drop_rdrs r t tb key n h ht hne hn := by
    change n ∈ readP r tb key at hn
    show n ∈ readP (dropP r t).2 tb key
    rw [dropP_pos r ht]
    rw [mem_readP] at hn ⊢
    obtain ⟨q, hq, e, h2, y, hy, h3⟩ := hn
    refine ⟨q, List.mem_filter.2 ⟨hq, by simp; omega⟩, e, h2, y, ?_, h3⟩
    show y ∈ dropR r.R t q
    rw [dropR_other _ (by omega)]
    exact hy
  drop_has r t n h ht h0 := by
    change (!(ofP (dropP r t).2 n).isEmpty) = true at h0
    show (!(ofP r n).isEmpty) = true ∧ n ≠ t
    rw [has_iff (dropP_inv h.1 t)] at h0
    obtain ⟨q, hq, e⟩ := h0
    rw [dropP_pos r ht] at hq
    obtain ⟨h1, h2⟩ := List.mem_filter.1 hq
    have h2 : q.1 ≠ t := by simpa using h2
    exact ⟨(has_iff h.1 n).2 ⟨q, h1, e⟩, by omega⟩
  rdrs_has r tb key n h hn := by
    change n ∈ readP r tb key at hn
    show (!(ofP r n).isEmpty) = true
    obtain ⟨q, hq, e, _⟩ := mem_readP.1 hn
    exact (has_iff h.1 n).2 ⟨q, hq, e⟩
  len_le r h := h.2
  len_none r h h0 := by
    show r.n = 0
    have e : r.K = [] := by
      cases hK : r.K with
      | nil => rfl
      | cons q K =>
        have h2 : (!(ofP r q.1).isEmpty) = true := (has_iff h.1 q.1).2 ⟨q, by rw [hK]; exact List.mem_cons_self, rfl⟩
        have h3 : (!(ofP r q.1).isEmpty) = false := h0 q.1
        rw [h2] at h3
        cases h3
    rw [h.1.sum, e]
    rfl
end Go.Proofs.YthaoedfalkebbaaGreat
namespace Go.Proofs.YthaoedfalkebbaaGreat
open Go.RowKit Go.Maps Go.Sort Go.Lib Go.Shelf Go.Proofs.YthaoedfalkebbaaGreatW.PrintWords Go.Proofs.YthaoedfalkebbaaGreatW.PrintLast Go.Proofs.YthaoedfalkebbaaGreatW.PrintMore
set_option linter.unusedVariables false
set_option linter.unusedSimpArgs false
set_option linter.unusedSectionVars false
theorem fld60 (x y z k : Int) (w : World) : (Instr.field 60 (.agg #[.int .i64 x, .int .i64 y, .int .i64 z, .int .i64 k]) 3).run Tryz.prog w = .ok (.int .i64 k) w := by kernel_rfl
theorem Pm.ownLow {w : World} {base : Nat} {l : Loc} {S : Sm St} (h : Pm w base l S) : ∀ k, l.own S.txs k → base ≤ k := by
  intro k hk
  obtain ⟨h1, h2, h3, h4, h5, h6⟩ := h.low
  rcases hk with rfl | rfl | rfl | rfl | rfl | ⟨t, ht, rfl⟩
  · exact h1
  · exact h2
  · exact h4
  · exact h.reads.low
  · exact h5
  · exact h6 t ht
/-- ahead of the manager nothing changes -/
theorem StQ.below {base : Nat} {l : Loc} {S S' : Sm St} {w w' : World} (h : StQ base l S S' w w') (P : Pm w base l S) (hb : base ≤ w.heap.size) : Below base w w' := by
  obtain ⟨l', _, _, _, F, _⟩ := h
  exact F.below hb P.ownLow
def bgC : Cp := ⟨2, 2, 2, 2⟩
def bg1 : Sm St := begS (S0 bgC 5)
theorem bg_begin : (S0 bgC 5).begin = ((1, 5, 0), bg1) := rfl
theorem bg_write (a : Lk) : bg1.write (iS 2) 1 a 0 = (0, { bg1 with locks := [(a, 1)] }) := by
  unfold Sm.write
  have e : bg1.actv 1 = some (newT (S0 bgC 5)) := rfl
  rw [e]
  dsimp only
  rw [if_neg (by decide), if_neg (by simp [bg1, begS, S0, holder])]
  have e2 : tk bg1.caps.locks bg1.locks 1 (newT (S0 bgC 5)).snap 0 a = (0, [(a, 1)]) := rfl
  rw [e2]
  dsimp only
  rw [if_neg (by simp)]
  have e3 : bg1.txs.any (fun o => concB (newT (S0 bgC 5)) o && (!o.act && decide (a ∈ o.wrote))) = false := rfl
  rw [if_neg (by rw [e3]; decide)]
  refine put_nil (I := iS 2) { bg1 with locks := [(a, 1)] } (newT (S0 bgC 5)) false (.inl rfl) _ (fun o ho => ?_)
  refine decide_eq_false (fun hm => ?_)
  obtain ⟨q, hq, _⟩ := mem_readP.1 (show o.num ∈ readP St0 a.1 a.2 from hm)
  cases hq
theorem bg_cap0 : Cap (S0 bgC 5) 0 5 := Cap.start bgC 5 (by decide) (by decide)
theorem bg_cap1 : Cap bg1 1 5 := bg_cap0.begin
set_option maxHeartbeats 16000000 in
set_option maxRecDepth 100000 in
theorem begun_calls (w : World) : Calls Tryz.prog 11 #[] w fun e w' => e = .returned (.bool true) ∧ Below w.heap.size w w' := by
  have NW := New_s bgC 5 w.heap.size (fun _ => False) w (Nat.le_refl _) (by decide) (by decide)
  have BG : ∀ l W, Pm W w.heap.size l (S0 bgC 5) → Calls Tryz.prog 13 #[ptr l.p] W fun e w' => e = .returned (.tuple #[.int .i64 1, .int .i64 5, .int .i64 0]) ∧ ∃ l' : Loc, l'.p = l.p ∧ Pm w' w.heap.size l' bg1 ∧ (w.heap.size ≤ W.heap.size → Below w.heap.size W w') := fun l W P => by
    have := Begin_s w.heap.size l (S0 bgC 5) W 0 5 P bg_cap0 (by decide)
    rw [bg_begin] at this
    refine this.mono ?_
    rintro e w' ⟨rfl, hS⟩
    have hS2 := hS
    obtain ⟨l', h1, h2, h3, h4⟩ := hS
    exact ⟨rfl, l', h1, h3, fun hb => hS2.below P hb⟩
  have WR : ∀ l W (s u : ByteArray), Pm W w.heap.size l bg1 → s.size ≤ reachBytes → u.size ≤ reachBytes → Calls Tryz.prog 15 #[ptr l.p, .int .i64 1, .agg #[.string s, .string u], .int .i64 0] W fun e w' => e = .returned (.int .i64 0) ∧ ∃ l' : Loc, l'.p = l.p ∧ Pm w' w.heap.size l' { bg1 with locks := [((s, u), 1)] } ∧ (w.heap.size ≤ W.heap.size → Below w.heap.size W w') := fun l W s u P h1 h2 => by
    have := Write_s w.heap.size l bg1 1 (s, u) 0 W 1 5 P bg_cap1 (by show (Lit.int .i64 1).wf = true; decide) ⟨h1, h2⟩
    refine this.mono ?_
    intro e w' hQ
    obtain ⟨h3, hS⟩ := hQ.st (write_nums _ _ _ _)
    have e1 := bg_write (s, u)
    rw [show bg1.caps.reads = 2 from rfl, e1] at h3 hS
    have hS2 := hS
    obtain ⟨l', g1, g2, g3, g4⟩ := hS
    exact ⟨h3, l', g1, g3, fun hb => hS2.below P hb⟩
  have TR : ∀ l W (s u : ByteArray), Pm W w.heap.size l { bg1 with locks := [((s, u), 1)] } → Calls Tryz.prog 24 #[ptr l.p] W fun e w' => ∃ x y z, e = .returned (.agg #[.int .i64 x, .int .i64 y, .int .i64 z, .int .i64 1]) ∧ Below W.heap.size W w' := fun l W s u P => by
    have := Tracked_s w.heap.size l _ W 1 5 P (bg_cap1.lks (by show ((1 : Nat) : Int) ≤ 2; decide))
    refine this.mono ?_
    rintro e w' ⟨rfl, h2⟩
    exact ⟨_, _, _, rfl, h2⟩
  replace BG := Aside0.mk BG
  replace WR := Aside0.mk WR
  replace TR := Aside0.mk TR
  unfold bgC Cp.cells at NW
  dsimp only at NW
  go_enter Tryz.func11, Tryz.ntmps11
  go_wp2_with fail
  refine NW.mono ?_
  rintro e w1 ⟨l, rfl, P1, B1, -, -⟩
  have BG1 := BG.out l w1 P1
  obtain ⟨p, hp⟩ : ∃ p, p = l.p := ⟨_, rfl⟩
  rw [← hp] at BG1 ⊢
  clear NW P1 hp
  go_wp2_with fail
  refine BG1.mono ?_
  rintro e w2 ⟨rfl, l2, e2, P2, B2⟩
  have B2' := B1.trans (B2 B1.size)
  have WR2 := fun s u => WR.out l2 w2 s u P2
  rw [e2] at WR2
  clear BG1 B2 P2
  replace e2 := Aside0.mk e2
  go_wp2_with fail
  refine (WR2 _ _ (by decide) (by decide)).mono ?_
  rintro e w3 ⟨rfl, l3, e3, P3, B3⟩
  have B3' := B2'.trans (B3 B2'.size)
  have TR2 := TR.out l3 w3 _ _ P3
  rw [e3] at TR2
  clear WR2 B3 P3 e3 e2
  go_wp2_with fail
  refine TR2.mono ?_
  rintro e w4 ⟨x, y, z, rfl, B4⟩
  clear TR2
  have B4' := below_then B3' B3'.size B4
  have hf := fld60 x y z 1 w4
  go_wp2
  go_ret
  exact ⟨rfl, B4'⟩
end Go.Proofs.YthaoedfalkebbaaGreat
namespace Go.Proofs.YthaoedfalkebbaaGreat
open Go.RowKit Go.Maps Go.Sort Go.Lib Go.Shelf Go.Proofs.YthaoedfalkebbaaGreatW.PrintWords Go.Proofs.YthaoedfalkebbaaGreatW.PrintLast Go.Proofs.YthaoedfalkebbaaGreatW.PrintMore
set_option linter.unusedVariables false
set_option linter.unusedSimpArgs false
set_option linter.unusedSectionVars false
structure Opn.OK (x : Opn) : Prop where
  kind : (Lit.int .i64 x.kind).wf = true
  tx : okN x.tx
  at_ : LkOK x.at_
  to_ : x.to_.size ≤ reachBytes
  last : (Lit.int .i64 x.last).wf = true
end Go.Proofs.YthaoedfalkebbaaGreat
