/- Cut by a program out of the seat's texts (YW YX XZ YY YZ XN XO XP XQ XR XS): what the theorem needs, one behind the other. -/
import Derived.Test.YthaoedfalkebbaaGreatPCJ
import Derived.Test.YthaoedfalkebbaaGreatPCE
import Derived.OwnWalk
import Derived.Laws.Rows
namespace Go.Proofs.YthaoedfalkebbaaGreat
open Go.RowKit Go.Maps Go.Sort Go.Lib Go.Shelf Go.Proofs.YthaoedfalkebbaaGreatW.PrintWords Go.Proofs.YthaoedfalkebbaaGreatW.PrintLast Go.Proofs.YthaoedfalkebbaaGreatW.PrintMore
set_option linter.unusedVariables false
set_option linter.unusedSimpArgs false
set_option linter.unusedSectionVars false
set_option maxRecDepth 100000 in
theorem New36 (most : Int) (w : World) (h1 : 1 ≤ most) (h2 : most ≤ 4096) : Calls Tryz.prog 36 #[.int .i64 most] w fun e w' => e = .returned (.tuple #[ptr (w.heap.size + 1), .int .i64 0]) ∧ Lck.Mg w' (w.heap.size + 1) w.heap.size most [] ∧ Below w.heap.size w w' ∧ w'.heap.size = w.heap.size + 2 ∧ ∃ c s, w'.heap[w.heap.size + 1]? = some (.cells c 147 s) := by
  have hmm := @run_makeMap Tryz.prog
  go_enter Tryz.func36, Tryz.ntmps36
  go_wp2
  go_ret2
  refine ⟨rfl, ⟨?_, ?_, (Lck.Tab.made w).kept (World.grownBy_alloc _ _ none) (by simp)⟩, ((Below.refl _ w).alloc (Nat.le_refl _) _).alloc (by simp) _, by simp [go_sem], ?_⟩
  · simp [go_sem]
  · simp [go_sem]
  · have := heap_alloc_new (w.alloc (.map #[] 0)) (.cells #[.int .i64 most, .map (some w.heap.size)] 147)
    exact ⟨_, _, by simpa using this⟩
def mayC (c : Cp) : Bool := decide (1 ≤ c.active) && decide (c.active ≤ 64) && decide (0 ≤ c.kept) && decide (c.kept ≤ 1024) && decide (1 ≤ c.reads) && decide (c.reads ≤ 65536) && decide (1 ≤ c.locks) && decide (c.locks ≤ 4096)
def S0 (c : Cp) (now : Int) : Sm St := ⟨c, now, 0, 0, [], [], St0⟩
theorem Cap.start (c : Cp) (now : Int) (hc : mayC c = true) (h0 : 0 ≤ now) : Cap (S0 c now) 0 now := by
  unfold mayC at hc
  simp only [Bool.and_eq_true, decide_eq_true_eq] at hc
  obtain ⟨⟨⟨⟨⟨⟨⟨h1, h2⟩, h3⟩, h4⟩, h5⟩, h6⟩, h7⟩, h8⟩ := hc
  constructor
  · exact ⟨h1, h2, h3, h4, h5, h6, h7, h8⟩
  · show ((0 : Nat) : Int) ≤ c.active
    omega
  · show ((0 : Nat) : Int) ≤ c.kept
    omega
  · show ((0 : Nat) : Int) ≤ c.locks
    omega
  · show (0 : Int) ≤ 0 ∧ (0 : Int) ≤ 0
    omega
  · show (0 : Int) ≤ 0 ∧ (0 : Int) ≤ 0
    omega
  · show 0 ≤ now ∧ now ≤ now + 0
    omega
  · intro t ht; cases ht
  · exact List.Pairwise.nil
def Cp.cells (c : Cp) : Array Value := #[.int .i64 c.active, .int .i64 c.kept, .int .i64 c.reads, .int .i64 c.locks]
set_option maxHeartbeats 16000000 in
set_option maxRecDepth 100000 in
theorem New_no (c : Cp) (now : Int) (w : World) (h : (mayC c && decide (0 ≤ now)) = false) :
    Calls Tryz.prog 12 #[.agg c.cells, .int .i64 now] w fun e w' => e = .returned (.tuple #[.pointer none, .int .i64 1]) ∧ Below w.heap.size w w' := by
  obtain ⟨ac, kp, rd, lk⟩ := c
  unfold Cp.cells
  dsimp only
  obtain ⟨w1, hw1⟩ : ∃ w1, w1 = w.alloc (.cells #[.int .i64 ac, .int .i64 kp, .int .i64 rd, .int .i64 lk] 31) := ⟨_, rfl⟩
  have B1 : Below w.heap.size w w1 := by rw [hw1]; exact (Below.refl _ w).alloc (Nat.le_refl _) _
  have b0 : w1.cell? ⟨w.heap.size, 0, none⟩ = some (.int .i64 ac) := by rw [hw1]; simp [go_sem]
  have b1 : w1.cell? ⟨w.heap.size, 1, none⟩ = some (.int .i64 kp) := by rw [hw1]; simp [go_sem]
  have b2 : w1.cell? ⟨w.heap.size, 2, none⟩ = some (.int .i64 rd) := by rw [hw1]; simp [go_sem]
  have b3 : w1.cell? ⟨w.heap.size, 3, none⟩ = some (.int .i64 lk) := by rw [hw1]; simp [go_sem]
  by_cases h0 : ac < 1 ∨ 64 < ac ∨ kp < 0 ∨ 1024 < kp ∨ now < 0
  · clear h
    go_enter Tryz.func12, Tryz.ntmps12
    go_upto_region 1 with (fail)
    rw [← hw1]
    clear hw1
    go_wp2
    all_goals first | omega | skip
    all_goals (go_ret2; exact ⟨rfl, B1⟩)
  · simp only [not_or, Int.not_lt] at h0
    obtain ⟨g1, g2, g3, g4, g5⟩ := h0
    by_cases hl : lk < 1 ∨ 4096 < lk
    · have N := Lck.New_bad lk w1 hl
      clear h hl
      go_enter Tryz.func12, Tryz.ntmps12
      go_upto_region 1 with (fail)
      rw [← hw1]
      clear hw1
      go_wp2_with (go_at_call 36; refine N.mono ?_; rintro e w' ⟨rfl, rfl⟩)
      all_goals first | omega | skip
      all_goals (go_ret2; exact ⟨rfl, B1⟩)
    · simp only [not_or, Int.not_lt] at hl
      have N := New36 lk w1 hl.1 hl.2
      have hr : rd < 1 ∨ 65536 < rd := by
        unfold mayC at h
        have k1 : decide (1 ≤ ac) = true := decide_eq_true g1
        have k2 : decide (ac ≤ 64) = true := decide_eq_true g2
        have k3 : decide (0 ≤ kp) = true := decide_eq_true g3
        have k4 : decide (kp ≤ 1024) = true := decide_eq_true g4
        have k5 : decide (0 ≤ now) = true := decide_eq_true g5
        have k6 : decide (1 ≤ lk) = true := decide_eq_true hl.1
        have k7 : decide (lk ≤ 4096) = true := decide_eq_true hl.2
        simp only [k1, k2, k3, k4, k5, k6, k7, Bool.true_and, Bool.and_true, Bool.and_eq_false_iff, decide_eq_false_iff_not] at h
        omega
      have N2 := fun w2 => New_bad rd w2 hr
      clear h hr hl
      go_enter Tryz.func12, Tryz.ntmps12
      go_upto_region 1 with (fail)
      rw [← hw1]
      clear hw1
      go_upto_region 6 with (go_at_call 36; refine N.mono ?_; rintro e w2 ⟨rfl, -, B2, -, -⟩)
      have e2 : w2.cell? ⟨w.heap.size, 2, none⟩ = some (.int .i64 rd) := below_cell B2 b2
      have N2 := N2 w2
      clear N b0 b1 b2 b3
      go_wp2_with (go_at_call 37; refine N2.mono ?_; rintro e w3 ⟨rfl, rfl⟩)
      all_goals (go_ret2; exact ⟨rfl, below_then B1 B1.size B2⟩)
end Go.Proofs.YthaoedfalkebbaaGreat
namespace Go.Proofs.YthaoedfalkebbaaGreat
open Go.RowKit Go.Maps Go.Sort Go.Lib Go.Shelf Go.Proofs.YthaoedfalkebbaaGreatW.PrintWords Go.Proofs.YthaoedfalkebbaaGreatW.PrintLast Go.Proofs.YthaoedfalkebbaaGreatW.PrintMore
set_option linter.unusedVariables false
set_option linter.unusedSimpArgs false
set_option linter.unusedSectionVars false
theorem Pm.made {w2 w3 W : World} {base lp lb rp rb : Nat} {c : Cp} {now : Int} (F : Nat → Prop) (hL : Lck.Mg w2 lp lb c.locks []) (hk : ∃ cs s, w2.heap[lp]? = some (.cells cs 147 s)) (B3 : Below w2.heap.size w2 w3) (hR : MrS w3 base rp rb c.reads St0) (h2 : w2.heap.size ≤ rp) (h2b : w2.heap.size ≤ rb) (hbase : base ≤ lp ∧ base ≤ lb ∧ base ≤ w3.heap.size)
    (hW : W = (w3.alloc (.map #[] 0)).alloc (hdCells (S0 c now) w3.heap.size lp rp)) : Pm W base ⟨w3.heap.size + 1, w3.heap.size, lp, lb, rp, rb, fun _ => 0, F⟩ (S0 c now) := by
  have lb2 : lb < w2.heap.size := by
    obtain ⟨D, ⟨es, clock, hlm, _⟩, _⟩ := hL.tab
    exact (Array.getElem?_eq_some_iff.1 hlm).1
  have lp2 : lp < w2.heap.size := by
    obtain ⟨cs, s, hc⟩ := hk
    exact (Array.getElem?_eq_some_iff.1 hc).1
  have rb3 : rb < w3.heap.size := by
    obtain ⟨⟨L, M, _, _⟩, _⟩ := hR
    obtain ⟨e3', c3', hrm⟩ := M.tab.isMap
    exact (Array.getElem?_eq_some_iff.1 hrm).1
  have hs3 := B3.size
  have G3 : w3.grownBy (w3.alloc (.map #[] 0)) none := World.grownBy_alloc _ _ _
  have G4 : (w3.alloc (.map #[] 0)).grownBy W none := by rw [hW]; exact World.grownBy_alloc _ _ _
  have BW : Below w3.heap.size w3 W := by rw [hW]; exact below_alloc ((Below.refl _ w3).alloc (Nat.le_refl _) _) _
  have B2W : Below w2.heap.size w2 W := below_then B3 B3.size BW
  constructor
  · rw [hW]
    have := heap_alloc_new (w3.alloc (.map #[] 0)) (hdCells (S0 c now) w3.heap.size lp rp)
    simpa using this
  · exact (Tab.made w3).kept G4 (by simp)
  · intro t ht; cases ht
  · intro t ht; cases ht
  · exact hL.fr (Fr.ofBelow (O := fun _ => False) B2W) (fun h => h) (fun h => h)
  · obtain ⟨cs, s, hc⟩ := hk
    exact ⟨cs, s, (B2W.block lp lp2).trans hc⟩
  · exact (hR.kept G3).kept G4
  · exact List.Pairwise.nil
  · intro t ht; cases ht
  · exact Nat.zero_le _
  · show w3.heap.size ≠ lb
    omega
  · show w3.heap.size ≠ rb
    omega
  · show lb ≠ rb
    omega
  · refine ⟨by show base ≤ w3.heap.size + 1; omega, hbase.2.2, hbase.1, hbase.2.1, ?_, fun t ht => by cases ht⟩
    obtain ⟨⟨L, M, _, hbb⟩, _⟩ := hR
    exact hbb
set_option maxHeartbeats 16000000 in
set_option maxRecDepth 100000 in
theorem New_s (c : Cp) (now : Int) (base : Nat) (F : Nat → Prop) (w : World) (hb : base ≤ w.heap.size) (h : mayC c = true) (h0 : 0 ≤ now) :
    Calls Tryz.prog 12 #[.agg c.cells, .int .i64 now] w fun e w' => ∃ l : Loc, e = .returned (.tuple #[ptr l.p, .int .i64 0]) ∧ Pm w' base l (S0 c now) ∧ Below w.heap.size w w' ∧ w.heap.size ≤ l.p ∧ l.F = F := by
  obtain ⟨ac, kp, rd, lk⟩ := c
  unfold mayC at h
  simp only [Bool.and_eq_true, decide_eq_true_eq] at h
  obtain ⟨⟨⟨⟨⟨⟨⟨g1, g2⟩, g3⟩, g4⟩, g5⟩, g6⟩, g7⟩, g8⟩ := h
  unfold Cp.cells
  dsimp only
  obtain ⟨w1, hw1⟩ : ∃ w1, w1 = w.alloc (.cells #[.int .i64 ac, .int .i64 kp, .int .i64 rd, .int .i64 lk] 31) := ⟨_, rfl⟩
  have B1 : Below w.heap.size w w1 := by rw [hw1]; exact (Below.refl _ w).alloc (Nat.le_refl _) _
  have b0 : w1.cell? ⟨w.heap.size, 0, none⟩ = some (.int .i64 ac) := by rw [hw1]; simp [go_sem]
  have b1 : w1.cell? ⟨w.heap.size, 1, none⟩ = some (.int .i64 kp) := by rw [hw1]; simp [go_sem]
  have b2 : w1.cell? ⟨w.heap.size, 2, none⟩ = some (.int .i64 rd) := by rw [hw1]; simp [go_sem]
  have b3 : w1.cell? ⟨w.heap.size, 3, none⟩ = some (.int .i64 lk) := by rw [hw1]; simp [go_sem]
  have hs1 := B1.size
  have N := New36 lk w1 g7 g8
  have N2 := fun w2 (B2 : Below w1.heap.size w1 w2) => New_calls rd w2.heap.size w2 (Nat.le_refl _) g5 g6
  have CEL : ∀ W, Below w1.heap.size w1 W → W.cell? ⟨w.heap.size, 0, none⟩ = some (.int .i64 ac) ∧ W.cell? ⟨w.heap.size, 1, none⟩ = some (.int .i64 kp) ∧ W.cell? ⟨w.heap.size, 2, none⟩ = some (.int .i64 rd) ∧ W.cell? ⟨w.heap.size, 3, none⟩ = some (.int .i64 lk) := fun W B => ⟨below_cell B b0, below_cell B b1, below_cell B b2, below_cell B b3⟩
  have FIN : ∀ w2 w3, Lck.Mg w2 (w1.heap.size + 1) w1.heap.size lk [] → (∃ cs s, w2.heap[w1.heap.size + 1]? = some (.cells cs 147 s)) → Below w1.heap.size w1 w2 → w2.heap.size = w1.heap.size + 2 → Below w2.heap.size w2 w3 → Mr w3 w2.heap.size (w2.heap.size + 1) w2.heap.size rd 0 [] (fun _ => []) →
      ∃ l : Loc, (Ending.returned (.tuple #[ptr (w3.heap.size + 1), .int .i64 0])) = Ending.returned (.tuple #[ptr l.p, .int .i64 0]) ∧ Pm ((w3.alloc (.map #[] 0)).alloc (hdCells (S0 ⟨ac, kp, rd, lk⟩ now) w3.heap.size (w1.heap.size + 1) (w2.heap.size + 1))) base l (S0 ⟨ac, kp, rd, lk⟩ now) ∧ Below w.heap.size w ((w3.alloc (.map #[] 0)).alloc (hdCells (S0 ⟨ac, kp, rd, lk⟩ now) w3.heap.size (w1.heap.size + 1) (w2.heap.size + 1))) ∧ w.heap.size ≤ l.p ∧ l.F = F := fun w2 w3 hL hk B2 hs2 B3 hM => by
    have hs3 := B3.size
    have BA := below_then B1 B1.size (below_then B2 B2.size B3)
    have hM2 : Mr w3 base (w2.heap.size + 1) w2.heap.size rd 0 [] (fun _ => []) := ⟨hM.cells, hM.tab, by omega, by simp, hM.off, by simp⟩
    refine ⟨_, rfl, Pm.made F hL hk B3 (rb := w2.heap.size) ⟨⟨[], hM2, rfl, by omega⟩, InvK.empty, by show (0 : Int) ≤ rd; omega, g6, g5⟩ (by omega) (Nat.le_refl _) ⟨by omega, by omega, by omega⟩ rfl, below_alloc (below_alloc BA _) _, ?_, rfl⟩
    show w.heap.size ≤ w3.heap.size + 1
    omega
  unfold hdCells S0 at FIN
  dsimp only at FIN
  unfold S0
  clear b0 b1 b2 b3
  obtain ⟨b0, b1, b2, b3⟩ := CEL w1 (Below.refl _ _)
  have hmm := @run_makeMap Tryz.prog
  replace CEL := Aside0.mk CEL
  replace FIN := Aside0.mk FIN
  replace N2 := Aside0.mk N2
  clear B1 hb
  go_enter Tryz.func12, Tryz.ntmps12
  go_upto_region 1 with (fail)
  rw [← hw1]
  clear hw1
  go_upto_region 6 with (go_at_call 36; refine N.mono ?_; rintro e w2 ⟨rfl, hL, B2, hs2, hk⟩)
  clear N b0 b1 b2 b3
  obtain ⟨b0, b1, b2, b3⟩ := CEL.out w2 B2
  have N3 := N2.out w2 B2
  have K2 := Aside0.mk (And.intro hL (And.intro hk (And.intro B2 hs2)))
  clear hL hk hs2
  go_upto_region 9 with (go_at_call 37; refine N3.mono ?_; rintro e w3 ⟨rfl, hM, B3⟩)
  clear N3 b0 b1 b2 b3
  obtain ⟨b0, b1, b2, b3⟩ := CEL.out w3 (below_then B2 B2.size B3)
  obtain ⟨kL, kk, kB, ks⟩ := K2.out
  have K4 := Aside0.mk (FIN.out w2 w3 kL kk kB ks B3 hM)
  clear kL kk kB ks hM B3 B2
  go_wp2
  go_ret2
  exact K4.out
end Go.Proofs.YthaoedfalkebbaaGreat
namespace Go.Proofs.YthaoedfalkebbaaGreat
set_option linter.unusedVariables false
set_option linter.unusedSectionVars false
set_option linter.unusedSimpArgs false
section
variable {ρ : Type} {I : RdI ρ}
def NumSub (S' S : Sm ρ) : Prop := ∀ t ∈ S'.txs, ∃ u ∈ S.txs, u.num = t.num
theorem NumSub.refl (S : Sm ρ) : NumSub S S := fun t ht => ⟨t, ht, rfl⟩
theorem NumSub.trans {A B C : Sm ρ} (h : NumSub A B) (k : NumSub B C) : NumSub A C := fun t ht => by
  obtain ⟨u, hu, e⟩ := h t ht
  obtain ⟨v, hv, e2⟩ := k u hu
  exact ⟨v, hv, e2.trans e⟩
theorem forget_nums (S : Sm ρ) : NumSub (S.forget I) S := fun t ht => ⟨t, (List.mem_filter.1 ht).1, rfl⟩
theorem gone_nums (S : Sm ρ) (n : Int) : NumSub (S.gone I n) S := fun t ht => ⟨t, (List.mem_filter.1 (List.mem_filter.1 ht).1).1, rfl⟩
theorem put_nums (S : Sm ρ) (t : Tx) (so : Tx → Bool) (out : Bool) : NumSub (S.put I t so out).2 S := by
  unfold Sm.put
  split
  · exact gone_nums S _
  · intro x hx
    obtain ⟨o, ho, e⟩ := List.mem_map.1 hx
    refine ⟨o, ho, ?_⟩
    rw [← e]
    split
    · split <;> rfl
    · split <;> rfl
theorem noteS_nums (S : Sm ρ) (t : Tx) (x : Rd) (f u : ByteArray) : NumSub (S.noteS I t x f u).2 S := by
  unfold Sm.noteS
  split
  · exact gone_nums (I := I) { S with reads := (I.note S.reads t.num x).2 } t.num
  · exact put_nums (I := I) { S with reads := (I.note S.reads t.num x).2 } t _ true
theorem read_nums (S : Sm ρ) (tx : Int) (a : Lk) : NumSub (S.read I tx a).2 S := by
  unfold Sm.read
  split
  · exact NumSub.refl S
  · split
    · exact NumSub.refl S
    · exact noteS_nums S _ _ _ _
theorem scan_nums (S : Sm ρ) (tx : Int) (tb f u : ByteArray) : NumSub (S.scan I tx tb f u).2 S := by
  unfold Sm.scan
  split
  · exact NumSub.refl S
  · split
    · exact NumSub.refl S
    · exact noteS_nums S _ _ _ _
theorem write_nums (S : Sm ρ) (tx : Int) (a : Lk) (last : Int) : NumSub (S.write I tx a last).2 S := by
  unfold Sm.write
  split
  · exact NumSub.refl S
  · split
    · exact NumSub.refl S
    · split
      · exact NumSub.refl S
      · split
        · exact gone_nums S tx
        · split
          · exact gone_nums (I := I) { S with locks := _ } tx
          · exact put_nums (I := I) { S with locks := _ } _ _ false
theorem abort_nums (S : Sm ρ) (tx : Int) : NumSub (S.abort I tx).2 S := by
  unfold Sm.abort
  split
  · exact NumSub.refl S
  · exact gone_nums S tx
theorem ends_nums (S : Sm ρ) (tx : Int) : NumSub (S.ends tx) S := fun x hx => by
  obtain ⟨o, ho, e⟩ := List.mem_map.1 hx
  refine ⟨o, ho, ?_⟩
  rw [← e]
  split <;> rfl
theorem commit_nums (S : Sm ρ) (tx : Int) : NumSub (S.commit I tx).2 S := by
  unfold Sm.commit
  split
  · exact NumSub.refl S
  · split
    · exact gone_nums S tx
    · split
      · exact gone_nums S tx
      · refine (forget_nums (I := I) _).trans ?_
        split
        · exact fun t ht => ends_nums S tx t (List.mem_filter.1 ht).1
        · exact ends_nums S tx
end
end Go.Proofs.YthaoedfalkebbaaGreat
namespace Go.Proofs.YthaoedfalkebbaaGreat
open Go.RowKit Go.Maps Go.Sort Go.Lib Go.Shelf Go.Proofs.YthaoedfalkebbaaGreatW.PrintWords Go.Proofs.YthaoedfalkebbaaGreatW.PrintLast Go.Proofs.YthaoedfalkebbaaGreatW.PrintMore
set_option linter.unusedVariables false
set_option linter.unusedSimpArgs false
set_option linter.unusedSectionVars false
/-- what an operation leaves, wherever its parts have gone -/
def StQ (base : Nat) (l : Loc) (S S' : Sm St) (w w' : World) : Prop := ∃ l' : Loc, l'.p = l.p ∧ l'.F = l.F ∧ Pm w' base l' S' ∧ Fr (l.own S.txs) w w' ∧ ∀ k, l'.own S'.txs k → l.own S.txs k ∨ w.heap.size ≤ k
theorem own_sub {l : Loc} {S S' : Sm St} (hs : NumSub S' S) {n : Nat} : ∀ k, l.own S'.txs k → l.own S.txs k ∨ n ≤ k := fun k hk => by
  rcases hk with e | e | e | e | e | ⟨t, ht, e⟩
  · exact .inl (.inl e)
  · exact .inl (.inr (.inl e))
  · exact .inl (.inr (.inr (.inl e)))
  · exact .inl (.inr (.inr (.inr (.inl e))))
  · exact .inl (.inr (.inr (.inr (.inr (.inl e)))))
  · obtain ⟨u, hu, e2⟩ := hs t ht
    exact .inl (.inr (.inr (.inr (.inr (.inr ⟨u, hu, by rw [e, e2]⟩)))))
theorem OpQ.st {base : Nat} {l : Loc} {S : Sm St} {r : Int × Sm St} {w : World} {e : Ending} {w' : World} (h : OpQ base l S r w e w') (hs : NumSub r.2 S) : e = .returned (.int .i64 r.1) ∧ StQ base l S r.2 w w' := by
  obtain ⟨h1, rb', h2, h3, h4⟩ := h
  refine ⟨h1, { l with rb := rb' }, rfl, rfl, h2, h4, fun k hk => ?_⟩
  rcases hk with e | e | e | e | e | e
  · exact .inl (.inl e)
  · exact .inl (.inr (.inl e))
  · exact .inl (.inr (.inr (.inl e)))
  · exact .inl (.inr (.inr (.inr (.inl e))))
  · have e : k = rb' := e
    rcases h3 with h3 | h3
    · exact .inl (.inr (.inr (.inr (.inr (.inl (e.trans h3))))))
    · exact .inr (by omega)
  · exact own_sub hs k (.inr (.inr (.inr (.inr (.inr e)))))
def newT (S : Sm St) : Tx := ⟨S.last + 1, S.now, true, S.clock + 1, 0, false, false, []⟩
def begS (S : Sm St) : Sm St := { S with last := S.last + 1, clock := S.clock + 1, txs := S.txs ++ [newT S] }
theorem begin_new {S : Sm St} (h : ¬ S.caps.active ≤ S.acts) : S.begin = ((S.last + 1, S.now, 0), begS S) := by unfold Sm.begin; rw [if_neg h]; rfl
theorem got_none_tx {w : World} {base : Nat} {l : Loc} {S : Sm St} (h : Pm w base l S) : got (txL l.Q S.txs) (S.last + 1) = none := by
  rw [got_tx]
  have : S.txs.find? (fun t => t.num == S.last + 1) = none := by
    rw [List.find?_eq_none]
    intro t ht hp
    have := (h.nums t ht).2.1
    simp at hp
    omega
  rw [this]
  rfl
theorem Pm.born {w W : World} {base : Nat} {l : Loc} {S : Sm St} (h : Pm w base l S) (K N : Int) (hC : Cap S K N) (hok : okN (S.last + 1)) (q : Nat) (hq : w.heap.size ≤ q) (F : Fr (fun k => k = l.p ∨ k = l.mb) w W) (hh : W.heap[l.p]? = some (hdCells (begS S) l.mb l.lp l.rp)) (ht : TabT W l.mb (S.txs.length + 1) (txL l.Q S.txs ++ [(S.last + 1, some q)])) (hc : W.heap[q]? = some (txCells (newT S) (.slice none 0 0))) :
    Pm W base { l with Q := fun n => if n = S.last + 1 then q else l.Q n } (begS S) := by
  obtain ⟨hk, k1, k2, k3, k4, k5, k6, k7, k8, k9, k10, k11, k12⟩ := h.kinds
  have hQ : ∀ t ∈ S.txs, (if t.num = S.last + 1 then q else l.Q t.num) = l.Q t.num := fun t ht => by
    have := (h.nums t ht).2.1
    rw [if_neg (by omega)]
  have hlt : ∀ t ∈ S.txs, l.Q t.num < w.heap.size := fun t ht => h.lts _ (.inr (.inr (.inr (.inr (.inr ⟨t, ht, rfl⟩)))))
  have mem : ∀ t, t ∈ S.txs ++ [newT S] → t ∈ S.txs ∨ t = newT S := fun t ht => by
    rcases List.mem_append.1 ht with e | e
    · exact .inl e
    · exact .inr (List.mem_singleton.1 e)
  have hnn : (newT S).num = S.last + 1 := rfl
  constructor
  · exact hh
  · have e : txL (fun n => if n = S.last + 1 then q else l.Q n) (S.txs ++ [newT S]) = txL l.Q S.txs ++ [(S.last + 1, some q)] := by
      unfold txL
      rw [List.map_append]
      congr 1
      · exact List.map_congr_left fun t ht => by dsimp only; rw [hQ t ht]
      · simp [newT]
    show TabT W l.mb (S.txs ++ [newT S]).length (txL (fun n => if n = S.last + 1 then q else l.Q n) (S.txs ++ [newT S]))
    rw [e, List.length_append]
    exact ht
  · intro t ht'
    show ∃ v, W.heap[if t.num = S.last + 1 then q else l.Q t.num]? = some (txCells t v) ∧ ∃ ws, Lo Lck.cellsL 2 23 W base v ws ∧ ws.length ≤ 4096 ∧ (∀ a, a ∈ ws ↔ a ∈ t.wrote) ∧ ∀ b, v.ownBlock = some b → ¬ l.F b
    rcases mem t ht' with hm | rfl
    · rw [hQ t hm]
      obtain ⟨v, h1, ws, h2, h3⟩ := h.tx t hm
      obtain ⟨q1, q2, _⟩ := hk t hm
      refine ⟨v, F.block _ _ (fun e => by rcases e with e | e; exact q1 e; exact q2 e) h1, ws, h2.move fun g hg => ?_, h3⟩
      obtain ⟨_, _, cells, hcc⟩ := h2.typed g hg
      refine (F.block g _ (fun e => ?_) hcc).trans hcc.symm
      rcases e with e | e
      · rw [e, h.head] at hcc
        unfold hdCells at hcc
        simp at hcc
      · obtain ⟨es1, c1, hmap⟩ := h.tab.isMap
        rw [e, hmap] at hcc
        cases hcc
    · rw [if_pos hnn]
      exact ⟨_, hc, [], Lo.nil _ _, by simp, by simp [newT], fun b hb => by cases hb⟩
  · intro t ht' u hu e
    have e : (if t.num = S.last + 1 then q else l.Q t.num) = (if u.num = S.last + 1 then q else l.Q u.num) := e
    rcases mem t ht' with hm | rfl <;> rcases mem u hu with hm2 | rfl
    · rw [hQ t hm, hQ u hm2] at e
      exact h.qinj t hm u hm2 e
    · rw [hQ t hm, if_pos hnn] at e
      have := hlt t hm
      omega
    · rw [hQ u hm2, if_pos hnn] at e
      have := hlt u hm2
      omega
    · rfl
  · exact h.locks.fr F (fun e => by rcases e with e | e; exact k2 e.symm; exact k6 e) (fun e => by rcases e with e | e; exact k3 e.symm; exact h.ne1 e.symm)
  · obtain ⟨c, s, hcc⟩ := h.lkind
    exact ⟨c, s, F.block _ _ (fun e => by rcases e with e | e; exact k2 e.symm; exact k6 e) hcc⟩
  · refine h.reads.fr F (fun e => by rcases e with e | e; exact k4 e.symm; exact k10 e) (fun e => by rcases e with e | e; exact k5 e.symm; exact h.ne2 e.symm) (fun k c s hk2 hcc => ?_)
    rcases hk2 with e | e
    · rw [e, h.head] at hcc
      unfold hdCells at hcc
      simp at hcc
    · obtain ⟨es1, c1, hmap⟩ := h.tab.isMap
      rw [e, hmap] at hcc
      cases hcc
  · show (S.txs ++ [newT S]).Pairwise _
    rw [List.pairwise_append]
    refine ⟨h.dist, by simp, fun a ha b hb => ?_⟩
    rw [List.mem_singleton.1 hb]
    have := (h.nums a ha).2.1
    show a.num < S.last + 1
    omega
  · intro t ht'
    have hl := hC.last
    rcases mem t ht' with hm | rfl
    · have := h.nums t hm
      exact ⟨this.1, by show t.num ≤ S.last + 1; omega, this.2.2⟩
    · exact ⟨by show 1 ≤ S.last + 1; omega, by show S.last + 1 ≤ S.last + 1; omega, hok⟩
  · have := hC.few
    show (S.txs ++ [newT S]).length ≤ _
    simp
    omega
  · exact h.ne1
  · exact h.ne2
  · exact h.ne3
  · refine ⟨h.low.1, h.low.2.1, h.low.2.2.1, h.low.2.2.2.1, h.low.2.2.2.2.1, fun t ht' => ?_⟩
    show base ≤ (if t.num = S.last + 1 then q else l.Q t.num)
    rcases mem t ht' with hm | rfl
    · rw [hQ t hm]
      exact h.low.2.2.2.2.2 t hm
    · rw [if_pos hnn]
      have := h.low.1
      have := h.lts _ (.inl rfl)
      omega
/-- how many are under way, as the walk asks it -/
theorem act_ask (base : Nat) (l : Loc) (S : Sm St) (w : World) (h : Pm w base l S) (W : World) (B : Below w.heap.size w W) :
    Calls Tryz.prog 26 #[ptr l.p] W fun e w' => ∃ A c, e = .returned (.slice A S.acts c) ∧ Below W.heap.size W w' := by
  refine (Active_s base l S W (h.below B)).mono ?_
  rintro e w' ⟨v, rfl, hv, B2⟩
  obtain ⟨A, c, rfl, _⟩ := (Lo.ofR hv : Lo _ _ _ _ _ _ _).slice
  rw [actN_len]
  exact ⟨A, c, rfl, B2⟩
def hdC (a k r o now last clock : Int) (mb lp rp : Nat) : Obj := .cells #[.int .i64 a, .int .i64 k, .int .i64 r, .int .i64 o, .int .i64 now, .int .i64 last, .int .i64 clock, .map (some mb), ptr lp, ptr rp] 90 (0, 0)
theorem hdC_cells {w : World} {p mb lp rp : Nat} {a k r o now last clock : Int} (h : w.heap[p]? = some (hdC a k r o now last clock mb lp rp)) :
    w.cell? ⟨p, 0, none⟩ = some (.int .i64 a) ∧ w.cell? ⟨p, 1, none⟩ = some (.int .i64 k) ∧ w.cell? ⟨p, 4, none⟩ = some (.int .i64 now) ∧ w.cell? ⟨p, 5, none⟩ = some (.int .i64 last) ∧ w.cell? ⟨p, 6, none⟩ = some (.int .i64 clock) ∧ w.cell? ⟨p, 7, none⟩ = some (.map (some mb)) ∧ w.cell? ⟨p, 8, none⟩ = some (ptr lp) ∧ w.cell? ⟨p, 9, none⟩ = some (ptr rp) :=
  ⟨cell_of_row w p 0 _ 90 (0, 0) h, cell_of_row w p 1 _ 90 (0, 0) h, cell_of_row w p 4 _ 90 (0, 0) h, cell_of_row w p 5 _ 90 (0, 0) h, cell_of_row w p 6 _ 90 (0, 0) h, cell_of_row w p 7 _ 90 (0, 0) h, cell_of_row w p 8 _ 90 (0, 0) h, cell_of_row w p 9 _ 90 (0, 0) h⟩
def txC (num snap : Int) (act : Bool) (begun ended : Int) (fin fout : Bool) (v : Value) : Obj := .cells #[.int .i64 num, .int .i64 snap, .bool act, .int .i64 begun, .int .i64 ended, .bool fin, .bool fout, v] 101 (0, 0)
set_option maxHeartbeats 16000000 in
set_option maxRecDepth 100000 in
theorem Begin_walk (p mb lp rp n0 : Nat) (a k r o now last clock : Int) (w : World) (Post : Int → Int → Int → World → Prop) (H2 : World → Prop) (hn0 : n0 ≤ 65536) (hla : 0 ≤ last ∧ last ≤ 4611686018427387904) (hcl : 0 ≤ clock ∧ clock ≤ 4611686018427387904)
    (N : Calls Tryz.prog 38 #[ptr p] w fun e w' => e = .returned (.bool false) ∧ w = w')
    (hd : w.heap[p]? = some (hdC a k r o now last clock mb lp rp))
    (AC : ∀ n, Calls Tryz.prog 26 #[ptr p] (w.drewN n) fun e w2 => ∃ A c, e = .returned (.slice A n0 c) ∧ H2 w2)
    (C2 : ∀ W, H2 W → W.heap[p]? = some (hdC a k r o now last clock mb lp rp))
    (FULL : a ≤ n0 → ∀ W, H2 W → Post 0 0 4 W)
    (NEW : (n0 : Int) < a → ∀ W, H2 W → ∃ w5, (Instr.mapUpdate 86 (.map (some mb)) (.int .i64 (last + 1)) (ptr W.heap.size)).run Tryz.prog ((((W.setCell ⟨p, 5, none⟩ (.int .i64 (last + 1))).setCell ⟨p, 6, none⟩ (.int .i64 (clock + 1))).alloc (txC (last + 1) now true (clock + 1) 0 false false (.slice none 0 0))).drew) = .ok () w5 ∧ w5.heap[p]? = some (hdC a k r o now (last + 1) (clock + 1) mb lp rp) ∧ ∀ n, Post (last + 1) now 0 (w5.drewN n)) :
    Calls Tryz.prog 13 #[ptr p] w fun e w' => ∃ x y z, e = .returned (.tuple #[.int .i64 x, .int .i64 y, .int .i64 z]) ∧ Post x y z w' := by
  obtain ⟨c0, _⟩ := hdC_cells hd
  replace C2 := Aside0.mk C2
  replace FULL := Aside0.mk FULL
  replace NEW := Aside0.mk NEW
  have wl1 : IntKind.i64.wrap (last + 1) = last + 1 := IntWalk.i64_in _ (by omega)
  have wc1 : IntKind.i64.wrap (clock + 1) = clock + 1 := IntWalk.i64_in _ (by omega)
  clear hd
  go_enter Tryz.func13, Tryz.ntmps13
  go_wp2_with fail
  refine N.mono ?_
  rintro e w' ⟨rfl, rfl⟩
  go_wp2_with fail
  go_region_held3 (fun V => V.cell? ⟨p, 0, none⟩ = some (.int .i64 a)) (first | exact c0 | exact K2.1)
    ((go_at_call 26; refine (AC _).mono ?_; rintro e w2 ⟨A2, c2, rfl, B2⟩; have K2 := hdC_cells (C2.out w2 B2)))
  by_cases hf : a ≤ n0
  · have F := FULL.out hf w2 B2
    clear NEW C2 AC
    go_wp2
    go_ret3
    exact ⟨_, _, _, rfl, F⟩
  · have hf2 : (n0 : Int) < a := by omega
    have NW := NEW.out hf2 w2 B2
    have op2 := C2.out w2 B2
    have fz := blk_frozen op2
    obtain ⟨d0, d1, d4, d5, d6, d7, d8, d9⟩ := K2
    obtain ⟨w3, hw3⟩ : ∃ w3, w3 = (w2.setCell ⟨p, 5, none⟩ (.int .i64 (last + 1))).setCell ⟨p, 6, none⟩ (.int .i64 (clock + 1)) := ⟨_, rfl⟩
    have op3 : w3.heap[p]? = some (hdC a k r o now (last + 1) (clock + 1) mb lp rp) := by rw [hw3]; rw [blk_set (blk_set op2 5 _) 6 _]; rfl
    replace op3 := Aside0.mk op3
    clear FULL C2 AC op2 NEW
    replace hf2 := Aside0.mk hf2
    go_upto_region 7 with (fail)
    rw [← hw3]
    rw [← hw3] at NW
    have hsz : w2.heap.size = w3.heap.size := by rw [hw3]; simp [World.setCell]
    rw [hsz] at NW
    clear hw3 d0 d1 d4 d5 d6 d7 d8 d9 fz hsz
    obtain ⟨e0, e1, e4, e5, e6, e7, e8, e9⟩ := hdC_cells op3.out
    obtain ⟨w5, hmu, op5, P5⟩ := NW
    unfold txC at hmu
    obtain ⟨f0, f1, f4, f5, f6, f7, f8, f9⟩ := hdC_cells op5
    replace op5 := Aside0.mk op5
    go_region_held3 (fun V => V.cell? ⟨p, 7, none⟩ = some (.map (some mb)) ∧ V.cell? ⟨p, 5, none⟩ = some (.int .i64 (last + 1)) ∧ V.cell? ⟨p, 4, none⟩ = some (.int .i64 now) ∧ V.cell? ⟨p, 6, none⟩ = some (.int .i64 (clock + 1))) (first | exact ⟨e7, e5, e4, e6⟩ | exact ⟨below_cell (allocDB w3 _) e7, below_cell (allocDB w3 _) e5, below_cell (allocDB w3 _) e4, below_cell (allocDB w3 _) e6⟩ | exact ⟨below_cell (allocB w3 _) e7, below_cell (allocB w3 _) e5, below_cell (allocB w3 _) e4, below_cell (allocB w3 _) e6⟩ | exact ⟨f7, f5, f4, f6⟩) (fail)
    replace P5 := Aside0.mk P5
    clear e0 e1 e4 e5 e6 e7 e8 e9 hmu
    go_wp2_with fail
    go_region_held3 (fun V => V.cell? ⟨p, 5, none⟩ = some (.int .i64 (last + 1)) ∧ V.cell? ⟨p, 4, none⟩ = some (.int .i64 now)) (exact ⟨f5, f4⟩) (fail)
    go_wp2
    go_ret3
    exact ⟨_, _, _, rfl, P5.out 1⟩
theorem begin_full {S : Sm St} (h : S.caps.active ≤ S.acts) : S.begin = ((0, 0, 4), S) := by unfold Sm.begin; rw [if_pos h]
theorem Begin_s (base : Nat) (l : Loc) (S : Sm St) (w : World) (K N : Int) (h : Pm w base l S) (hC : Cap S K N) (hK : K ≤ 4611686018427387903) :
    Calls Tryz.prog 13 #[ptr l.p] w fun e w' => e = .returned (.tuple #[.int .i64 S.begin.1.1, .int .i64 S.begin.1.2.1, .int .i64 S.begin.1.2.2]) ∧ StQ base l S S.begin.2 w w' := by
  obtain ⟨_, _, _, _, _, _, _, c7, _, _⟩ := h.cells
  obtain ⟨hk, k1, k2, k3, k4, k5, k6, k7, k8, k9, k10, k11, k12⟩ := h.kinds
  have hl := hC.last
  have hcl := hC.clock
  have hok : okN (S.last + 1) := by
    show (Lit.int .i64 (S.last + 1)).wf = true
    simp only [Lit.wf, Bool.and_eq_true, decide_eq_true_eq]
    have e1 : IntKind.i64.min = -9223372036854775808 := by decide
    have e2 : IntKind.i64.max = 9223372036854775807 := by decide
    rw [e1, e2]
    omega
  have hfew := hC.few
  have hacts : S.acts ≤ S.txs.length := List.length_filter_le _ _
  refine (Begin_walk l.p l.mb l.lp l.rp S.acts S.caps.active S.caps.kept S.caps.reads S.caps.locks S.now S.last S.clock w (fun x y z W => ((x, y, z) : Int × Int × Int) = S.begin.1 ∧ StQ base l S S.begin.2 w W) (fun W => Below w.heap.size w W) (by omega) (by omega) (by omega) (none_s l.p l.mb w c7) h.head
    (fun n => (act_ask base l S w h (w.drewN n) (drewB2 w n)).mono fun e w' ⟨A, c, h1, h2⟩ => ⟨A, c, h1, below_then (drewB2 w n) (by simp) h2⟩) (fun W B => (h.below B).head) ?_ ?_).mono ?_
  · intro hf W B
    rw [begin_full hf]
    exact ⟨rfl, l, rfl, rfl, h.below B, Fr.ofBelow B, fun k hk => .inl hk⟩
  · intro hf W B
    have P := h.below B
    rw [begin_new (by omega)]
    obtain ⟨W3, hW3⟩ : ∃ W3, W3 = (((W.setCell ⟨l.p, 5, none⟩ (.int .i64 (S.last + 1))).setCell ⟨l.p, 6, none⟩ (.int .i64 (S.clock + 1))).alloc (txC (S.last + 1) S.now true (S.clock + 1) 0 false false (.slice none 0 0))).drew := ⟨_, rfl⟩
    have G1 : W.grownBy ((W.setCell ⟨l.p, 5, none⟩ (.int .i64 (S.last + 1))).setCell ⟨l.p, 6, none⟩ (.int .i64 (S.clock + 1))) (some l.p) := trans_grown (grown_set _ _ _ _) (grown_set _ _ _ _)
    obtain ⟨W2, hW2⟩ : ∃ W2, W2 = (W.setCell ⟨l.p, 5, none⟩ (.int .i64 (S.last + 1))).setCell ⟨l.p, 6, none⟩ (.int .i64 (S.clock + 1)) := ⟨_, rfl⟩
    have hsz : W2.heap.size = W.heap.size := by rw [hW2]; simp [World.setCell]
    have op2 : W2.heap[l.p]? = some (hdCells (begS S) l.mb l.lp l.rp) := by
      rw [hW2, blk_set (blk_set P.head 5 _) 6 _]
      rfl
    rw [← hW2] at hW3 G1
    rw [← hW2, ← hW3]
    have B3 : Below W2.heap.size W2 W3 := by rw [hW3]; exact allocDB W2 _
    have F3 : Fr (fun k => k = l.p) W W3 := (Fr.grown G1 |>.mono (O2 := fun k => k = l.p) (fun k hk _ => by injection hk with hk; exact hk.symm)).trans (Fr.ofBelow (O := fun _ => False) B3) (fun k hk _ => hk.elim)
    have T3 : TabT W3 l.mb S.txs.length (txL l.Q S.txs) := P.tab.fr F3 (fun e => k1 e.symm)
    obtain ⟨w5, hmu, T5, hturn⟩ := T3.store (t := 86) (e := 99) keyN valQ Tryz.underlying86 (by simp only [maxLen]; omega) hok (some W.heap.size)
    have G5 := Fr.grown (turned_grown hturn)
    have hq3 : W3.heap[W.heap.size]? = some (txCells (newT S) (.slice none 0 0)) := by
      rw [hW3, ← hsz]
      exact heap_alloc_new W2 _
    have F5 : Fr (fun k => k = l.p ∨ k = l.mb) W w5 := (F3.mono (fun k hk _ => .inl hk)).trans G5 (fun k hk _ => by injection hk with hk; exact .inr hk.symm)
    have h5 : w5.heap[l.p]? = some (hdCells (begS S) l.mb l.lp l.rp) := G5.block _ _ (fun e => by injection e with e; exact k1 e.symm) ((B3.block _ (Array.getElem?_eq_some_iff.1 op2).1).trans op2)
    have q5 : w5.heap[W.heap.size]? = some (txCells (newT S) (.slice none 0 0)) := G5.block _ _ (fun e => by injection e with e; have := P.lts _ (.inr (.inl rfl)); omega) hq3
    have eu : upd (txL l.Q S.txs) (S.last + 1) (some W.heap.size) = txL l.Q S.txs ++ [(S.last + 1, some W.heap.size)] := by
      unfold upd
      rw [got_none_tx h]
      rfl
    rw [eu] at T5
    have PB := P.born K N hC hok W.heap.size (Nat.le_refl _) F5 h5 T5 q5
    refine ⟨w5, hmu, h5, fun n => ⟨rfl, { l with Q := fun n => if n = S.last + 1 then W.heap.size else l.Q n }, rfl, rfl, PB.below (drewB2 w5 n), ?_, fun k hk => ?_⟩⟩
    · exact (((Fr.ofBelow (O := l.own S.txs) B).trans F5 (fun k hk _ => by rcases hk with e | e; exact .inl e; exact .inr (.inl e))).trans (Fr.drewN (O := fun _ => False) w5 n) (fun k hk _ => hk.elim))
    · rcases hk with e | e | e | e | e | ⟨t, ht, e⟩
      · exact .inl (.inl e)
      · exact .inl (.inr (.inl e))
      · exact .inl (.inr (.inr (.inl e)))
      · exact .inl (.inr (.inr (.inr (.inl e))))
      · exact .inl (.inr (.inr (.inr (.inr (.inl e)))))
      · have e : k = if t.num = S.last + 1 then W.heap.size else l.Q t.num := e
        by_cases h1 : t.num = S.last + 1
        · rw [if_pos h1] at e
          have := B.size
          exact .inr (by omega)
        · rw [if_neg h1] at e
          rcases List.mem_append.1 (show t ∈ S.txs ++ [newT S] from ht) with h2 | h2
          · exact .inl (.inr (.inr (.inr (.inr (.inr ⟨t, h2, e⟩)))))
          · exact absurd (by rw [List.mem_singleton.1 h2]; rfl) h1
  · rintro e w' ⟨x, y, z, rfl, h1, h2⟩
    rw [← h1]
    exact ⟨rfl, h2⟩
end Go.Proofs.YthaoedfalkebbaaGreat
namespace Go.Proofs.YthaoedfalkebbaaGreat
open Go.RowKit Go.Maps Go.Sort Go.Lib Go.Shelf Go.Proofs.YthaoedfalkebbaaGreatW.PrintWords Go.Proofs.YthaoedfalkebbaaGreatW.PrintLast Go.Proofs.YthaoedfalkebbaaGreatW.PrintMore
set_option linter.unusedVariables false
set_option linter.unusedSimpArgs false
set_option linter.unusedSectionVars false
set_option maxRecDepth 100000 in
theorem Now_s (base : Nat) (l : Loc) (S : Sm St) (w : World) (h : Pm w base l S) : Calls Tryz.prog 34 #[ptr l.p] w fun e w' => e = .returned (.int .i64 S.now) ∧ w = w' := by
  obtain ⟨_, _, _, _, c4, _, _, c7, _, _⟩ := h.cells
  have N := none_s l.p l.mb w c7
  clear h
  go_enter Tryz.func34, Tryz.ntmps34
  go_wp2_with fail
  refine N.mono ?_
  rintro e w' ⟨rfl, rfl⟩
  go_wp2
  go_ret
  exact ⟨rfl, rfl⟩
set_option maxHeartbeats 16000000 in
set_option maxRecDepth 100000 in
theorem Tracked_s (base : Nat) (l : Loc) (S : Sm St) (w : World) (K N : Int) (h : Pm w base l S) (hC : Cap S K N) : Calls Tryz.prog 24 #[ptr l.p] w fun e w' => e = .returned (.agg #[.int .i64 S.acts, .int .i64 ((S.txs.length : Int) - S.acts), .int .i64 S.reads.n, .int .i64 S.locks.length]) ∧ Below w.heap.size w w' := by
  obtain ⟨w1, hw1⟩ : ∃ w1, w1 = w.alloc (.cells #[.int .i64 0, .int .i64 0, .int .i64 0, .int .i64 0] 60) := ⟨_, rfl⟩
  have B1 : Below w.heap.size w w1 := by rw [hw1]; exact (Below.refl _ w).alloc (Nat.le_refl _) _
  have P1 := h.below B1
  have ob : w1.heap[w.heap.size]? = some (.cells #[.int .i64 0, .int .i64 0, .int .i64 0, .int .i64 0] 60 (0, 0)) := by rw [hw1]; exact heap_alloc_new w _
  obtain ⟨_, _, _, _, _, _, _, c7, c8, c9⟩ := P1.cells
  have N := none_s l.p l.mb w1 c7
  have AC := act_ask base l S w h w1 B1
  have hfew := hC.few
  have hacts : S.acts ≤ S.txs.length := List.length_filter_le _ _
  have CELS : ∀ W, Below w.heap.size w W → W.cell? ⟨l.p, 7, none⟩ = some (.map (some l.mb)) ∧ W.cell? ⟨l.p, 8, none⟩ = some (ptr l.lp) ∧ W.cell? ⟨l.p, 9, none⟩ = some (ptr l.rp) ∧ (Builtin.len_ #[86] 3 #[.map (some l.mb)]).run Tryz.prog W = .ok (.int .i64 (S.txs.length : Int)) W := fun W B => by
    have P := h.below B
    obtain ⟨_, _, _, _, _, _, _, c7, c8, c9⟩ := P.cells
    have := Tab.len (t := 86) Tryz.underlying86 P.tab 3
    unfold txL at this
    rw [List.length_map] at this
    exact ⟨c7, c8, c9, this⟩
  have L61 : ∀ W, Below w1.heap.size w1 W → ∀ n, Calls Tryz.prog 61 #[ptr l.rp] (W.drewN n) fun e w' => e = .returned (.int .i64 S.reads.n) ∧ W.drewN n = w' := fun W B n => Len_S base l.rp l.rb S.caps.reads S.reads _ ((P1.below B).below (drewB2 W n)).reads
  have L62 : ∀ W, Below w1.heap.size w1 W → ∀ n, Calls Tryz.prog 62 #[ptr l.lp] (W.drewN n) fun e w' => e = .returned (.int .i64 (S.locks.length : Int)) ∧ W.drewN n = w' := fun W B n => Lck.Len_calls l.lp l.lb S.caps.locks S.locks _ ((P1.below B).below (drewB2 W n)).locks
  have hwr : IntKind.i64.wrap ((S.txs.length : Int) - S.acts) = (S.txs.length : Int) - S.acts := IntWalk.i64_in _ (by omega)
  have CEL : ∀ W, Below w1.heap.size w1 W → W.heap[w.heap.size]? = some (.cells #[.int .i64 0, .int .i64 0, .int .i64 0, .int .i64 0] 60 (0, 0)) ∧ ∀ n, Below w.heap.size w (W.drewN n) := fun W B => ⟨(B.block _ (Array.getElem?_eq_some_iff.1 ob).1).trans ob, fun n => below_then (below_then B1 B1.size B) (below_then B1 B1.size B).size (drewB2 W n)⟩
  generalize (S.txs.length : Int) = tl at *
  generalize (S.locks.length : Int) = kl at *
  generalize S.reads.n = rn at *
  generalize S.acts = ac at *
  clear h P1 hC hfew hacts
  replace CEL := Aside0.mk CEL
  replace CELS := Aside0.mk CELS
  replace L61 := Aside0.mk L61
  replace L62 := Aside0.mk L62
  go_enter Tryz.func24, Tryz.ntmps24
  go_upto_region 1 with (fail)
  rw [← hw1]
  clear hw1
  go_wp2_with fail
  refine N.mono ?_
  rintro e w' ⟨rfl, rfl⟩
  go_wp2_with fail
  refine AC.mono ?_
  rintro e w2 ⟨A2, c2, rfl, B2⟩
  obtain ⟨ob2, BW⟩ := CEL.out w2 B2
  have obn : ∀ n, (w2.drewN n).heap[w.heap.size]? = some (.cells #[.int .i64 0, .int .i64 0, .int .i64 0, .int .i64 0] 60 (0, 0)) := fun n => ob2
  have fz := fun n => blk_frozen (obn n)
  have x0 := fun n => cell_of_row (w2.drewN n) _ 0 _ 60 (0, 0) (obn n)
  have x1 := fun n => cell_of_row (w2.drewN n) _ 1 _ 60 (0, 0) (obn n)
  have x2 := fun n => cell_of_row (w2.drewN n) _ 2 _ 60 (0, 0) (obn n)
  have x3 := fun n => cell_of_row (w2.drewN n) _ 3 _ 60 (0, 0) (obn n)
  have L61 := L61.out w2 B2
  have L62 := L62.out w2 B2
  clear CEL c7 c8 c9 ob B2
  replace obn := Aside0.mk obn
  replace BW := Aside0.mk BW
  have h4 : w.heap.size ≤ w.heap.size := Nat.le_refl _
  go_wp2_with fail
  go_region_held3 (fun V => V.cell? ⟨l.p, 7, none⟩ = some (.map (some l.mb)) ∧ V.cell? ⟨l.p, 8, none⟩ = some (ptr l.lp) ∧ V.cell? ⟨l.p, 9, none⟩ = some (ptr l.rp) ∧ (Builtin.len_ #[86] 3 #[.map (some l.mb)]).run Tryz.prog V = .ok (.int .i64 tl) V) (first | exact CELS.out _ (BW.out 0) | exact CELS.out _ (BW.out 1) | exact CELS.out _ (BW.out 2) | exact CELS.out _ (BW.out _) | exact CELS.out _ (((((BW.out 1).setCell h4 _).setCell h4 _).setCell h4 _).setCell h4 _))
    (first | (go_at_call 61; refine (L61 _).mono ?_; rintro e w3 ⟨rfl, rfl⟩) | (go_at_call 62; refine (L62 _).mono ?_; rintro e w3 ⟨rfl, rfl⟩))
  clear x0 x1 x2 x3 fz L61 L62 AC N
  go_wp2
  exact bodyPost_ret (results_cell_row rfl _ _ w.heap.size 60 #[.int .i64 ac, .int .i64 (tl - ac), .int .i64 rn, .int .i64 kl] (0, 0) _ rfl (by rw [blk_set (blk_set (blk_set (blk_set (obn.out 1) 0 _) 1 _) 2 _) 3 _]; rfl) Tryz.underlying60 rfl (by kernel_rfl)) rfl ⟨rfl, ((((BW.out 1).setCell h4 _).setCell h4 _).setCell h4 _).setCell h4 _⟩
end Go.Proofs.YthaoedfalkebbaaGreat
namespace Go.Proofs.YthaoedfalkebbaaGreat
set_option linter.unusedVariables false
set_option linter.unusedSectionVars false
def cntT : List Bool → Nat
  | [] => 0
  | b :: l => (if b then 1 else 0) + cntT l
theorem cntT_le : ∀ l : List Bool, cntT l ≤ l.length
  | [] => Nat.le_refl _
  | b :: l => by
    have := cntT_le l
    simp only [cntT, List.length_cons]
    split <;> omega
theorem cntT_all : ∀ l : List Bool, l.length ≤ cntT l → ∀ b ∈ l, b = true
  | [], _, b, hb => by cases hb
  | a :: l, h, b, hb => by
    have h1 := cntT_le l
    simp only [cntT, List.length_cons] at h
    cases a with
    | false => simp at h; omega
    | true =>
      simp at h
      rcases List.mem_cons.1 hb with rfl | hb
      · rfl
      · exact cntT_all l (by omega) b hb
theorem cntT_set : ∀ (l : List Bool) (i : Nat), l[i]? = some false → cntT (l.set i true) = cntT l + 1
  | [], i, h => by cases h
  | a :: l, 0, h => by
    simp at h
    subst h
    simp [cntT]
    omega
  | a :: l, i + 1, h => by
    have := cntT_set l i (by simpa using h)
    simp only [List.set_cons_succ, cntT, this]
    omega
def freeO (deps : List (Nat × Nat)) (g : List Bool) (i : Nat) : Bool := !(g[i]?.getD false) && deps.all (fun d => !(d.2 == i && d.1 != i && !(g[d.1]?.getD false)))
def stepO (deps : List (Nat × Nat)) (g : List Bool) (i : Nat) : List Bool := if freeO deps g i then g.set i true else g
def passO (deps : List (Nat × Nat)) (g : List Bool) (k : Nat) : List Bool := (List.range k).foldl (stepO deps) g
theorem passO_succ (deps : List (Nat × Nat)) (g : List Bool) (k : Nat) : passO deps g (k + 1) = stepO deps (passO deps g k) k := by
  unfold passO
  rw [List.range_succ, List.foldl_append]
  rfl
theorem stepO_len (deps : List (Nat × Nat)) (g : List Bool) (i : Nat) : (stepO deps g i).length = g.length := by
  unfold stepO
  split
  · exact List.length_set
  · rfl
theorem passO_len (deps : List (Nat × Nat)) (g : List Bool) : ∀ k, (passO deps g k).length = g.length
  | 0 => rfl
  | k + 1 => by rw [passO_succ, stepO_len, passO_len deps g k]
theorem freeO_false {deps : List (Nat × Nat)} {g : List Bool} {i : Nat} (hi : i < g.length) (h : freeO deps g i = true) : g[i]? = some false := by
  unfold freeO at h
  rw [Bool.and_eq_true] at h
  rw [List.getElem?_eq_getElem hi] at h ⊢
  simp at h
  rw [h.1]
theorem stepO_cnt {deps : List (Nat × Nat)} {g : List Bool} {i : Nat} (hi : i < g.length) : cntT (stepO deps g i) = cntT g + (if freeO deps g i then 1 else 0) := by
  unfold stepO
  by_cases h : freeO deps g i = true
  · rw [if_pos h, if_pos h]
    exact cntT_set g i (freeO_false hi h)
  · rw [if_neg h, if_neg h]
    rfl
theorem passO_cnt {deps : List (Nat × Nat)} {g : List Bool} : ∀ k, k ≤ g.length → cntT g ≤ cntT (passO deps g k)
  | 0, _ => Nat.le_refl _
  | k + 1, h => by
    have := passO_cnt (deps := deps) (g := g) k (by omega)
    rw [passO_succ, stepO_cnt (by rw [passO_len]; omega)]
    split <;> omega
/-- what is gone stays gone -/
theorem stepO_keep {deps : List (Nat × Nat)} {g : List Bool} {i j : Nat} (h : g[j]? = some true) : (stepO deps g i)[j]? = some true := by
  unfold stepO
  split
  · by_cases e : i = j
    · subst e
      exact List.getElem?_set_self (List.getElem?_eq_some_iff.1 h).1
    · rw [List.getElem?_set_ne e]; exact h
  · exact h
theorem passO_keep {deps : List (Nat × Nat)} {g : List Bool} {j : Nat} (h : g[j]? = some true) : ∀ k, (passO deps g k)[j]? = some true
  | 0 => h
  | k + 1 => by rw [passO_succ]; exact stepO_keep (passO_keep h k)
theorem freeO_keep {deps : List (Nat × Nat)} {g g' : List Bool} (hk : ∀ j : Nat, g[j]? = some true → g'[j]? = some true) {i : Nat} (h : freeO deps g i = true) (h' : g'[i]?.getD false = false) : freeO deps g' i = true := by
  unfold freeO at h ⊢
  rw [Bool.and_eq_true, List.all_eq_true] at h ⊢
  refine ⟨by rw [h']; rfl, fun d hd => ?_⟩
  have := h.2 d hd
  cases hg : g[d.1]?.getD false with
  | false =>
    rw [hg] at this
    simp only [Bool.not_false, Bool.and_true] at this
    cases h1 : (d.2 == i && d.1 != i) with
    | false => simp
    | true => rw [h1] at this; cases this
  | true =>
    have h2 : g[d.1]? = some true := by
      cases h3 : g[d.1]? with
      | none => rw [h3] at hg; cases hg
      | some b => rw [h3] at hg; simp at hg; rw [hg]
    rw [hk _ h2]
    simp
theorem passO_more {deps : List (Nat × Nat)} {g : List Bool} {i : Nat} (hi : i < g.length) (h : freeO deps g i = true) : cntT g < cntT (passO deps g g.length) := by
  have key : ∀ k, i + 1 ≤ k → k ≤ g.length → cntT g < cntT (passO deps g k) := by
    intro k
    induction k with
    | zero => intro h1; omega
    | succ k ih =>
      intro h1 h2
      rw [passO_succ, stepO_cnt (by rw [passO_len]; omega)]
      by_cases e : i = k
      · subst e
        have hle := passO_cnt (deps := deps) (g := g) i (by omega)
        cases hb : (passO deps g i)[i]?.getD false with
        | false =>
          have := freeO_keep (fun j hj => passO_keep (deps := deps) hj i) h hb
          rw [if_pos this]
          omega
        | true =>
          have key2 : ∀ k, k ≤ i → (passO deps g k)[i]? = some false := by
            intro k
            induction k with
            | zero => intro _; exact freeO_false hi h
            | succ k ih2 =>
              intro hk
              rw [passO_succ]
              unfold stepO
              split
              · rw [List.getElem?_set_ne (by omega)]; exact ih2 (by omega)
              · exact ih2 (by omega)
          rw [key2 i (Nat.le_refl _)] at hb
          cases hb
      · have := ih (by omega) (by omega)
        split <;> omega
  exact key _ (by omega) (Nat.le_refl _)
def loopO (deps : List (Nat × Nat)) : Nat → List Bool → List Bool
  | 0, g => g
  | k + 1, g => if cntT g < cntT (passO deps g g.length) then loopO deps k (passO deps g g.length) else passO deps g g.length
def orderedO (n : Nat) (deps : List (Nat × Nat)) : Bool := (loopO deps n (List.replicate n false)).all (fun b => b)
theorem loopO_all {deps : List (Nat × Nat)} {n : Nat} (H : ∀ g : List Bool, g.length = n → (∃ i : Nat, g[i]? = some false) → ∃ i, i < n ∧ freeO deps g i = true) :
    ∀ (k : Nat) (g : List Bool), g.length = n → n ≤ cntT g + k → ∀ b ∈ loopO deps k g, b = true
  | 0, g, hl, hk, b, hb => cntT_all g (by omega) b hb
  | k + 1, g, hl, hk, b, hb => by
    unfold loopO at hb
    have hp := passO_len deps g g.length
    by_cases h : cntT g < cntT (passO deps g g.length)
    · rw [if_pos h] at hb
      exact loopO_all H k _ (by omega) (by omega) b hb
    · rw [if_neg h] at hb
      have hall : ∀ b ∈ g, b = true := by
        intro b hb
        cases b with
        | true => rfl
        | false =>
          obtain ⟨i, hi⟩ := List.mem_iff_getElem?.1 hb
          obtain ⟨j, hj, hf⟩ := H g hl ⟨i, hi⟩
          exact absurd (passO_more (by omega) hf) h
      have hc : g.length ≤ cntT g := by
        clear hb h hp H hk hl
        induction g with
        | nil => exact Nat.le_refl _
        | cons a g ih =>
          have := ih (fun b hb => hall b (List.mem_cons_of_mem _ hb))
          have ha := hall a List.mem_cons_self
          subst ha
          simp only [cntT, List.length_cons, if_true]
          omega
      have := passO_cnt (deps := deps) (g := g) g.length (Nat.le_refl _)
      exact cntT_all _ (by omega) b hb
section
variable {ρ : Type} {I : RdI ρ} {ok : ρ → Prop} {most : Int}
theorem ordered_of {S : Sm ρ} {list : List Run} {G : List Gh} {vs : List Ver} {now : Int} (M : MI I ok S list G) (s : SI list G vs now) : orderedO list.length (depsW vs list) = true := by
  unfold orderedO
  rw [List.all_eq_true]
  refine loopO_all (n := list.length) (fun g hl hex => ?_) _ _ (by simp) (by omega)
  obtain ⟨i0, h0⟩ := hex
  obtain ⟨i, hi, hleft, hno⟩ := free_one M s (fun i => g[i]?.getD false = false) ⟨i0, by rw [← hl]; exact (List.getElem?_eq_some_iff.1 h0).1, by rw [h0]; rfl⟩
  refine ⟨i, hi, ?_⟩
  unfold freeO
  rw [Bool.and_eq_true, List.all_eq_true]
  refine ⟨by rw [hleft]; rfl, fun d hd => ?_⟩
  rw [Bool.not_eq_true']
  cases h1 : (d.2 == i) with
  | false => simp
  | true =>
    cases h2 : (d.1 != i) with
    | false => simp
    | true =>
      have := hno d.1 d.2 hd (by simpa using h1) (by simpa using h2)
      cases h3 : g[d.1]?.getD false with
      | false => exact absurd h3 this
      | true => rfl
end
end Go.Proofs.YthaoedfalkebbaaGreat
namespace Go.Proofs.YthaoedfalkebbaaGreat
set_option linter.unusedVariables false
set_option linter.unusedSectionVars false
set_option linter.unusedSimpArgs false
section
variable {ρ : Type} {I : RdI ρ} {ok : ρ → Prop} {most : Int}
/-- those under way, as the world counts them -/
def actW (list : List Run) : Nat := (list.filter (fun x => !x.over)).length
def openI (list : List Run) : List Int := (list.filter (fun x => !x.over)).map (fun x => x.tx)
theorem num_lt : ∀ (list : List Run) (k : Int), (∀ (i : Nat) (x : Run), list[i]? = some x → x.tx = k + (i : Int) + 1) → list.Pairwise (fun a b => a.tx < b.tx) ∧ ∀ x ∈ list, k < x.tx
  | [], k, h => ⟨List.Pairwise.nil, by simp⟩
  | x :: list, k, h => by
    have h0 := h 0 x rfl
    obtain ⟨h1, h2⟩ := num_lt list (k + 1) (fun i y hy => by have := h (i + 1) y (by simpa using hy); push_cast at this; omega)
    refine ⟨List.pairwise_cons.2 ⟨fun y hy => by have := h2 y hy; simp at h0; omega, h1⟩, fun y hy => ?_⟩
    rcases List.mem_cons.1 hy with rfl | hy
    · simp at h0; omega
    · have := h2 y hy; omega
theorem act_nums {S : Sm ρ} {list : List Run} {G : List Gh} (M : MI I ok S list G) : (S.txs.filter (fun t => t.act)).map (fun t => t.num) = openI list := by
  refine strict_unique ?_ ?_ (fun n => ?_)
  · rw [List.pairwise_map]
    exact M.dist.sublist List.filter_sublist
  · unfold openI
    rw [List.pairwise_map]
    exact (num_lt list 0 (fun i x hx => by have := M.num i x hx; omega)).1.sublist List.filter_sublist
  · unfold openI
    constructor
    · intro h
      obtain ⟨t, ht, e⟩ := List.mem_map.1 h
      obtain ⟨h1, h2⟩ := List.mem_filter.1 ht
      obtain ⟨i, x, g, k1, k2, k3, _, _, _, _, k8, _⟩ := M.tx t h1
      refine List.mem_map.2 ⟨x, List.mem_filter.2 ⟨List.mem_of_getElem? k1, by rw [k8 h2]; rfl⟩, ?_⟩
      rw [M.num i x k1]
      omega
    · intro h
      obtain ⟨x, hx, e⟩ := List.mem_map.1 h
      obtain ⟨h1, h2⟩ := List.mem_filter.1 hx
      obtain ⟨i, hi⟩ := List.mem_iff_getElem?.1 h1
      obtain ⟨t, ht, e2, ha⟩ := M.under i x hi (by simpa using h2)
      refine List.mem_map.2 ⟨t, List.mem_filter.2 ⟨ht, ha⟩, ?_⟩
      rw [← e, M.num i x hi]
      exact e2
theorem act_len {S : Sm ρ} {list : List Run} {G : List Gh} (M : MI I ok S list G) : S.acts = actW list := by
  have := congrArg List.length (act_nums M)
  unfold openI at this
  rw [List.length_map, List.length_map] at this
  exact this
def Kp (S : Sm ρ) : Prop := ∀ t ∈ S.txs, keepB S.txs t = true
theorem keepB_forget (txs : List Tx) (t : Tx) : keepB (txs.filter (keepB txs)) t = keepB txs t := by
  unfold keepB
  congr 1
  rw [Bool.eq_iff_iff, List.any_eq_true, List.any_eq_true]
  constructor
  · rintro ⟨x, hx, h⟩
    exact ⟨x, (List.mem_filter.1 hx).1, h⟩
  · rintro ⟨x, hx, h⟩
    have h2 := (Bool.and_eq_true _ _).mp h
    exact ⟨x, List.mem_filter.2 ⟨hx, by rw [h2.1]; rfl⟩, h⟩
theorem Kp.forget (S : Sm ρ) : Kp (S.forget I) := by
  intro t ht
  show keepB (S.txs.filter (keepB S.txs)) t = true
  rw [keepB_forget]
  exact (List.mem_filter.1 ht).2
theorem Kp.gone (S : Sm ρ) (n : Int) : Kp (S.gone I n) := Kp.forget _
theorem keepB_map (txs : List Tx) (φ : Tx → Tx) (hφ : ∀ o, (φ o).act = o.act ∧ (φ o).begun = o.begun ∧ (φ o).ended = o.ended) (t : Tx) : keepB (txs.map φ) (φ t) = keepB txs t := by
  unfold keepB
  rw [(hφ t).1, List.any_map]
  congr 1
  congr 1
  funext a
  simp only [Function.comp]
  rw [(hφ a).1, (hφ a).2.1, (hφ t).2.2]
theorem Kp.put {S : Sm ρ} (h : Kp S) (t : Tx) (so : Tx → Bool) (out : Bool) : Kp (S.put I t so out).2 := by
  unfold Sm.put
  split
  · exact Kp.gone _ _
  · intro u hu
    obtain ⟨o, ho, e⟩ := List.mem_map.1 hu
    rw [← e]
    show keepB (S.txs.map _) _ = true
    rw [keepB_map S.txs (fun o => if o.num == t.num then (if S.txs.any (fun o => concB t o && so o) then setF o (!out) else o) else if concB t o && so o then setF o out else o) (fun o => by
      unfold setF
      split
      · split <;> exact ⟨rfl, rfl, rfl⟩
      · split <;> exact ⟨rfl, rfl, rfl⟩)]
    exact h o ho
theorem Kp.noteS {S : Sm ρ} (h : Kp S) (t : Tx) (x : Rd) (f u : ByteArray) : Kp (S.noteS I t x f u).2 := by
  unfold Sm.noteS
  split
  · exact Kp.gone _ _
  · exact Kp.put (show Kp { S with reads := (I.note S.reads t.num x).2 } from h) _ _ _
theorem Kp.read {S : Sm ρ} (h : Kp S) (tx : Int) (a : Lk) : Kp (S.read I tx a).2 := by
  unfold Sm.read
  split
  · exact h
  · split
    · exact h
    · exact h.noteS _ _ _ _
theorem Kp.scan {S : Sm ρ} (h : Kp S) (tx : Int) (tb f u : ByteArray) : Kp (S.scan I tx tb f u).2 := by
  unfold Sm.scan
  split
  · exact h
  · split
    · exact h
    · exact h.noteS _ _ _ _
theorem Kp.write {S : Sm ρ} (h : Kp S) (tx : Int) (a : Lk) (last : Int) : Kp (S.write I tx a last).2 := by
  unfold Sm.write
  split
  · exact h
  · split
    · exact h
    · split
      · exact h
      · split
        · exact Kp.gone _ _
        · split
          · exact Kp.gone _ _
          · rename_i t _ _ _ _ _
            exact Kp.put (show Kp { S with locks := (tk S.caps.locks S.locks tx t.snap last a).2 } from h) _ _ _
theorem Kp.abort {S : Sm ρ} (h : Kp S) (tx : Int) : Kp (S.abort I tx).2 := by
  unfold Sm.abort
  split
  · exact h
  · exact Kp.gone _ _
theorem Kp.commit {S : Sm ρ} (h : Kp S) (tx : Int) : Kp (S.commit I tx).2 := by
  unfold Sm.commit
  split
  · exact h
  · split
    · exact Kp.gone _ _
    · split
      · exact Kp.gone _ _
      · exact Kp.forget _
theorem Kp.begin {S : Sm ρ} (h : Kp S) : Kp S.begin.2 := by
  unfold Sm.begin
  split
  · exact h
  · intro t ht
    have key : ∀ o : Tx, keepB S.txs o = true → keepB (S.txs ++ [⟨S.last + 1, S.now, true, S.clock + 1, 0, false, false, []⟩]) o = true := fun o ho => by
      unfold keepB at ho ⊢
      rw [List.any_append]
      rw [Bool.or_eq_true] at ho ⊢
      rcases ho with ho | ho
      · exact .inl ho
      · exact .inr (by rw [ho]; rfl)
    rcases List.mem_append.1 ht with ht | ht
    · exact key t (h t ht)
    · rw [List.mem_singleton.1 ht]
      unfold keepB
      simp
end
end Go.Proofs.YthaoedfalkebbaaGreat
namespace Go.Proofs.YthaoedfalkebbaaGreat
set_option linter.unusedVariables false
set_option linter.unusedSectionVars false
set_option linter.unusedSimpArgs false
section
variable {ρ : Type} {I : RdI ρ} {ok : ρ → Prop} {most : Int}
theorem opAt_L (L : RdL I ok most) {W : Wld ρ} {G : List Gh} (M : MI I ok W.m W.list G) (s : SI W.list G W.vers W.m.now) (hn0 : 0 ≤ W.m.now) (hnm : W.m.now ≤ 4611686018427387904) {i : Nat} {x : Run} (hx : W.list[i]? = some x) (ho : x.over = false) (o : Opn) (ht : o.tx = (i : Int) + 1) :
    ((W.opAt I o i x).1 ≠ 0 ∧ ∃ S', Refused I ok S' W.m W.list G W.vers i x ∧ (W.opAt I o i x).2 = { W with m := S' }) ∨
    ((W.opAt I o i x).1 = 0 ∧ (o.kind = 1 ∨ o.kind = 2 ∨ o.kind = 3) ∧ ∃ G' S' x', (W.opAt I o i x).2 = { W with m := S', list := W.list.set i x' } ∧ MI I ok S' (W.list.set i x') G' ∧ SI (W.list.set i x') G' W.vers W.m.now ∧ Grow G G' ∧ S'.now = W.m.now ∧ S'.caps = W.m.caps ∧ x'.begun = x.begun ∧ x'.over = false ∧ x'.committed = false ∧ S'.txs.map (fun t => (t.num, t.act)) = W.m.txs.map (fun t => (t.num, t.act)) ∧ (S'.locks.length = W.m.locks.length ∨ S'.locks.length ≤ W.m.caps.locks)) ∨
    ((W.opAt I o i x).1 = 0 ∧ o.kind = 4 ∧ ∃ g, G[i]? = some g ∧ ∃ S', (W.opAt I o i x).2 = ⟨S', W.rows, commitV W.vers x.writes (if x.writes = [] then W.m.now else W.m.now + 1) i, W.list.set i { x with committed := true }, W.bad⟩ ∧ S' = (W.m.commit I ((i : Int) + 1)).2 ∧ S'.now = (if x.writes = [] then W.m.now else W.m.now + 1) ∧ S'.caps = W.m.caps ∧
      (∀ x', x'.tx = x.tx → x'.over = true → x'.committed = true → x'.writes = x.writes → x'.snap = x.snap → x'.reads = x.reads →
        MI I ok S' (W.list.set i x') (G.set i { g with ce := W.m.clock + 1 }) ∧ SI (W.list.set i x') (G.set i { g with ce := W.m.clock + 1 }) (commitV W.vers x.writes (if x.writes = [] then W.m.now else W.m.now + 1) i) (if x.writes = [] then W.m.now else W.m.now + 1))) ∨
    ((W.opAt I o i x).1 = 0 ∧ o.kind ≠ 1 ∧ o.kind ≠ 2 ∧ o.kind ≠ 3 ∧ o.kind ≠ 4 ∧ ∃ S', Refused I ok S' W.m W.list G W.vers i x ∧ (W.opAt I o i x).2 = { W with m := S' }) := by
  obtain ⟨hc, t, g, htm, hg, hnum, hact, hsn, hbg, hfi, hfo, hav⟩ := M.open_ hx ho
  have hw := M.locks i x hx ho
  have hset : W.list.set i x = W.list := by
    apply List.ext_getElem?
    intro j
    by_cases e : j = i
    · subst e; rw [set_at hx, hx]
    · rw [set_ne e]
  unfold Wld.opAt
  rw [ht]
  by_cases k1 : o.kind = 1
  · simp only [if_pos k1]
    unfold Sm.read
    rw [hav]
    simp only
    by_cases hh : holder W.m.locks o.at_ = some ((i : Int) + 1)
    · simp only [if_pos hh, if_true]
      have hin : o.at_ ∈ x.writes := by rw [← hw]; exact (holder_iff M.ldist).1 hh
      refine .inr (.inl ⟨trivial, .inl k1, G, W.m, x, ?_, by rw [hset]; exact M, by rw [hset]; exact s, Grow.refl G, rfl, rfl, rfl, ho, hc, rfl, .inl rfl⟩)
      unfold sees
      rw [if_pos hin]
    · simp only [if_neg hh]
      by_cases hin : o.at_ ∈ x.writes
      · exact absurd ((holder_iff M.ldist).2 (by rw [hw]; exact hin)) hh
      · rcases noteS_step L M s hx ho hav ⟨o.at_.1, 1, o.at_.2, ⟨#[]⟩⟩ o.at_.2 (o.at_.2 ++ ⟨#[0]⟩) [⟨o.at_, newest W.vers o.at_ x.snap⟩] (fun r hr => by rw [List.mem_singleton.1 hr]) (fun r hr => by rw [List.mem_singleton.1 hr]; exact ⟨rfl, inR_key _, hold_key _ _⟩) with ⟨h1, h2, _⟩ | ⟨h1, G', h2, h3, h4, h5, h6, h7, h8⟩
        · refine .inl ⟨h1, _, h2, ?_⟩
          rw [if_neg h1]
        · refine .inr (.inl ⟨h1, .inl k1, G', _, _, ?_, h2, h3, h4, h5, h6, rfl, ho, hc, h7, .inl (by rw [h8])⟩)
          rw [if_pos h1]
          unfold sees
          rw [if_neg hin]
  · simp only [if_neg k1]
    by_cases k2 : o.kind = 2
    · simp only [if_pos k2]
      unfold Sm.scan
      rw [hav]
      simp only
      by_cases hh : o.to_.toList ≠ [] ∧ Op.bytesLess o.at_.2.toList o.to_.toList = false
      · simp only [if_pos hh, if_true]
        refine .inr (.inl ⟨trivial, .inr (.inl k2), G, W.m, x, ?_, by rw [hset]; exact M, by rw [hset]; exact s, Grow.refl G, rfl, rfl, rfl, ho, hc, rfl, .inl rfl⟩)
        have : W.rows.filter (fun a => eqS a.1 o.at_.1 && inR a.2 o.at_.2 o.to_) = [] := by
          rw [List.filter_eq_nil_iff]
          intro a _
          rw [inR_none hh.1 hh.2]
          simp
        rw [this]
        rfl
      · simp only [if_neg hh]
        rw [sees_fold]
        obtain ⟨rs, hrs⟩ : ∃ rs, rs = ((W.rows.filter (fun a => eqS a.1 o.at_.1 && inR a.2 o.at_.2 o.to_)).filter (fun a => decide (a ∉ x.writes))).map (fun a => (⟨a, newest W.vers a x.snap⟩ : Sw)) := ⟨_, rfl⟩
        rw [← hrs]
        have hmem : ∀ r ∈ rs, r.saw = newest W.vers r.at_ x.snap ∧ eqS r.at_.1 o.at_.1 = true ∧ inR r.at_.2 o.at_.2 o.to_ = true := fun r hr => by
          rw [hrs] at hr
          obtain ⟨a, ha, rfl⟩ := List.mem_map.1 hr
          have h1 := (List.mem_filter.1 ha).1
          have h2 := (List.mem_filter.1 h1).2
          rw [Bool.and_eq_true] at h2
          exact ⟨rfl, h2⟩
        rcases noteS_step L M s hx ho hav ⟨o.at_.1, 2, o.at_.2, o.to_⟩ o.at_.2 o.to_ rs (fun r hr => (hmem r hr).1) (fun r hr => ⟨eqS_eq (hmem r hr).2.1, (hmem r hr).2.2, inR_hold (hmem r hr).2.2⟩) with ⟨h1, h2, _⟩ | ⟨h1, G', h2, h3, h4, h5, h6, h7, h8⟩
        · refine .inl ⟨h1, _, h2, ?_⟩
          rw [if_neg h1]
        · refine .inr (.inl ⟨h1, .inr (.inl k2), G', _, _, ?_, h2, h3, h4, h5, h6, rfl, ho, hc, h7, .inl (by rw [h8])⟩)
          rw [if_pos h1]
    · simp only [if_neg k2]
      by_cases k3 : o.kind = 3
      · simp only [if_pos k3]
        have hls := lastNum_spec s hnm o.at_
        have hlu : (if 0 ≤ newest W.vers o.at_ 4611686018427387904 then ((W.vers[(newest W.vers o.at_ 4611686018427387904).toNat]?).map (·.num)).getD 0 else 0) = lastNum W.vers o.at_ := rfl
        rw [hlu]
        rcases write_step L M s hx ho o.at_ (lastNum W.vers o.at_) hls.1 hls.2 with ⟨h1, h2⟩ | ⟨h1, h2, h3⟩ | ⟨h1, h2, G', h3, h4, h5, h6, h7, h8, h9, h10⟩
        · refine .inl ⟨h1, _, h2, ?_⟩
          rw [if_neg (fun q => h1 q.1)]
        · refine .inr (.inl ⟨h1, .inr (.inr k3), G, W.m, x, ?_, by rw [hset]; exact M, by rw [hset]; exact s, Grow.refl G, rfl, rfl, rfl, ho, hc, rfl, .inl rfl⟩)
          rw [if_neg (fun q => q.2 h2), h3, hset]
        · refine .inr (.inl ⟨h1, .inr (.inr k3), G', _, _, ?_, h3, h4, h5, h6, h7, rfl, ho, hc, h8, .inr (by rw [h9, List.length_append]; simp only [List.length_cons, List.length_nil]; omega)⟩)
          rw [if_pos ⟨h1, h2⟩]
      · simp only [if_neg k3]
        by_cases k4 : o.kind = 4
        · simp only [if_pos k4]
          rcases commit_step L M s hn0 hx ho with ⟨h1, h2⟩ | ⟨h1, h2, h3, h4, g', hg', h5⟩
          · rw [if_neg h1]
            exact .inl ⟨h1, _, h2, rfl⟩
          · rw [if_pos h1]
            refine .inr (.inr (.inl ⟨rfl, k4, g', hg', _, ?_, rfl, h3, h4, h5⟩))
            rw [h2, h3]
            simp
        · simp only [if_neg k4]
          unfold Sm.abort
          rw [hav]
          exact .inr (.inr (.inr ⟨rfl, k1, k2, k3, k4, _, refused_gone L M hx ho, rfl⟩))
/-- the world without what its moments say -/
structure WL (I : RdI ρ) (ok : ρ → Prop) (W : Wld ρ) (G : List Gh) (mom : Int) : Prop where
  mi : MI I ok W.m W.list G
  si : SI W.list G W.vers W.m.now
  good : W.bad = false
  now0 : 0 ≤ W.m.now
  nowm : W.m.now ≤ mom
  kp : Kp W.m
theorem WL.later {W : Wld ρ} {G : List Gh} {mom : Int} (w : WL I ok W G mom) : WL I ok W G (mom + 1) :=
  ⟨w.mi, w.si, w.good, w.now0, by have := w.nowm; omega, w.kp⟩
theorem opAt_Kp {W : Wld ρ} (h : Kp W.m) (o : Opn) (i : Nat) (x : Run) : Kp (W.opAt I o i x).2.m := by
  unfold Wld.opAt
  split
  · exact h.read _ _
  · split
    · exact h.scan _ _ _ _
    · split
      · exact h.write _ _ _
      · split
        · split
          · exact h.commit _
          · exact h.commit _
        · exact h.abort _
theorem step_Kp {W : Wld ρ} (h : Kp W.m) (o : Opn) (m : Int) : Kp (W.step I o m).2.m := by
  unfold Wld.step
  split
  · split
    · exact h.begin
    · exact h.begin
  · split
    · exact h
    · split
      · exact h
      · split
        · exact h
        · dsimp only
          split
          · exact opAt_Kp h _ _ _
          · exact opAt_Kp h _ _ _
theorem step_WL (L : RdL I ok most) {W : Wld ρ} {G : List Gh} {mom : Int} (w : WL I ok W G mom) (hm : mom ≤ 4611686018427387904) (o : Opn) (m : Int) : ∃ G', WL I ok (W.step I o m).2 G' (mom + 1) := by
  have hk := step_Kp (I := I) w.kp o m
  unfold Wld.step at hk ⊢
  by_cases k0 : o.kind = 0
  · rw [if_pos k0] at hk ⊢
    rcases begin_step w.mi w.si (x := ⟨W.m.begin.1.1, W.m.begin.1.2.1, m, 0, false, false, [], []⟩) with h
    by_cases hb : W.m.caps.active ≤ W.m.acts
    · have e : W.m.begin = ((0, 0, 4), W.m) := by unfold Sm.begin; rw [if_pos hb]
      rw [e]
      simp only
      rw [if_neg (by decide)]
      exact ⟨G, w.later⟩
    · have e : W.m.begin.1 = (W.m.last + 1, W.m.now, 0) := by unfold Sm.begin; rw [if_neg hb]
      have H := h (by rw [e]) rfl rfl rfl (by rw [e]) rfl
      rcases H with ⟨h1, _⟩ | ⟨h1, h2, h3, h4, h5⟩
      · rw [e] at h1; exact absurd rfl h1
      · rw [if_pos (by rw [e])] at hk ⊢
        refine ⟨_, h4, ?_, ?_, ?_, ?_, hk⟩
        · show SI _ _ W.vers W.m.begin.2.now
          rw [h2]; exact h5
        · show (W.bad || _) = false
          rw [w.good, h2, e]
          simp
        · show 0 ≤ W.m.begin.2.now
          rw [h2]; exact w.now0
        · show W.m.begin.2.now ≤ _
          rw [h2]; have := w.nowm; omega
  · rw [if_neg k0] at hk ⊢
    rcases ofR_cases W.list o.tx with ⟨hneg, _⟩ | ⟨i, x, e, hx, hxt, ho⟩
    · cases hl : W.list[(ofR W.list o.tx).toNat]? with
      | none => exact ⟨G, w.later⟩
      | some x => simp only [if_pos hneg]; exact ⟨G, w.later⟩
    · rw [e] at hk ⊢
      simp only [Int.toNat_natCast, hx] at hk ⊢
      rw [if_neg (by omega)] at hk ⊢
      by_cases kr : o.kind < 1 ∨ 5 < o.kind
      · rw [if_pos kr]; exact ⟨G, w.later⟩
      · rw [if_neg kr] at hk ⊢
        have htx : o.tx = (i : Int) + 1 := by rw [← hxt]; exact w.mi.num i x hx
        have hmod : ∀ S' : Sm ρ, ({ W with m := S' } : Wld ρ).list.modify i (fun x => overR x m) = W.list.set i (overR x m) := fun S' => modify_set hx _
        have ref : ∀ S' : Sm ρ, Refused I ok S' W.m W.list G W.vers i x → Kp S' → WL I ok ⟨S', W.rows, W.vers, W.list.set i (overR x m), W.bad⟩ G (mom + 1) := fun S' R hK => by
          have hc := (w.mi.open_ hx ho).1
          refine ⟨R.mi (overR x m) rfl rfl hc rfl, ?_, w.good, by show 0 ≤ S'.now; rw [R.now]; exact w.now0, by show S'.now ≤ _; rw [R.now]; have := w.nowm; omega, hK⟩
          show SI _ _ _ S'.now
          rw [R.now]
          exact w.si.gone hx hc hc rfl rfl rfl
        rcases opAt_L L w.mi w.si w.now0 (by have := w.nowm; omega) hx ho o htx with ⟨h1, S', R, h2⟩ | ⟨h1, hkk, G', S', x', h2, h3, h4, h5, h6, h7, h8, h9, h10, _⟩ | ⟨h1, hkk, g, hg, S', h2, h3, h4, h5, h6⟩ | ⟨h1, _, _, _, k4, S', R, h2⟩
        · rw [if_pos (.inl h1), h2, hmod] at hk ⊢
          exact ⟨G, ref S' R hk⟩
        · have hno : ¬ ((W.opAt I o i x).1 ≠ 0 ∨ o.kind = 4 ∨ o.kind = 5) := by
            rw [h1]
            omega
          rw [if_neg hno, h2] at hk ⊢
          exact ⟨G', h3, by show SI _ _ _ S'.now; rw [h6]; exact h4, w.good, by show 0 ≤ S'.now; rw [h6]; exact w.now0, by show S'.now ≤ _; rw [h6]; have := w.nowm; omega, hk⟩
        · rw [if_pos (.inr (.inl hkk)), h2] at hk ⊢
          have hx2 : (W.list.set i { x with committed := true })[i]? = some { x with committed := true } := set_at hx
          have e2 : (W.list.set i { x with committed := true }).modify i (fun x => overR x m) = W.list.set i (overR { x with committed := true } m) := by
            rw [modify_set hx2, List.set_set]
          show ∃ G', WL I ok ⟨S', W.rows, _, (W.list.set i { x with committed := true }).modify i (fun x => overR x m), W.bad⟩ G' (mom + 1)
          rw [e2]
          obtain ⟨m1, m2⟩ := h6 (overR { x with committed := true } m) rfl rfl rfl rfl rfl rfl
          refine ⟨_, m1, by show SI _ _ _ S'.now; rw [h4]; exact m2, w.good, ?_, ?_, hk⟩
          · show 0 ≤ S'.now
            rw [h4]; have := w.now0; split <;> omega
          · show S'.now ≤ mom + 1
            rw [h4]; have := w.nowm; split <;> omega
        · have h5 : o.kind = 5 := by
            simp only [not_or] at kr
            obtain ⟨_, k1', k2', k3', _⟩ : True ∧ o.kind ≠ 1 ∧ o.kind ≠ 2 ∧ o.kind ≠ 3 ∧ True := ⟨trivial, by assumption, by assumption, by assumption, trivial⟩
            omega
          rw [if_pos (.inr (.inr h5)), h2, hmod] at hk ⊢
          exact ⟨G, ref S' R hk⟩
end
end Go.Proofs.YthaoedfalkebbaaGreat
namespace Go.Proofs.YthaoedfalkebbaaGreat
set_option linter.unusedVariables false
set_option linter.unusedSectionVars false
set_option linter.unusedSimpArgs false
section
variable {ρ : Type} {I : RdI ρ} {ok : ρ → Prop} {most : Int}
/-- at most one is under way; nothing else is there -/
def Al (S : Sm ρ) : Prop := S.txs = [] ∨ ∃ t, S.txs = [t] ∧ t.act = true ∧ t.fin = false ∧ t.fout = false ∧ t.snap = S.now ∧ 1 ≤ t.num
theorem conc_self (t : Tx) : concB t t = false := by unfold concB; simp
theorem gone_one {S : Sm ρ} {t : Tx} (h : S.txs = [t]) : (S.gone I t.num).txs = [] := by
  unfold Sm.gone Sm.forget
  simp [h]
theorem put_one {S : Sm ρ} {t : Tx} (h : S.txs = [t]) (h1 : t.fin = false) (h2 : t.fout = false) (so : Tx → Bool) (out : Bool) : S.put I t so out = (0, S) := by
  unfold Sm.put
  have e : S.txs.any (fun o => concB t o && so o) = false := by rw [h]; simp [conc_self]
  have e2 : S.txs.any (fun o => (concB t o && so o) && (!o.act && bothB o.fin o.fout out (!out))) = false := by rw [h]; simp [conc_self]
  rw [e, e2]
  have e3 : bothB t.fin t.fout (!out && false) (out && false) = false := by unfold bothB; rw [h1, h2]; simp
  rw [e3]
  simp only [Bool.or_false, Bool.false_eq_true, if_false]
  have e4 : S.txs.map (fun o => if o.num == t.num then o else if concB t o && so o then setF o out else o) = S.txs := by rw [h]; simp
  rw [e4]
def FullOr (e : Int) : Prop := e = 0 ∨ e = 4
theorem noteS_one (L : RdL I ok most) {S : Sm ρ} {t : Tx} (hr : ok S.reads) (h : S.txs = [t]) (ha : t.act = true) (h1 : t.fin = false) (h2 : t.fout = false) (hs : t.snap = S.now) (hn : 1 ≤ t.num) (x : Rd) (hx : mayB x = true) (f u : ByteArray) :
    FullOr (S.noteS I t x f u).1 ∧ Al (S.noteS I t x f u).2 := by
  unfold Sm.noteS
  split
  · rename_i e
    refine ⟨?_, .inl (gone_one h)⟩
    rcases L.note_err _ t.num x hr hn hx with e2 | e2
    · exact absurd e2 e
    · exact .inr e2
  · rw [put_one (S := { S with reads := (I.note S.reads t.num x).2 }) h h1 h2]
    exact ⟨.inl rfl, .inr ⟨t, h, ha, h1, h2, hs, hn⟩⟩
theorem op_one (L : RdL I ok most) {W : Wld ρ} {G : List Gh} {mom : Int} (w : WL I ok W G mom) (hm : mom ≤ 4611686018427387904) (hA : Al W.m) (hcap : 0 ≤ W.m.caps.kept) {i : Nat} {x : Run} (hx : W.list[i]? = some x) (ho : x.over = false) (o : Opn) (ht : o.tx = (i : Int) + 1) :
    FullOr (W.opAt I o i x).1 ∧ Al (W.opAt I o i x).2.m ∧ (o.kind = 4 → (W.opAt I o i x).1 = 0) := by
  obtain ⟨hc, t0, g, ht0, hg, hnum, hact, hsn, hbg, hfi, hfo, hav⟩ := w.mi.open_ hx ho
  rcases hA with hA | ⟨t, hA, ha, h1, h2, hs, hn⟩
  · rw [hA] at ht0; cases ht0
  · have e : t0 = t := by rw [hA] at ht0; exact List.mem_singleton.1 ht0
    subst e
    have hAl : Al W.m := .inr ⟨t0, hA, ha, h1, h2, hs, hn⟩
    have hacts : W.m.acts = 1 := by unfold Sm.acts; rw [hA]; simp [ha]
    unfold Wld.opAt
    rw [ht]
    split
    · rename_i k1
      refine ⟨?_, ?_, fun h => by omega⟩ <;> dsimp only <;> unfold Sm.read <;> rw [hav] <;> dsimp only <;> split
      · exact .inl rfl
      · exact (noteS_one L w.mi.okr hA ha h1 h2 hs hn _ (by unfold mayB; simp) _ _).1
      · exact hAl
      · exact (noteS_one L w.mi.okr hA ha h1 h2 hs hn _ (by unfold mayB; simp) _ _).2
    · split
      · rename_i k1 k2
        have hmay : ¬ (o.to_.toList ≠ [] ∧ Op.bytesLess o.at_.2.toList o.to_.toList = false) → mayB ⟨o.at_.1, 2, o.at_.2, o.to_⟩ = true := fun h => by
          unfold mayB
          simp only [show ¬ (2 : Int) = 3 by decide, show ¬ (2 : Int) = 1 by decide, if_false, if_true]
          by_cases e1 : o.to_.toList = []
          · simp [e1]
          · cases e2 : Op.bytesLess o.at_.2.toList o.to_.toList with
            | true => simp
            | false => exact absurd ⟨e1, e2⟩ h
        refine ⟨?_, ?_, fun h => by omega⟩ <;> dsimp only <;> unfold Sm.scan <;> rw [hav] <;> dsimp only <;> split
        · exact .inl rfl
        · rename_i hno
          exact (noteS_one L w.mi.okr hA ha h1 h2 hs hn _ (hmay hno) _ _).1
        · exact hAl
        · rename_i hno
          exact (noteS_one L w.mi.okr hA ha h1 h2 hs hn _ (hmay hno) _ _).2
      · split
        · rename_i k1 k2 k3
          have hls : (0 ≤ lastNum W.vers o.at_) ∧ lastNum W.vers o.at_ ≤ W.m.now := by
            refine ⟨(lastNum_spec w.si (by have := w.nowm; omega) o.at_).1, ?_⟩
            unfold lastNum
            split
            · cases hv : W.vers[(newest W.vers o.at_ 4611686018427387904).toNat]? with
              | none => exact w.now0
              | some v =>
                obtain ⟨_, _, _, _, _, _, _, h6, _⟩ := w.si.vby v (List.mem_of_getElem? hv)
                exact h6
            · exact w.now0
          have key : FullOr (W.m.write I ((i : Int) + 1) o.at_ (lastNum W.vers o.at_)).1 ∧ Al (W.m.write I ((i : Int) + 1) o.at_ (lastNum W.vers o.at_)).2 := by
            unfold Sm.write
            rw [hav]
            dsimp only
            rw [if_neg (by omega)]
            split
            · exact ⟨.inl rfl, hAl⟩
            · rename_i hhold
              have hnone : holder W.m.locks o.at_ = none := by
                cases hh : holder W.m.locks o.at_ with
                | none => rfl
                | some z =>
                  exfalso
                  apply hhold
                  unfold holder at hh
                  cases hf : W.m.locks.find? (fun p => decide (p.1 = o.at_)) with
                  | none => rw [hf] at hh; cases hh
                  | some p =>
                    rw [hf] at hh
                    have hz : p.2 = z := by injection hh
                    obtain ⟨j, y, q1, q2, q3⟩ := w.mi.lown p (List.mem_of_find?_eq_some hf)
                    obtain ⟨u, hu, eu, _⟩ := w.mi.under j y q1 q2
                    rw [hA] at hu
                    rw [List.mem_singleton.1 hu] at eu
                    unfold holder
                    rw [hf]
                    show some p.2 = _
                    rw [q3, ← eu, hnum]
              have htk : (tk W.m.caps.locks W.m.locks ((i : Int) + 1) t0.snap (lastNum W.vers o.at_) o.at_).1 = 0 ∨ (tk W.m.caps.locks W.m.locks ((i : Int) + 1) t0.snap (lastNum W.vers o.at_) o.at_).1 = 4 := by
                unfold tk
                rw [hnone]
                dsimp only
                rw [if_neg (by omega)]
                split
                · exact .inr rfl
                · exact .inl rfl
              have hgone : ∀ L', (Sm.gone I { W.m with locks := L' } ((i : Int) + 1)).txs = [] := fun L' => by
                rw [← hnum]
                exact gone_one (S := { W.m with locks := L' }) hA
              split
              · rename_i e
                refine ⟨?_, .inl (hgone W.m.locks)⟩
                rcases htk with e2 | e2
                · exact absurd e2 e
                · exact .inr e2
              · rw [if_neg (by rw [hA]; simp [conc_self])]
                rw [put_one (S := { W.m with locks := (tk W.m.caps.locks W.m.locks ((i : Int) + 1) t0.snap (lastNum W.vers o.at_) o.at_).2 }) hA h1 h2]
                exact ⟨.inl rfl, .inr ⟨t0, hA, ha, h1, h2, hs, hn⟩⟩
          exact ⟨key.1, key.2, fun h => by omega⟩
        · split
          · rename_i k4
            have hcom : (W.m.commit I ((i : Int) + 1)).1.2 = 0 ∧ (W.m.commit I ((i : Int) + 1)).2.txs = [] := by
              unfold Sm.commit
              rw [hav]
              dsimp only
              rw [h1, h2, hacts]
              simp only [Bool.false_and, Bool.false_eq_true, if_false]
              rw [if_neg (by simp)]
              refine ⟨rfl, ?_⟩
              rw [if_pos (.inl trivial)]
              unfold Sm.forget Sm.ends
              simp [hA, hnum]
            rw [if_pos hcom.1]
            exact ⟨.inl rfl, .inl hcom.2, fun _ => rfl⟩
          · rename_i k4
            have hab : W.m.abort I ((i : Int) + 1) = (0, W.m.gone I ((i : Int) + 1)) := by
              unfold Sm.abort
              rw [hav]
            rw [hab]
            refine ⟨.inl rfl, .inl ?_, fun h => absurd h k4⟩
            show (W.m.gone I ((i : Int) + 1)).txs = []
            rw [← hnum]
            exact gone_one hA
theorem begin_one {S : Sm ρ} (h : S.txs = []) (hc : 1 ≤ S.caps.active) (hl : 0 ≤ S.last) : S.begin.1.2.2 = 0 ∧ Al S.begin.2 := by
  unfold Sm.begin
  have : S.acts = 0 := by unfold Sm.acts; rw [h]; rfl
  rw [if_neg (by omega)]
  exact ⟨rfl, .inr ⟨_, by rw [h]; rfl, rfl, rfl, rfl, rfl, by show 1 ≤ S.last + 1; omega⟩⟩
end
end Go.Proofs.YthaoedfalkebbaaGreat
namespace Go.Proofs.YthaoedfalkebbaaGreat
set_option linter.unusedVariables false
set_option linter.unusedSectionVars false
set_option linter.unusedSimpArgs false
section
variable {ρ : Type} {I : RdI ρ} {ok : ρ → Prop} {most : Int}
structure NR (I : RdI ρ) (ok : ρ → Prop) (S : Sm ρ) : Prop where
  okr : ok S.reads
  none : ∀ n, I.has S.reads n = false
  flags : ∀ t ∈ S.txs, t.fin = false ∧ t.fout = false
  pos : ∀ t ∈ S.txs, 1 ≤ t.num
  last : 0 ≤ S.last
theorem NR.forget (L : RdL I ok most) {S : Sm ρ} (h : NR I ok S) : NR I ok (S.forget I) := by
  have hpos : ∀ t ∈ S.txs.filter (fun t => !keepB S.txs t), 1 ≤ t.num := fun t ht => h.pos t (List.mem_filter.1 ht).1
  refine ⟨drops_ok L _ _ h.okr, fun n => ?_, fun t ht => h.flags t (List.mem_filter.1 ht).1, fun t ht => h.pos t (List.mem_filter.1 ht).1, h.last⟩
  cases hn : I.has (S.forget I).reads n with
  | false => rfl
  | true =>
    have := (drops_has L _ _ n h.okr hpos hn).1
    rw [h.none n] at this
    cases this
theorem NR.gone (L : RdL I ok most) {S : Sm ρ} (h : NR I ok S) {n : Int} (hn : 1 ≤ n) : NR I ok (S.gone I n) := by
  unfold Sm.gone
  refine NR.forget L ⟨L.drop_ok _ _ h.okr, fun m => ?_, fun t ht => h.flags t (List.mem_filter.1 ht).1, fun t ht => h.pos t (List.mem_filter.1 ht).1, h.last⟩
  cases hm : I.has (I.drop S.reads n) m with
  | false => rfl
  | true =>
    have := (L.drop_has _ _ _ h.okr hn hm).1
    rw [h.none m] at this
    cases this
theorem NR.locks {S : Sm ρ} (h : NR I ok S) (l : List (Lk × Int)) : NR I ok { S with locks := l } := ⟨h.okr, h.none, h.flags, h.pos, h.last⟩
theorem NR.begin {S : Sm ρ} (h : NR I ok S) : NR I ok S.begin.2 ∧ S.begin.1.2.2 ≠ 100 := by
  unfold Sm.begin
  split
  · exact ⟨h, by simp⟩
  · refine ⟨⟨h.okr, h.none, fun t ht => ?_, fun t ht => ?_, ?_⟩, by simp⟩
    · rcases List.mem_append.1 ht with ht | ht
      · exact h.flags t ht
      · rw [List.mem_singleton.1 ht]; exact ⟨rfl, rfl⟩
    · rcases List.mem_append.1 ht with ht | ht
      · exact h.pos t ht
      · have := h.last
        rw [List.mem_singleton.1 ht]; show 1 ≤ S.last + 1; omega
    · have := h.last
      show 0 ≤ S.last + 1
      omega
theorem NR.abort (L : RdL I ok most) {S : Sm ρ} (h : NR I ok S) (tx : Int) : NR I ok (S.abort I tx).2 ∧ (S.abort I tx).1 ≠ 100 := by
  unfold Sm.abort
  cases hv : S.actv tx with
  | none => exact ⟨h, by simp⟩
  | some t =>
    have e := List.find?_some hv
    have hm := h.pos t (List.mem_of_find?_eq_some hv)
    simp only [Bool.and_eq_true, beq_iff_eq] at e
    exact ⟨h.gone L (by omega), by simp⟩
theorem NR.commit (L : RdL I ok most) {S : Sm ρ} (h : NR I ok S) (tx : Int) : NR I ok (S.commit I tx).2 ∧ (S.commit I tx).1.2 ≠ 100 := by
  unfold Sm.commit
  cases hv : S.actv tx with
  | none => exact ⟨h, by simp⟩
  | some t =>
    have e := List.find?_some hv
    have htm := List.mem_of_find?_eq_some hv
    have hm := h.pos t htm
    simp only [Bool.and_eq_true, beq_iff_eq] at e
    dsimp only
    rw [(h.flags t htm).1]
    simp only [Bool.false_and, Bool.false_eq_true, if_false]
    split
    · exact ⟨h.gone L (by omega), by simp⟩
    · refine ⟨NR.forget L ?_, by simp⟩
      have hE : NR I ok (S.ends tx) := by
        refine ⟨h.okr, h.none, fun u hu => ?_, fun u hu => ?_, h.last⟩
        · obtain ⟨o, ho, rfl⟩ := List.mem_map.1 hu
          split
          · exact h.flags o ho
          · exact h.flags o ho
        · obtain ⟨o, ho, rfl⟩ := List.mem_map.1 hu
          split
          · exact h.pos o ho
          · exact h.pos o ho
      split
      · refine ⟨L.drop_ok _ _ h.okr, fun m => ?_, fun u hu => hE.flags u (List.mem_filter.1 hu).1, fun u hu => hE.pos u (List.mem_filter.1 hu).1, h.last⟩
        cases hh : I.has (I.drop S.reads tx) m with
        | false => rfl
        | true =>
          have := (L.drop_has _ _ _ h.okr (by omega) hh).1
          rw [h.none m] at this
          cases this
      · exact hE
theorem put_none (S : Sm ρ) (t : Tx) (out : Bool) (h1 : t.fin = false) (so : Tx → Bool) (hso : ∀ o, so o = false) : S.put I t so out = (0, { S with txs := S.txs.map (fun o => if o.num == t.num then o else o) }) ∨ S.put I t so out = (0, S) := by
  refine .inr ?_
  unfold Sm.put
  have e : S.txs.any (fun o => concB t o && so o) = false := by
    rw [List.any_eq_false]
    intro o _
    rw [hso o]
    simp
  have e2 : S.txs.any (fun o => (concB t o && so o) && (!o.act && bothB o.fin o.fout out (!out))) = false := by
    rw [List.any_eq_false]
    intro o _
    rw [hso o]
    simp
  rw [e, e2]
  have e3 : bothB t.fin t.fout (!out && false) (out && false) = false := by unfold bothB; rw [h1]; simp
  rw [e3]
  simp only [Bool.or_false, Bool.false_eq_true, if_false]
  have e4 : S.txs.map (fun o => if o.num == t.num then o else if concB t o && so o then setF o out else o) = S.txs := by
    conv => rhs; rw [← List.map_id S.txs]
    apply List.map_congr_left
    intro o _
    rw [hso o]
    simp
  rw [e4]
theorem NR.write (L : RdL I ok most) {S : Sm ρ} (h : NR I ok S) (tx : Int) (a : Lk) (last : Int) : NR I ok (S.write I tx a last).2 ∧ (S.write I tx a last).1 ≠ 100 := by
  unfold Sm.write
  cases hv : S.actv tx with
  | none => exact ⟨h, by simp⟩
  | some t =>
    have e := List.find?_some hv
    have htm := List.mem_of_find?_eq_some hv
    have hm := h.pos t htm
    simp only [Bool.and_eq_true, beq_iff_eq] at e
    dsimp only
    split
    · exact ⟨h, by simp⟩
    · split
      · exact ⟨h, by simp⟩
      · split
        · refine ⟨h.gone L (by omega), ?_⟩
          unfold tk
          split
          · split <;> simp
          · split
            · simp
            · split <;> simp
        · split
          · exact ⟨(h.locks _).gone L (by omega), by simp⟩
          · have hr : ∀ n, n ∉ I.rdrs S.reads a.1 a.2 := fun n hn => by
              have := L.rdrs_has _ _ _ _ h.okr hn
              rw [h.none n] at this
              cases this
            rcases put_none (I := I) { S with locks := (tk S.caps.locks S.locks tx t.snap last a).2 } t false (h.flags t htm).1 (fun o => decide (o.num ∈ I.rdrs S.reads a.1 a.2)) (fun o => decide_eq_false (hr _)) with e2 | e2
            · rw [e2]
              refine ⟨⟨h.okr, h.none, ?_, ?_, h.last⟩, by simp⟩
              · intro u hu
                obtain ⟨o, ho, rfl⟩ := List.mem_map.1 hu
                split <;> exact h.flags o ho
              · intro u hu
                obtain ⟨o, ho, rfl⟩ := List.mem_map.1 hu
                split <;> exact h.pos o ho
            · rw [e2]
              exact ⟨h.locks _, by simp⟩
theorem NR.step (L : RdL I ok most) {W : Wld ρ} (h : NR I ok W.m) (o : Opn) (m : Int) (hk : o.kind ≠ 1 ∧ o.kind ≠ 2) : NR I ok (W.step I o m).2.m ∧ (W.step I o m).1 ≠ 100 := by
  unfold Wld.step
  split
  · obtain ⟨h1, h2⟩ := h.begin
    split
    · exact ⟨h1, by simp⟩
    · exact ⟨h1, h2⟩
  · split
    · exact ⟨h, by simp⟩
    · split
      · exact ⟨h, by simp⟩
      · split
        · exact ⟨h, by simp⟩
        · rename_i x hx hneg hkind
          have key : NR I ok (W.opAt I o (ofR W.list o.tx).toNat x).2.m ∧ (W.opAt I o (ofR W.list o.tx).toNat x).1 ≠ 100 := by
            unfold Wld.opAt
            rw [if_neg hk.1, if_neg hk.2]
            split
            · exact ⟨(h.write L _ _ _).1, (h.write L _ _ _).2⟩
            · split
              · split
                · exact ⟨(h.commit L _).1, by simp⟩
                · exact ⟨(h.commit L _).1, (h.commit L _).2⟩
              · exact ⟨(h.abort L _).1, (h.abort L _).2⟩
          dsimp only
          split
          · exact key
          · exact key
end
end Go.Proofs.YthaoedfalkebbaaGreat
namespace Go.Proofs.YthaoedfalkebbaaGreat
set_option linter.unusedVariables false
set_option linter.unusedSectionVars false
set_option linter.unusedSimpArgs false
section
variable {ρ : Type} {I : RdI ρ} {ok : ρ → Prop} {most : Int}
theorem put_nil (S : Sm ρ) (t : Tx) (out : Bool) (h1 : t.fin = false ∨ t.fout = false) (so : Tx → Bool) (hso : ∀ o ∈ S.txs, so o = false) : S.put I t so out = (0, S) := by
  unfold Sm.put
  have e : S.txs.any (fun o => concB t o && so o) = false := by
    rw [List.any_eq_false]
    intro o ho
    rw [hso o ho]
    simp
  have e2 : S.txs.any (fun o => (concB t o && so o) && (!o.act && bothB o.fin o.fout out (!out))) = false := by
    rw [List.any_eq_false]
    intro o ho
    rw [hso o ho]
    simp
  rw [e, e2]
  have e3 : bothB t.fin t.fout (!out && false) (out && false) = false := by unfold bothB; rcases h1 with h1 | h1 <;> rw [h1] <;> simp
  rw [e3]
  simp only [Bool.or_false, Bool.false_eq_true, if_false]
  have e4 : S.txs.map (fun o => if o.num == t.num then o else if concB t o && so o then setF o out else o) = S.txs := by
    conv => rhs; rw [← List.map_id S.txs]
    apply List.map_congr_left
    intro o ho
    rw [hso o ho]
    simp
  rw [e4]
end
end Go.Proofs.YthaoedfalkebbaaGreat
