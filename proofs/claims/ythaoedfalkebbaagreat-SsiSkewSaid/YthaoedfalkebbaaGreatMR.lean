import Derived.Test.YthaoedfalkebbaaGreatMQ
import Derived.OwnWalk
import Derived.Laws.Rows
namespace Go.Proofs.YthaoedfalkebbaaGreat
open Go.RowKit Go.Maps Go.Sort Go.Lib Go.Shelf Go.Proofs.YthaoedfalkebbaaGreatW.PrintWords Go.Proofs.YthaoedfalkebbaaGreatW.PrintLast Go.Proofs.YthaoedfalkebbaaGreatW.PrintMore
set_option linter.unusedVariables false
set_option linter.unusedSimpArgs false
set_option linter.unusedSectionVars false
/-! ### New -/
set_option maxRecDepth 100000 in
theorem New36 (most : Int) (w : World) (h1 : 1 ≤ most) (h2 : most ≤ 4096) : Calls Tryz.prog 36 #[.int .i64 most] w fun e w' => e = .returned (.tuple #[ptr (w.heap.size + 1), .int .i64 0]) ∧ Lck.Mg w' (w.heap.size + 1) w.heap.size most [] ∧ Below w.heap.size w w' ∧ w'.heap.size = w.heap.size + 2 ∧ ∃ c s, w'.heap[w.heap.size + 1]? = some (.cells c 147 s) := by
  have hmm := @run_makeMap Tryz.prog
  go_enter Tryz.func36, Tryz.ntmps36
  go_wp2
  go_ret2
  refine ⟨rfl, ⟨?_, ?_, (Lck.Tab.made w).kept (World.grownBy_alloc _ _ none) (by simp)⟩, ((Below.refl _ w).alloc (Nat.le_refl _) _).alloc (by simp) _, by simp [go_sem], ?_⟩
  · simp [go_sem]
  · simp [go_sem]
  · have := heap_alloc_new (w.alloc (.map #[] 0)) (.cells #[.int .i64 most, .map (some w.heap.size)] 147)
    exact ⟨_, _, by simpa using this⟩
def mayC (c : Cp) : Bool := decide (1 ≤ c.active) && decide (c.active ≤ 64) && decide (0 ≤ c.kept) && decide (c.kept ≤ 1024) && decide (1 ≤ c.reads) && decide (c.reads ≤ 65536) && decide (1 ≤ c.locks) && decide (c.locks ≤ 4096)
def S0 (c : Cp) (now : Int) : Sm St := ⟨c, now, 0, 0, [], [], St0⟩
theorem Cap.start (c : Cp) (now : Int) (hc : mayC c = true) (h0 : 0 ≤ now) : Cap (S0 c now) 0 now := by
  unfold mayC at hc
  simp only [Bool.and_eq_true, decide_eq_true_eq] at hc
  obtain ⟨⟨⟨⟨⟨⟨⟨h1, h2⟩, h3⟩, h4⟩, h5⟩, h6⟩, h7⟩, h8⟩ := hc
  constructor
  · exact ⟨h1, h2, h3, h4, h5, h6, h7, h8⟩
  · show ((0 : Nat) : Int) ≤ c.active
    omega
  · show ((0 : Nat) : Int) ≤ c.kept
    omega
  · show ((0 : Nat) : Int) ≤ c.locks
    omega
  · show (0 : Int) ≤ 0 ∧ (0 : Int) ≤ 0
    omega
  · show (0 : Int) ≤ 0 ∧ (0 : Int) ≤ 0
    omega
  · show 0 ≤ now ∧ now ≤ now + 0
    omega
  · intro t ht; cases ht
  · exact List.Pairwise.nil
def Cp.cells (c : Cp) : Array Value := #[.int .i64 c.active, .int .i64 c.kept, .int .i64 c.reads, .int .i64 c.locks]
set_option maxHeartbeats 16000000 in
set_option maxRecDepth 100000 in
theorem New_no (c : Cp) (now : Int) (w : World) (h : (mayC c && decide (0 ≤ now)) = false) :
    Calls Tryz.prog 12 #[.agg c.cells, .int .i64 now] w fun e w' => e = .returned (.tuple #[.pointer none, .int .i64 1]) ∧ Below w.heap.size w w' := by
  obtain ⟨ac, kp, rd, lk⟩ := c
  unfold Cp.cells
  dsimp only
  obtain ⟨w1, hw1⟩ : ∃ w1, w1 = w.alloc (.cells #[.int .i64 ac, .int .i64 kp, .int .i64 rd, .int .i64 lk] 31) := ⟨_, rfl⟩
  have B1 : Below w.heap.size w w1 := by rw [hw1]; exact (Below.refl _ w).alloc (Nat.le_refl _) _
  have b0 : w1.cell? ⟨w.heap.size, 0, none⟩ = some (.int .i64 ac) := by rw [hw1]; simp [go_sem]
  have b1 : w1.cell? ⟨w.heap.size, 1, none⟩ = some (.int .i64 kp) := by rw [hw1]; simp [go_sem]
  have b2 : w1.cell? ⟨w.heap.size, 2, none⟩ = some (.int .i64 rd) := by rw [hw1]; simp [go_sem]
  have b3 : w1.cell? ⟨w.heap.size, 3, none⟩ = some (.int .i64 lk) := by rw [hw1]; simp [go_sem]
  by_cases h0 : ac < 1 ∨ 64 < ac ∨ kp < 0 ∨ 1024 < kp ∨ now < 0
  · clear h
    go_enter Tryz.func12, Tryz.ntmps12
    go_upto_region 1 with (fail)
    rw [← hw1]
    clear hw1
    go_wp2
    all_goals first | omega | skip
    all_goals (go_ret2; exact ⟨rfl, B1⟩)
  · simp only [not_or, Int.not_lt] at h0
    obtain ⟨g1, g2, g3, g4, g5⟩ := h0
    by_cases hl : lk < 1 ∨ 4096 < lk
    · have N := Lck.New_bad lk w1 hl
      clear h hl
      go_enter Tryz.func12, Tryz.ntmps12
      go_upto_region 1 with (fail)
      rw [← hw1]
      clear hw1
      go_wp2_with (go_at_call 36; refine N.mono ?_; rintro e w' ⟨rfl, rfl⟩)
      all_goals first | omega | skip
      all_goals (go_ret2; exact ⟨rfl, B1⟩)
    · simp only [not_or, Int.not_lt] at hl
      have N := New36 lk w1 hl.1 hl.2
      have hr : rd < 1 ∨ 65536 < rd := by
        unfold mayC at h
        have k1 : decide (1 ≤ ac) = true := decide_eq_true g1
        have k2 : decide (ac ≤ 64) = true := decide_eq_true g2
        have k3 : decide (0 ≤ kp) = true := decide_eq_true g3
        have k4 : decide (kp ≤ 1024) = true := decide_eq_true g4
        have k5 : decide (0 ≤ now) = true := decide_eq_true g5
        have k6 : decide (1 ≤ lk) = true := decide_eq_true hl.1
        have k7 : decide (lk ≤ 4096) = true := decide_eq_true hl.2
        simp only [k1, k2, k3, k4, k5, k6, k7, Bool.true_and, Bool.and_true, Bool.and_eq_false_iff, decide_eq_false_iff_not] at h
        omega
      have N2 := fun w2 => New_bad rd w2 hr
      clear h hr hl
      go_enter Tryz.func12, Tryz.ntmps12
      go_upto_region 1 with (fail)
      rw [← hw1]
      clear hw1
      go_upto_region 6 with (go_at_call 36; refine N.mono ?_; rintro e w2 ⟨rfl, -, B2, -, -⟩)
      have e2 : w2.cell? ⟨w.heap.size, 2, none⟩ = some (.int .i64 rd) := below_cell B2 b2
      have N2 := N2 w2
      clear N b0 b1 b2 b3
      go_wp2_with (go_at_call 37; refine N2.mono ?_; rintro e w3 ⟨rfl, rfl⟩)
      all_goals (go_ret2; exact ⟨rfl, below_then B1 B1.size B2⟩)
end Go.Proofs.YthaoedfalkebbaaGreat
namespace Go.Proofs.YthaoedfalkebbaaGreat
open Go.RowKit Go.Maps Go.Sort Go.Lib Go.Shelf Go.Proofs.YthaoedfalkebbaaGreatW.PrintWords Go.Proofs.YthaoedfalkebbaaGreatW.PrintLast Go.Proofs.YthaoedfalkebbaaGreatW.PrintMore
set_option linter.unusedVariables false
set_option linter.unusedSimpArgs false
set_option linter.unusedSectionVars false
/-! ### New, a manager -/
theorem Pm.made {w2 w3 W : World} {base lp lb rp rb : Nat} {c : Cp} {now : Int} (F : Nat → Prop) (hL : Lck.Mg w2 lp lb c.locks []) (hk : ∃ cs s, w2.heap[lp]? = some (.cells cs 147 s)) (B3 : Below w2.heap.size w2 w3) (hR : MrS w3 base rp rb c.reads St0) (h2 : w2.heap.size ≤ rp) (h2b : w2.heap.size ≤ rb) (hbase : base ≤ lp ∧ base ≤ lb ∧ base ≤ w3.heap.size)
    (hW : W = (w3.alloc (.map #[] 0)).alloc (hdCells (S0 c now) w3.heap.size lp rp)) : Pm W base ⟨w3.heap.size + 1, w3.heap.size, lp, lb, rp, rb, fun _ => 0, F⟩ (S0 c now) := by
  have lb2 : lb < w2.heap.size := by
    obtain ⟨D, ⟨es, clock, hlm, _⟩, _⟩ := hL.tab
    exact (Array.getElem?_eq_some_iff.1 hlm).1
  have lp2 : lp < w2.heap.size := by
    obtain ⟨cs, s, hc⟩ := hk
    exact (Array.getElem?_eq_some_iff.1 hc).1
  have rb3 : rb < w3.heap.size := by
    obtain ⟨⟨L, M, _, _⟩, _⟩ := hR
    obtain ⟨e3', c3', hrm⟩ := M.tab.isMap
    exact (Array.getElem?_eq_some_iff.1 hrm).1
  have hs3 := B3.size
  have G3 : w3.grownBy (w3.alloc (.map #[] 0)) none := World.grownBy_alloc _ _ _
  have G4 : (w3.alloc (.map #[] 0)).grownBy W none := by rw [hW]; exact World.grownBy_alloc _ _ _
  have BW : Below w3.heap.size w3 W := by rw [hW]; exact below_alloc ((Below.refl _ w3).alloc (Nat.le_refl _) _) _
  have B2W : Below w2.heap.size w2 W := below_then B3 B3.size BW
  constructor
  · rw [hW]
    have := heap_alloc_new (w3.alloc (.map #[] 0)) (hdCells (S0 c now) w3.heap.size lp rp)
    simpa using this
  · exact (Tab.made w3).kept G4 (by simp)
  · intro t ht; cases ht
  · intro t ht; cases ht
  · exact hL.fr (Fr.ofBelow (O := fun _ => False) B2W) (fun h => h) (fun h => h)
  · obtain ⟨cs, s, hc⟩ := hk
    exact ⟨cs, s, (B2W.block lp lp2).trans hc⟩
  · exact (hR.kept G3).kept G4
  · exact List.Pairwise.nil
  · intro t ht; cases ht
  · exact Nat.zero_le _
  · show w3.heap.size ≠ lb
    omega
  · show w3.heap.size ≠ rb
    omega
  · show lb ≠ rb
    omega
  · refine ⟨by show base ≤ w3.heap.size + 1; omega, hbase.2.2, hbase.1, hbase.2.1, ?_, fun t ht => by cases ht⟩
    obtain ⟨⟨L, M, _, hbb⟩, _⟩ := hR
    exact hbb
set_option maxHeartbeats 16000000 in
set_option maxRecDepth 100000 in
theorem New_s (c : Cp) (now : Int) (base : Nat) (F : Nat → Prop) (w : World) (hb : base ≤ w.heap.size) (h : mayC c = true) (h0 : 0 ≤ now) :
    Calls Tryz.prog 12 #[.agg c.cells, .int .i64 now] w fun e w' => ∃ l : Loc, e = .returned (.tuple #[ptr l.p, .int .i64 0]) ∧ Pm w' base l (S0 c now) ∧ Below w.heap.size w w' ∧ w.heap.size ≤ l.p ∧ l.F = F := by
  obtain ⟨ac, kp, rd, lk⟩ := c
  unfold mayC at h
  simp only [Bool.and_eq_true, decide_eq_true_eq] at h
  obtain ⟨⟨⟨⟨⟨⟨⟨g1, g2⟩, g3⟩, g4⟩, g5⟩, g6⟩, g7⟩, g8⟩ := h
  unfold Cp.cells
  dsimp only
  obtain ⟨w1, hw1⟩ : ∃ w1, w1 = w.alloc (.cells #[.int .i64 ac, .int .i64 kp, .int .i64 rd, .int .i64 lk] 31) := ⟨_, rfl⟩
  have B1 : Below w.heap.size w w1 := by rw [hw1]; exact (Below.refl _ w).alloc (Nat.le_refl _) _
  have b0 : w1.cell? ⟨w.heap.size, 0, none⟩ = some (.int .i64 ac) := by rw [hw1]; simp [go_sem]
  have b1 : w1.cell? ⟨w.heap.size, 1, none⟩ = some (.int .i64 kp) := by rw [hw1]; simp [go_sem]
  have b2 : w1.cell? ⟨w.heap.size, 2, none⟩ = some (.int .i64 rd) := by rw [hw1]; simp [go_sem]
  have b3 : w1.cell? ⟨w.heap.size, 3, none⟩ = some (.int .i64 lk) := by rw [hw1]; simp [go_sem]
  have hs1 := B1.size
  have N := New36 lk w1 g7 g8
  have N2 := fun w2 (B2 : Below w1.heap.size w1 w2) => New_calls rd w2.heap.size w2 (Nat.le_refl _) g5 g6
  have CEL : ∀ W, Below w1.heap.size w1 W → W.cell? ⟨w.heap.size, 0, none⟩ = some (.int .i64 ac) ∧ W.cell? ⟨w.heap.size, 1, none⟩ = some (.int .i64 kp) ∧ W.cell? ⟨w.heap.size, 2, none⟩ = some (.int .i64 rd) ∧ W.cell? ⟨w.heap.size, 3, none⟩ = some (.int .i64 lk) := fun W B => ⟨below_cell B b0, below_cell B b1, below_cell B b2, below_cell B b3⟩
  have FIN : ∀ w2 w3, Lck.Mg w2 (w1.heap.size + 1) w1.heap.size lk [] → (∃ cs s, w2.heap[w1.heap.size + 1]? = some (.cells cs 147 s)) → Below w1.heap.size w1 w2 → w2.heap.size = w1.heap.size + 2 → Below w2.heap.size w2 w3 → Mr w3 w2.heap.size (w2.heap.size + 1) w2.heap.size rd 0 [] (fun _ => []) →
      ∃ l : Loc, (Ending.returned (.tuple #[ptr (w3.heap.size + 1), .int .i64 0])) = Ending.returned (.tuple #[ptr l.p, .int .i64 0]) ∧ Pm ((w3.alloc (.map #[] 0)).alloc (hdCells (S0 ⟨ac, kp, rd, lk⟩ now) w3.heap.size (w1.heap.size + 1) (w2.heap.size + 1))) base l (S0 ⟨ac, kp, rd, lk⟩ now) ∧ Below w.heap.size w ((w3.alloc (.map #[] 0)).alloc (hdCells (S0 ⟨ac, kp, rd, lk⟩ now) w3.heap.size (w1.heap.size + 1) (w2.heap.size + 1))) ∧ w.heap.size ≤ l.p ∧ l.F = F := fun w2 w3 hL hk B2 hs2 B3 hM => by
    have hs3 := B3.size
    have BA := below_then B1 B1.size (below_then B2 B2.size B3)
    have hM2 : Mr w3 base (w2.heap.size + 1) w2.heap.size rd 0 [] (fun _ => []) := ⟨hM.cells, hM.tab, by omega, by simp, hM.off, by simp⟩
    refine ⟨_, rfl, Pm.made F hL hk B3 (rb := w2.heap.size) ⟨⟨[], hM2, rfl, by omega⟩, InvK.empty, by show (0 : Int) ≤ rd; omega, g6, g5⟩ (by omega) (Nat.le_refl _) ⟨by omega, by omega, by omega⟩ rfl, below_alloc (below_alloc BA _) _, ?_, rfl⟩
    show w.heap.size ≤ w3.heap.size + 1
    omega
  unfold hdCells S0 at FIN
  dsimp only at FIN
  unfold S0
  clear b0 b1 b2 b3
  obtain ⟨b0, b1, b2, b3⟩ := CEL w1 (Below.refl _ _)
  have hmm := @run_makeMap Tryz.prog
  replace CEL := Aside0.mk CEL
  replace FIN := Aside0.mk FIN
  replace N2 := Aside0.mk N2
  clear B1 hb
  go_enter Tryz.func12, Tryz.ntmps12
  go_upto_region 1 with (fail)
  rw [← hw1]
  clear hw1
  go_upto_region 6 with (go_at_call 36; refine N.mono ?_; rintro e w2 ⟨rfl, hL, B2, hs2, hk⟩)
  clear N b0 b1 b2 b3
  obtain ⟨b0, b1, b2, b3⟩ := CEL.out w2 B2
  have N3 := N2.out w2 B2
  have K2 := Aside0.mk (And.intro hL (And.intro hk (And.intro B2 hs2)))
  clear hL hk hs2
  go_upto_region 9 with (go_at_call 37; refine N3.mono ?_; rintro e w3 ⟨rfl, hM, B3⟩)
  clear N3 b0 b1 b2 b3
  obtain ⟨b0, b1, b2, b3⟩ := CEL.out w3 (below_then B2 B2.size B3)
  obtain ⟨kL, kk, kB, ks⟩ := K2.out
  have K4 := Aside0.mk (FIN.out w2 w3 kL kk kB ks B3 hM)
  clear kL kk kB ks hM B3 B2
  go_wp2
  go_ret2
  exact K4.out
end Go.Proofs.YthaoedfalkebbaaGreat
namespace Go.Proofs.YthaoedfalkebbaaGreat
open Go.RowKit Go.Maps Go.Sort Go.Lib Go.Shelf Go.Proofs.YthaoedfalkebbaaGreatW.PrintWords Go.Proofs.YthaoedfalkebbaaGreatW.PrintLast Go.Proofs.YthaoedfalkebbaaGreatW.PrintMore
set_option linter.unusedVariables false
set_option linter.unusedSimpArgs false
set_option linter.unusedSectionVars false
/-! ### Begin -/
/-- what an operation leaves, wherever its parts have gone -/
def StQ (base : Nat) (l : Loc) (S S' : Sm St) (w w' : World) : Prop := ∃ l' : Loc, l'.p = l.p ∧ l'.F = l.F ∧ Pm w' base l' S' ∧ Fr (l.own S.txs) w w'
theorem OpQ.st {base : Nat} {l : Loc} {S : Sm St} {r : Int × Sm St} {w : World} {e : Ending} {w' : World} (h : OpQ base l S r w e w') : e = .returned (.int .i64 r.1) ∧ StQ base l S r.2 w w' := by
  obtain ⟨h1, rb', h2, _, h4⟩ := h
  exact ⟨h1, { l with rb := rb' }, rfl, rfl, h2, h4⟩
def newT (S : Sm St) : Tx := ⟨S.last + 1, S.now, true, S.clock + 1, 0, false, false, []⟩
def begS (S : Sm St) : Sm St := { S with last := S.last + 1, clock := S.clock + 1, txs := S.txs ++ [newT S] }
theorem begin_new {S : Sm St} (h : ¬ S.caps.active ≤ S.acts) : S.begin = ((S.last + 1, S.now, 0), begS S) := by unfold Sm.begin; rw [if_neg h]; rfl
theorem got_none_tx {w : World} {base : Nat} {l : Loc} {S : Sm St} (h : Pm w base l S) : got (txL l.Q S.txs) (S.last + 1) = none := by
  rw [got_tx]
  have : S.txs.find? (fun t => t.num == S.last + 1) = none := by
    rw [List.find?_eq_none]
    intro t ht hp
    have := (h.nums t ht).2.1
    simp at hp
    omega
  rw [this]
  rfl
theorem Pm.born {w W : World} {base : Nat} {l : Loc} {S : Sm St} (h : Pm w base l S) (K N : Int) (hC : Cap S K N) (hok : okN (S.last + 1)) (q : Nat) (hq : w.heap.size ≤ q) (F : Fr (fun k => k = l.p ∨ k = l.mb) w W) (hh : W.heap[l.p]? = some (hdCells (begS S) l.mb l.lp l.rp)) (ht : TabT W l.mb (S.txs.length + 1) (txL l.Q S.txs ++ [(S.last + 1, some q)])) (hc : W.heap[q]? = some (txCells (newT S) (.slice none 0 0))) :
    Pm W base { l with Q := fun n => if n = S.last + 1 then q else l.Q n } (begS S) := by
  obtain ⟨hk, k1, k2, k3, k4, k5, k6, k7, k8, k9, k10, k11, k12⟩ := h.kinds
  have hQ : ∀ t ∈ S.txs, (if t.num = S.last + 1 then q else l.Q t.num) = l.Q t.num := fun t ht => by
    have := (h.nums t ht).2.1
    rw [if_neg (by omega)]
  have hlt : ∀ t ∈ S.txs, l.Q t.num < w.heap.size := fun t ht => h.lts _ (.inr (.inr (.inr (.inr (.inr ⟨t, ht, rfl⟩)))))
  have mem : ∀ t, t ∈ S.txs ++ [newT S] → t ∈ S.txs ∨ t = newT S := fun t ht => by
    rcases List.mem_append.1 ht with e | e
    · exact .inl e
    · exact .inr (List.mem_singleton.1 e)
  have hnn : (newT S).num = S.last + 1 := rfl
  constructor
  · exact hh
  · have e : txL (fun n => if n = S.last + 1 then q else l.Q n) (S.txs ++ [newT S]) = txL l.Q S.txs ++ [(S.last + 1, some q)] := by
      unfold txL
      rw [List.map_append]
      congr 1
      · exact List.map_congr_left fun t ht => by dsimp only; rw [hQ t ht]
      · simp [newT]
    show TabT W l.mb (S.txs ++ [newT S]).length (txL (fun n => if n = S.last + 1 then q else l.Q n) (S.txs ++ [newT S]))
    rw [e, List.length_append]
    exact ht
  · intro t ht'
    show ∃ v, W.heap[if t.num = S.last + 1 then q else l.Q t.num]? = some (txCells t v) ∧ ∃ ws, Lo Lck.cellsL 2 23 W base v ws ∧ ws.length ≤ 4096 ∧ (∀ a, a ∈ ws ↔ a ∈ t.wrote) ∧ ∀ b, v.ownBlock = some b → ¬ l.F b
    rcases mem t ht' with hm | rfl
    · rw [hQ t hm]
      obtain ⟨v, h1, ws, h2, h3⟩ := h.tx t hm
      obtain ⟨q1, q2, _⟩ := hk t hm
      refine ⟨v, F.block _ _ (fun e => by rcases e with e | e; exact q1 e; exact q2 e) h1, ws, h2.move fun g hg => ?_, h3⟩
      obtain ⟨_, _, cells, hcc⟩ := h2.typed g hg
      refine (F.block g _ (fun e => ?_) hcc).trans hcc.symm
      rcases e with e | e
      · rw [e, h.head] at hcc
        unfold hdCells at hcc
        simp at hcc
      · obtain ⟨es1, c1, hmap⟩ := h.tab.isMap
        rw [e, hmap] at hcc
        cases hcc
    · rw [if_pos hnn]
      exact ⟨_, hc, [], Lo.nil _ _, by simp, by simp [newT], fun b hb => by cases hb⟩
  · intro t ht' u hu e
    have e : (if t.num = S.last + 1 then q else l.Q t.num) = (if u.num = S.last + 1 then q else l.Q u.num) := e
    rcases mem t ht' with hm | rfl <;> rcases mem u hu with hm2 | rfl
    · rw [hQ t hm, hQ u hm2] at e
      exact h.qinj t hm u hm2 e
    · rw [hQ t hm, if_pos hnn] at e
      have := hlt t hm
      omega
    · rw [hQ u hm2, if_pos hnn] at e
      have := hlt u hm2
      omega
    · rfl
  · exact h.locks.fr F (fun e => by rcases e with e | e; exact k2 e.symm; exact k6 e) (fun e => by rcases e with e | e; exact k3 e.symm; exact h.ne1 e.symm)
  · obtain ⟨c, s, hcc⟩ := h.lkind
    exact ⟨c, s, F.block _ _ (fun e => by rcases e with e | e; exact k2 e.symm; exact k6 e) hcc⟩
  · refine h.reads.fr F (fun e => by rcases e with e | e; exact k4 e.symm; exact k10 e) (fun e => by rcases e with e | e; exact k5 e.symm; exact h.ne2 e.symm) (fun k c s hk2 hcc => ?_)
    rcases hk2 with e | e
    · rw [e, h.head] at hcc
      unfold hdCells at hcc
      simp at hcc
    · obtain ⟨es1, c1, hmap⟩ := h.tab.isMap
      rw [e, hmap] at hcc
      cases hcc
  · show (S.txs ++ [newT S]).Pairwise _
    rw [List.pairwise_append]
    refine ⟨h.dist, by simp, fun a ha b hb => ?_⟩
    rw [List.mem_singleton.1 hb]
    have := (h.nums a ha).2.1
    show a.num < S.last + 1
    omega
  · intro t ht'
    have hl := hC.last
    rcases mem t ht' with hm | rfl
    · have := h.nums t hm
      exact ⟨this.1, by show t.num ≤ S.last + 1; omega, this.2.2⟩
    · exact ⟨by show 1 ≤ S.last + 1; omega, by show S.last + 1 ≤ S.last + 1; omega, hok⟩
  · have := hC.few
    show (S.txs ++ [newT S]).length ≤ _
    simp
    omega
  · exact h.ne1
  · exact h.ne2
  · exact h.ne3
  · refine ⟨h.low.1, h.low.2.1, h.low.2.2.1, h.low.2.2.2.1, h.low.2.2.2.2.1, fun t ht' => ?_⟩
    show base ≤ (if t.num = S.last + 1 then q else l.Q t.num)
    rcases mem t ht' with hm | rfl
    · rw [hQ t hm]
      exact h.low.2.2.2.2.2 t hm
    · rw [if_pos hnn]
      have := h.low.1
      have := h.lts _ (.inl rfl)
      omega
/-- how many are under way, as the walk asks it -/
theorem act_ask (base : Nat) (l : Loc) (S : Sm St) (w : World) (h : Pm w base l S) (W : World) (B : Below w.heap.size w W) :
    Calls Tryz.prog 26 #[ptr l.p] W fun e w' => ∃ A c, e = .returned (.slice A S.acts c) ∧ Below W.heap.size W w' := by
  refine (Active_s base l S W (h.below B)).mono ?_
  rintro e w' ⟨v, rfl, hv, B2⟩
  obtain ⟨A, c, rfl, _⟩ := (Lo.ofR hv : Lo _ _ _ _ _ _ _).slice
  rw [actN_len]
  exact ⟨A, c, rfl, B2⟩
def hdC (a k r o now last clock : Int) (mb lp rp : Nat) : Obj := .cells #[.int .i64 a, .int .i64 k, .int .i64 r, .int .i64 o, .int .i64 now, .int .i64 last, .int .i64 clock, .map (some mb), ptr lp, ptr rp] 90 (0, 0)
theorem hdC_cells {w : World} {p mb lp rp : Nat} {a k r o now last clock : Int} (h : w.heap[p]? = some (hdC a k r o now last clock mb lp rp)) :
    w.cell? ⟨p, 0, none⟩ = some (.int .i64 a) ∧ w.cell? ⟨p, 1, none⟩ = some (.int .i64 k) ∧ w.cell? ⟨p, 4, none⟩ = some (.int .i64 now) ∧ w.cell? ⟨p, 5, none⟩ = some (.int .i64 last) ∧ w.cell? ⟨p, 6, none⟩ = some (.int .i64 clock) ∧ w.cell? ⟨p, 7, none⟩ = some (.map (some mb)) ∧ w.cell? ⟨p, 8, none⟩ = some (ptr lp) ∧ w.cell? ⟨p, 9, none⟩ = some (ptr rp) :=
  ⟨cell_of_row w p 0 _ 90 (0, 0) h, cell_of_row w p 1 _ 90 (0, 0) h, cell_of_row w p 4 _ 90 (0, 0) h, cell_of_row w p 5 _ 90 (0, 0) h, cell_of_row w p 6 _ 90 (0, 0) h, cell_of_row w p 7 _ 90 (0, 0) h, cell_of_row w p 8 _ 90 (0, 0) h, cell_of_row w p 9 _ 90 (0, 0) h⟩
def txC (num snap : Int) (act : Bool) (begun ended : Int) (fin fout : Bool) (v : Value) : Obj := .cells #[.int .i64 num, .int .i64 snap, .bool act, .int .i64 begun, .int .i64 ended, .bool fin, .bool fout, v] 101 (0, 0)
set_option maxHeartbeats 16000000 in
set_option maxRecDepth 100000 in
theorem Begin_walk (p mb lp rp n0 : Nat) (a k r o now last clock : Int) (w : World) (Post : Int → Int → Int → World → Prop) (H2 : World → Prop) (hn0 : n0 ≤ 65536) (hla : 0 ≤ last ∧ last ≤ 4611686018427387904) (hcl : 0 ≤ clock ∧ clock ≤ 4611686018427387904)
    (N : Calls Tryz.prog 38 #[ptr p] w fun e w' => e = .returned (.bool false) ∧ w = w')
    (hd : w.heap[p]? = some (hdC a k r o now last clock mb lp rp))
    (AC : ∀ n, Calls Tryz.prog 26 #[ptr p] (w.drewN n) fun e w2 => ∃ A c, e = .returned (.slice A n0 c) ∧ H2 w2)
    (C2 : ∀ W, H2 W → W.heap[p]? = some (hdC a k r o now last clock mb lp rp))
    (FULL : a ≤ n0 → ∀ W, H2 W → Post 0 0 4 W)
    (NEW : (n0 : Int) < a → ∀ W, H2 W → ∃ w5, (Instr.mapUpdate 86 (.map (some mb)) (.int .i64 (last + 1)) (ptr W.heap.size)).run Tryz.prog ((((W.setCell ⟨p, 5, none⟩ (.int .i64 (last + 1))).setCell ⟨p, 6, none⟩ (.int .i64 (clock + 1))).alloc (txC (last + 1) now true (clock + 1) 0 false false (.slice none 0 0))).drew) = .ok () w5 ∧ w5.heap[p]? = some (hdC a k r o now (last + 1) (clock + 1) mb lp rp) ∧ ∀ n, Post (last + 1) now 0 (w5.drewN n)) :
    Calls Tryz.prog 13 #[ptr p] w fun e w' => ∃ x y z, e = .returned (.tuple #[.int .i64 x, .int .i64 y, .int .i64 z]) ∧ Post x y z w' := by
  obtain ⟨c0, _⟩ := hdC_cells hd
  replace C2 := Aside0.mk C2
  replace FULL := Aside0.mk FULL
  replace NEW := Aside0.mk NEW
  have wl1 : IntKind.i64.wrap (last + 1) = last + 1 := IntWalk.i64_in _ (by omega)
  have wc1 : IntKind.i64.wrap (clock + 1) = clock + 1 := IntWalk.i64_in _ (by omega)
  clear hd
  go_enter Tryz.func13, Tryz.ntmps13
  go_wp2_with fail
  refine N.mono ?_
  rintro e w' ⟨rfl, rfl⟩
  go_wp2_with fail
  go_region_held3 (fun V => V.cell? ⟨p, 0, none⟩ = some (.int .i64 a)) (first | exact c0 | exact K2.1)
    ((go_at_call 26; refine (AC _).mono ?_; rintro e w2 ⟨A2, c2, rfl, B2⟩; have K2 := hdC_cells (C2.out w2 B2)))
  by_cases hf : a ≤ n0
  · have F := FULL.out hf w2 B2
    clear NEW C2 AC
    go_wp2
    go_ret3
    exact ⟨_, _, _, rfl, F⟩
  · have hf2 : (n0 : Int) < a := by omega
    have NW := NEW.out hf2 w2 B2
    have op2 := C2.out w2 B2
    have fz := blk_frozen op2
    obtain ⟨d0, d1, d4, d5, d6, d7, d8, d9⟩ := K2
    obtain ⟨w3, hw3⟩ : ∃ w3, w3 = (w2.setCell ⟨p, 5, none⟩ (.int .i64 (last + 1))).setCell ⟨p, 6, none⟩ (.int .i64 (clock + 1)) := ⟨_, rfl⟩
    have op3 : w3.heap[p]? = some (hdC a k r o now (last + 1) (clock + 1) mb lp rp) := by rw [hw3]; rw [blk_set (blk_set op2 5 _) 6 _]; rfl
    replace op3 := Aside0.mk op3
    clear FULL C2 AC op2 NEW
    replace hf2 := Aside0.mk hf2
    go_upto_region 7 with (fail)
    rw [← hw3]
    rw [← hw3] at NW
    have hsz : w2.heap.size = w3.heap.size := by rw [hw3]; simp [World.setCell]
    rw [hsz] at NW
    clear hw3 d0 d1 d4 d5 d6 d7 d8 d9 fz hsz
    obtain ⟨e0, e1, e4, e5, e6, e7, e8, e9⟩ := hdC_cells op3.out
    obtain ⟨w5, hmu, op5, P5⟩ := NW
    unfold txC at hmu
    obtain ⟨f0, f1, f4, f5, f6, f7, f8, f9⟩ := hdC_cells op5
    replace op5 := Aside0.mk op5
    go_region_held3 (fun V => V.cell? ⟨p, 7, none⟩ = some (.map (some mb)) ∧ V.cell? ⟨p, 5, none⟩ = some (.int .i64 (last + 1)) ∧ V.cell? ⟨p, 4, none⟩ = some (.int .i64 now) ∧ V.cell? ⟨p, 6, none⟩ = some (.int .i64 (clock + 1))) (first | exact ⟨e7, e5, e4, e6⟩ | exact ⟨below_cell (allocDB w3 _) e7, below_cell (allocDB w3 _) e5, below_cell (allocDB w3 _) e4, below_cell (allocDB w3 _) e6⟩ | exact ⟨below_cell (allocB w3 _) e7, below_cell (allocB w3 _) e5, below_cell (allocB w3 _) e4, below_cell (allocB w3 _) e6⟩ | exact ⟨f7, f5, f4, f6⟩) (fail)
    replace P5 := Aside0.mk P5
    clear e0 e1 e4 e5 e6 e7 e8 e9 hmu
    go_wp2_with fail
    go_region_held3 (fun V => V.cell? ⟨p, 5, none⟩ = some (.int .i64 (last + 1)) ∧ V.cell? ⟨p, 4, none⟩ = some (.int .i64 now)) (exact ⟨f5, f4⟩) (fail)
    go_wp2
    go_ret3
    exact ⟨_, _, _, rfl, P5.out 1⟩

theorem begin_full {S : Sm St} (h : S.caps.active ≤ S.acts) : S.begin = ((0, 0, 4), S) := by unfold Sm.begin; rw [if_pos h]
theorem Begin_s (base : Nat) (l : Loc) (S : Sm St) (w : World) (K N : Int) (h : Pm w base l S) (hC : Cap S K N) (hK : K ≤ 4611686018427387903) :
    Calls Tryz.prog 13 #[ptr l.p] w fun e w' => e = .returned (.tuple #[.int .i64 S.begin.1.1, .int .i64 S.begin.1.2.1, .int .i64 S.begin.1.2.2]) ∧ StQ base l S S.begin.2 w w' := by
  obtain ⟨_, _, _, _, _, _, _, c7, _, _⟩ := h.cells
  obtain ⟨hk, k1, k2, k3, k4, k5, k6, k7, k8, k9, k10, k11, k12⟩ := h.kinds
  have hl := hC.last
  have hcl := hC.clock
  have hok : okN (S.last + 1) := by
    show (Lit.int .i64 (S.last + 1)).wf = true
    simp only [Lit.wf, Bool.and_eq_true, decide_eq_true_eq]
    have e1 : IntKind.i64.min = -9223372036854775808 := by decide
    have e2 : IntKind.i64.max = 9223372036854775807 := by decide
    rw [e1, e2]
    omega
  have hfew := hC.few
  have hacts : S.acts ≤ S.txs.length := List.length_filter_le _ _
  refine (Begin_walk l.p l.mb l.lp l.rp S.acts S.caps.active S.caps.kept S.caps.reads S.caps.locks S.now S.last S.clock w (fun x y z W => ((x, y, z) : Int × Int × Int) = S.begin.1 ∧ StQ base l S S.begin.2 w W) (fun W => Below w.heap.size w W) (by omega) (by omega) (by omega) (none_s l.p l.mb w c7) h.head
    (fun n => (act_ask base l S w h (w.drewN n) (drewB2 w n)).mono fun e w' ⟨A, c, h1, h2⟩ => ⟨A, c, h1, below_then (drewB2 w n) (by simp) h2⟩) (fun W B => (h.below B).head) ?_ ?_).mono ?_
  · intro hf W B
    rw [begin_full hf]
    exact ⟨rfl, l, rfl, rfl, h.below B, Fr.ofBelow B⟩
  · intro hf W B
    have P := h.below B
    rw [begin_new (by omega)]
    obtain ⟨W3, hW3⟩ : ∃ W3, W3 = (((W.setCell ⟨l.p, 5, none⟩ (.int .i64 (S.last + 1))).setCell ⟨l.p, 6, none⟩ (.int .i64 (S.clock + 1))).alloc (txC (S.last + 1) S.now true (S.clock + 1) 0 false false (.slice none 0 0))).drew := ⟨_, rfl⟩
    have G1 : W.grownBy ((W.setCell ⟨l.p, 5, none⟩ (.int .i64 (S.last + 1))).setCell ⟨l.p, 6, none⟩ (.int .i64 (S.clock + 1))) (some l.p) := trans_grown (grown_set _ _ _ _) (grown_set _ _ _ _)
    obtain ⟨W2, hW2⟩ : ∃ W2, W2 = (W.setCell ⟨l.p, 5, none⟩ (.int .i64 (S.last + 1))).setCell ⟨l.p, 6, none⟩ (.int .i64 (S.clock + 1)) := ⟨_, rfl⟩
    have hsz : W2.heap.size = W.heap.size := by rw [hW2]; simp [World.setCell]
    have op2 : W2.heap[l.p]? = some (hdCells (begS S) l.mb l.lp l.rp) := by
      rw [hW2, blk_set (blk_set P.head 5 _) 6 _]
      rfl
    rw [← hW2] at hW3 G1
    rw [← hW2, ← hW3]
    have B3 : Below W2.heap.size W2 W3 := by rw [hW3]; exact allocDB W2 _
    have F3 : Fr (fun k => k = l.p) W W3 := (Fr.grown G1 |>.mono (O2 := fun k => k = l.p) (fun k hk _ => by injection hk with hk; exact hk.symm)).trans (Fr.ofBelow (O := fun _ => False) B3) (fun k hk _ => hk.elim)
    have T3 : TabT W3 l.mb S.txs.length (txL l.Q S.txs) := P.tab.fr F3 (fun e => k1 e.symm)
    obtain ⟨w5, hmu, T5, hturn⟩ := T3.store (t := 86) (e := 99) keyN valQ Tryz.underlying86 (by simp only [maxLen]; omega) hok (some W.heap.size)
    have G5 := Fr.grown (turned_grown hturn)
    have hq3 : W3.heap[W.heap.size]? = some (txCells (newT S) (.slice none 0 0)) := by
      rw [hW3, ← hsz]
      exact heap_alloc_new W2 _
    have F5 : Fr (fun k => k = l.p ∨ k = l.mb) W w5 := (F3.mono (fun k hk _ => .inl hk)).trans G5 (fun k hk _ => by injection hk with hk; exact .inr hk.symm)
    have h5 : w5.heap[l.p]? = some (hdCells (begS S) l.mb l.lp l.rp) := G5.block _ _ (fun e => by injection e with e; exact k1 e.symm) ((B3.block _ (Array.getElem?_eq_some_iff.1 op2).1).trans op2)
    have q5 : w5.heap[W.heap.size]? = some (txCells (newT S) (.slice none 0 0)) := G5.block _ _ (fun e => by injection e with e; have := P.lts _ (.inr (.inl rfl)); omega) hq3
    have eu : upd (txL l.Q S.txs) (S.last + 1) (some W.heap.size) = txL l.Q S.txs ++ [(S.last + 1, some W.heap.size)] := by
      unfold upd
      rw [got_none_tx h]
      rfl
    rw [eu] at T5
    have PB := P.born K N hC hok W.heap.size (Nat.le_refl _) F5 h5 T5 q5
    refine ⟨w5, hmu, h5, fun n => ⟨rfl, { l with Q := fun n => if n = S.last + 1 then W.heap.size else l.Q n }, rfl, rfl, PB.below (drewB2 w5 n), ?_⟩⟩
    exact (((Fr.ofBelow (O := l.own S.txs) B).trans F5 (fun k hk _ => by rcases hk with e | e; exact .inl e; exact .inr (.inl e))).trans (Fr.drewN (O := fun _ => False) w5 n) (fun k hk _ => hk.elim))
  · rintro e w' ⟨x, y, z, rfl, h1, h2⟩
    rw [← h1]
    exact ⟨rfl, h2⟩
end Go.Proofs.YthaoedfalkebbaaGreat
namespace Go.Proofs.YthaoedfalkebbaaGreat
open Go.RowKit Go.Maps Go.Sort Go.Lib Go.Shelf Go.Proofs.YthaoedfalkebbaaGreatW.PrintWords Go.Proofs.YthaoedfalkebbaaGreatW.PrintLast Go.Proofs.YthaoedfalkebbaaGreatW.PrintMore
set_option linter.unusedVariables false
set_option linter.unusedSimpArgs false
set_option linter.unusedSectionVars false
/-! ### what is asked -/
set_option maxRecDepth 100000 in
theorem Now_s (base : Nat) (l : Loc) (S : Sm St) (w : World) (h : Pm w base l S) : Calls Tryz.prog 34 #[ptr l.p] w fun e w' => e = .returned (.int .i64 S.now) ∧ w = w' := by
  obtain ⟨_, _, _, _, c4, _, _, c7, _, _⟩ := h.cells
  have N := none_s l.p l.mb w c7
  clear h
  go_enter Tryz.func34, Tryz.ntmps34
  go_wp2_with fail
  refine N.mono ?_
  rintro e w' ⟨rfl, rfl⟩
  go_wp2
  go_ret
  exact ⟨rfl, rfl⟩
def snapV (o : Option Tx) : Int × Int := match o with
  | some t => (t.snap, 0)
  | none => (0, 101)
set_option maxRecDepth 100000 in
theorem Snapshot_s (base : Nat) (l : Loc) (S : Sm St) (tx : Int) (w : World) (h : Pm w base l S) (hx : okN tx) : Calls Tryz.prog 28 #[ptr l.p, .int .i64 tx] w fun e w' => e = .returned (.tuple #[.int .i64 (snapV (S.actv tx)).1, .int .i64 (snapV (S.actv tx)).2]) ∧ w = w' := by
  have A := active_s base l S tx w h hx
  unfold snapV
  cases ha : S.actv tx with
  | none =>
    rw [ha] at A
    unfold actV at A
    clear h ha
    go_enter Tryz.func28, Tryz.ntmps28
    go_wp2_with fail
    refine A.mono ?_
    rintro e w' ⟨rfl, rfl⟩
    go_wp2
    go_ret2
    exact ⟨rfl, rfl⟩
  | some t =>
    rw [ha] at A
    unfold actV at A
    dsimp only at A
    obtain ⟨ht, _, _⟩ := actv_mem ha
    obtain ⟨v, hv, _⟩ := h.tx t ht
    obtain ⟨_, d1, _⟩ := tx_cells hv
    generalize l.Q t.num = q at *
    clear h ha ht hv
    go_enter Tryz.func28, Tryz.ntmps28
    go_wp2_with fail
    refine A.mono ?_
    rintro e w' ⟨rfl, rfl⟩
    go_wp2
    go_ret2
    exact ⟨rfl, rfl⟩
def flagV (o : Option Tx) : Bool × Bool × Int := match o with
  | some t => (t.fin, t.fout, 0)
  | none => (false, false, 101)
set_option maxRecDepth 100000 in
theorem Flags_s (base : Nat) (l : Loc) (S : Sm St) (tx : Int) (w : World) (h : Pm w base l S) (hx : okN tx) : Calls Tryz.prog 27 #[ptr l.p, .int .i64 tx] w fun e w' => e = .returned (.tuple #[.agg #[.bool (flagV (S.actv tx)).1, .bool (flagV (S.actv tx)).2.1], .int .i64 (flagV (S.actv tx)).2.2]) ∧ Below w.heap.size w w' := by
  obtain ⟨w1, hw1⟩ : ∃ w1, w1 = w.alloc (.cells #[.bool false, .bool false] 67) := ⟨_, rfl⟩
  have B1 : Below w.heap.size w w1 := by rw [hw1]; exact (Below.refl _ w).alloc (Nat.le_refl _) _
  have P1 := h.below B1
  have A := active_s base l S tx w1 P1 hx
  unfold flagV
  cases ha : S.actv tx with
  | none =>
    rw [ha] at A
    unfold actV at A
    rw [hw1] at A B1
    clear h ha hw1 P1
    go_enter Tryz.func27, Tryz.ntmps27
    go_wp2_with fail
    refine A.mono ?_
    rintro e w' ⟨rfl, rfl⟩
    go_wp2
    exact bodyPost_ret (v := .tuple #[.agg #[.bool false, .bool false], .int .i64 101]) (by simp [results, Tryz.results27, go_sem]) rfl ⟨rfl, B1⟩
  | some t =>
    rw [ha] at A
    unfold actV at A
    dsimp only at A
    obtain ⟨ht, _, _⟩ := actv_mem ha
    obtain ⟨v, hv, _⟩ := P1.tx t ht
    obtain ⟨_, _, _, _, _, d5, d6, _⟩ := tx_cells hv
    generalize l.Q t.num = q at *
    rw [hw1] at A B1 d5 d6
    clear h ha ht hv hw1 P1
    dsimp only
    generalize t.fin = fi at *
    generalize t.fout = fo at *
    go_enter Tryz.func27, Tryz.ntmps27
    go_wp2_with fail
    refine A.mono ?_
    rintro e w' ⟨rfl, rfl⟩
    go_wp2
    exact bodyPost_ret (v := .tuple #[.agg #[.bool fi, .bool fo], .int .i64 0]) (by simp [results, Tryz.results27, go_sem]) rfl ⟨rfl, (Below.refl _ w).alloc (Nat.le_refl _) _⟩
set_option maxHeartbeats 16000000 in
set_option maxRecDepth 100000 in
theorem Tracked_s (base : Nat) (l : Loc) (S : Sm St) (w : World) (K N : Int) (h : Pm w base l S) (hC : Cap S K N) : Calls Tryz.prog 24 #[ptr l.p] w fun e w' => e = .returned (.agg #[.int .i64 S.acts, .int .i64 ((S.txs.length : Int) - S.acts), .int .i64 S.reads.n, .int .i64 S.locks.length]) ∧ Below w.heap.size w w' := by
  obtain ⟨w1, hw1⟩ : ∃ w1, w1 = w.alloc (.cells #[.int .i64 0, .int .i64 0, .int .i64 0, .int .i64 0] 60) := ⟨_, rfl⟩
  have B1 : Below w.heap.size w w1 := by rw [hw1]; exact (Below.refl _ w).alloc (Nat.le_refl _) _
  have P1 := h.below B1
  have ob : w1.heap[w.heap.size]? = some (.cells #[.int .i64 0, .int .i64 0, .int .i64 0, .int .i64 0] 60 (0, 0)) := by rw [hw1]; exact heap_alloc_new w _
  obtain ⟨_, _, _, _, _, _, _, c7, c8, c9⟩ := P1.cells
  have N := none_s l.p l.mb w1 c7
  have AC := act_ask base l S w h w1 B1
  have hfew := hC.few
  have hacts : S.acts ≤ S.txs.length := List.length_filter_le _ _
  have CELS : ∀ W, Below w.heap.size w W → W.cell? ⟨l.p, 7, none⟩ = some (.map (some l.mb)) ∧ W.cell? ⟨l.p, 8, none⟩ = some (ptr l.lp) ∧ W.cell? ⟨l.p, 9, none⟩ = some (ptr l.rp) ∧ (Builtin.len_ #[86] 3 #[.map (some l.mb)]).run Tryz.prog W = .ok (.int .i64 (S.txs.length : Int)) W := fun W B => by
    have P := h.below B
    obtain ⟨_, _, _, _, _, _, _, c7, c8, c9⟩ := P.cells
    have := Tab.len (t := 86) Tryz.underlying86 P.tab 3
    unfold txL at this
    rw [List.length_map] at this
    exact ⟨c7, c8, c9, this⟩
  have L61 : ∀ W, Below w1.heap.size w1 W → ∀ n, Calls Tryz.prog 61 #[ptr l.rp] (W.drewN n) fun e w' => e = .returned (.int .i64 S.reads.n) ∧ W.drewN n = w' := fun W B n => Len_S base l.rp l.rb S.caps.reads S.reads _ ((P1.below B).below (drewB2 W n)).reads
  have L62 : ∀ W, Below w1.heap.size w1 W → ∀ n, Calls Tryz.prog 62 #[ptr l.lp] (W.drewN n) fun e w' => e = .returned (.int .i64 (S.locks.length : Int)) ∧ W.drewN n = w' := fun W B n => Lck.Len_calls l.lp l.lb S.caps.locks S.locks _ ((P1.below B).below (drewB2 W n)).locks
  have hwr : IntKind.i64.wrap ((S.txs.length : Int) - S.acts) = (S.txs.length : Int) - S.acts := IntWalk.i64_in _ (by omega)
  have CEL : ∀ W, Below w1.heap.size w1 W → W.heap[w.heap.size]? = some (.cells #[.int .i64 0, .int .i64 0, .int .i64 0, .int .i64 0] 60 (0, 0)) ∧ ∀ n, Below w.heap.size w (W.drewN n) := fun W B => ⟨(B.block _ (Array.getElem?_eq_some_iff.1 ob).1).trans ob, fun n => below_then (below_then B1 B1.size B) (below_then B1 B1.size B).size (drewB2 W n)⟩
  generalize (S.txs.length : Int) = tl at *
  generalize (S.locks.length : Int) = kl at *
  generalize S.reads.n = rn at *
  generalize S.acts = ac at *
  clear h P1 hC hfew hacts
  replace CEL := Aside0.mk CEL
  replace CELS := Aside0.mk CELS
  replace L61 := Aside0.mk L61
  replace L62 := Aside0.mk L62
  go_enter Tryz.func24, Tryz.ntmps24
  go_upto_region 1 with (fail)
  rw [← hw1]
  clear hw1
  go_wp2_with fail
  refine N.mono ?_
  rintro e w' ⟨rfl, rfl⟩
  go_wp2_with fail
  refine AC.mono ?_
  rintro e w2 ⟨A2, c2, rfl, B2⟩
  obtain ⟨ob2, BW⟩ := CEL.out w2 B2
  have obn : ∀ n, (w2.drewN n).heap[w.heap.size]? = some (.cells #[.int .i64 0, .int .i64 0, .int .i64 0, .int .i64 0] 60 (0, 0)) := fun n => ob2
  have fz := fun n => blk_frozen (obn n)
  have x0 := fun n => cell_of_row (w2.drewN n) _ 0 _ 60 (0, 0) (obn n)
  have x1 := fun n => cell_of_row (w2.drewN n) _ 1 _ 60 (0, 0) (obn n)
  have x2 := fun n => cell_of_row (w2.drewN n) _ 2 _ 60 (0, 0) (obn n)
  have x3 := fun n => cell_of_row (w2.drewN n) _ 3 _ 60 (0, 0) (obn n)
  have L61 := L61.out w2 B2
  have L62 := L62.out w2 B2
  clear CEL c7 c8 c9 ob B2
  replace obn := Aside0.mk obn
  replace BW := Aside0.mk BW
  have h4 : w.heap.size ≤ w.heap.size := Nat.le_refl _
  go_wp2_with fail
  go_region_held3 (fun V => V.cell? ⟨l.p, 7, none⟩ = some (.map (some l.mb)) ∧ V.cell? ⟨l.p, 8, none⟩ = some (ptr l.lp) ∧ V.cell? ⟨l.p, 9, none⟩ = some (ptr l.rp) ∧ (Builtin.len_ #[86] 3 #[.map (some l.mb)]).run Tryz.prog V = .ok (.int .i64 tl) V) (first | exact CELS.out _ (BW.out 0) | exact CELS.out _ (BW.out 1) | exact CELS.out _ (BW.out 2) | exact CELS.out _ (BW.out _) | exact CELS.out _ (((((BW.out 1).setCell h4 _).setCell h4 _).setCell h4 _).setCell h4 _))
    (first | (go_at_call 61; refine (L61 _).mono ?_; rintro e w3 ⟨rfl, rfl⟩) | (go_at_call 62; refine (L62 _).mono ?_; rintro e w3 ⟨rfl, rfl⟩))
  clear x0 x1 x2 x3 fz L61 L62 AC N
  go_wp2
  exact bodyPost_ret (results_cell_row rfl _ _ w.heap.size 60 #[.int .i64 ac, .int .i64 (tl - ac), .int .i64 rn, .int .i64 kl] (0, 0) _ rfl (by rw [blk_set (blk_set (blk_set (blk_set (obn.out 1) 0 _) 1 _) 2 _) 3 _]; rfl) Tryz.underlying60 rfl (by kernel_rfl)) rfl ⟨rfl, ((((BW.out 1).setCell h4 _).setCell h4 _).setCell h4 _).setCell h4 _⟩
end Go.Proofs.YthaoedfalkebbaaGreat
