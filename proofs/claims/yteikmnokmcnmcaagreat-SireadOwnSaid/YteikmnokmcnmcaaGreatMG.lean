import Derived.Test.YteikmnokmcnmcaaGreatMF
namespace Go.Proofs.YteikmnokmcnmcaaGreat
open Go.RowKit Go.Maps Go.Sort Go.Lib Go.Proofs.YteikmnokmcnmcaaGreatW.PrintWords Go.Proofs.YteikmnokmcnmcaaGreatW.PrintLast Go.Proofs.YteikmnokmcnmcaaGreatW.PrintMore
set_option linter.unusedVariables false
set_option linter.unusedSimpArgs false
set_option linter.unusedSectionVars false
/-! ### the document's notes: has, ahead -/
def hasB (x : Rd) (tab key : ByteArray) : Bool := (x.t.toList == tab.toList) && holdB x key
def aheadB (a b : Rd) : Bool :=
  if a.t.toList == b.t.toList then (if a.k == b.k then (if a.f.toList == b.f.toList then Op.bytesLess a.u.toList b.u.toList else Op.bytesLess a.f.toList b.f.toList) else decide (a.k < b.k)) else Op.bytesLess a.t.toList b.t.toList
theorem cmpS_lt (s u : ByteArray) : decide (cmpS s u < 0) = Op.bytesLess s.toList u.toList := by
  unfold cmpS
  cases h : Op.bytesLess s.toList u.toList
  · simp only [Bool.false_eq_true, if_false]
    split <;> simp
  · simp
theorem cmpS_zero (s u : ByteArray) : (cmpS s u = 0) ↔ (s.toList == u.toList) = true := by
  unfold cmpS
  cases h : Op.bytesLess s.toList u.toList
  · simp only [Bool.false_eq_true, if_false]
    split
    · rename_i h2; simp [h2]
    · rename_i h2; simp [h2]
  · have : (s.toList == u.toList) = false := by
      rw [beq_eq_false_iff_ne]
      intro e
      rw [e, less_irrefl] at h
      cases h
    simp [this]
theorem aheadB_cmp (a b : Rd) : aheadB a b = decide (cmpRd a b < 0) := by
  rw [cmpRd_lex]
  unfold aheadB
  by_cases h1 : cmpS a.t b.t = 0
  · have e1 := (cmpS_zero _ _).1 h1
    simp only [e1, if_true, h1, ne_eq, not_true_eq_false, if_false]
    by_cases h2 : a.k = b.k
    · have e2 : cmpN a.k b.k = 0 := by unfold cmpN; rw [h2]; simp
      have e3 : (a.k == b.k) = true := by simpa using h2
      simp only [e2, e3, if_true, ne_eq, not_true_eq_false, if_false]
      by_cases h3 : cmpS a.f b.f = 0
      · have e4 := (cmpS_zero _ _).1 h3
        simp only [e4, h3, if_true, ne_eq, not_true_eq_false, if_false]
        exact (cmpS_lt _ _).symm
      · have e4 : (a.f.toList == b.f.toList) = false := by
          cases h : (a.f.toList == b.f.toList) with
          | false => rfl
          | true => exact absurd ((cmpS_zero _ _).2 h) h3
        simp only [e4, h3, Bool.false_eq_true, if_false, ne_eq, not_false_eq_true, if_true]
        exact (cmpS_lt _ _).symm
    · have e2 : cmpN a.k b.k ≠ 0 := fun e => h2 (cmpN_eq e)
      have e3 : (a.k == b.k) = false := by simpa using h2
      simp only [e2, e3, Bool.false_eq_true, if_false, ne_eq, not_false_eq_true, if_true]
      unfold cmpN
      by_cases h3 : a.k < b.k
      · simp [h3]
      · simp [h3, h2]
  · have e1 : (a.t.toList == b.t.toList) = false := by
      cases h : (a.t.toList == b.t.toList) with
      | false => rfl
      | true => exact absurd ((cmpS_zero _ _).2 h) h1
    simp only [e1, h1, Bool.false_eq_true, if_false, ne_eq, not_false_eq_true, if_true]
    exact (cmpS_lt _ _).symm
set_option maxHeartbeats 4000000 in
set_option maxRecDepth 100000 in
theorem ahead_calls (a b : Rd) (w : World) : Calls Tryz.prog 65 #[mkR a, mkR b] w fun e w' => e = .returned (.bool (aheadB a b)) ∧ Below w.heap.size w w' := by
  obtain ⟨w2, hw2, B2, oa, ob⟩ := two_boxes w a b
  obtain ⟨a0, a1, a2, a3⟩ := rd_cells oa
  obtain ⟨b0, b1, b2, b3⟩ := rd_cells ob
  clear oa ob
  unfold aheadB
  go_enter Tryz.func65, Tryz.ntmps65
  go_upto_region 1 with (fail)
  rw [← hw2]
  clear hw2
  go_wp2
  all_goals
    go_ret
    refine ⟨?_, B2⟩
    clear B2 a0 a1 a2 a3 b0 b1 b2 b3
    simp_all
set_option maxHeartbeats 4000000 in
set_option maxRecDepth 100000 in
theorem has_calls (x : Rd) (tab key : ByteArray) (w : World) : Calls Tryz.prog 64 #[mkR x, .string tab, .string key] w fun e w' => e = .returned (.bool (hasB x tab key)) ∧ Below w.heap.size w w' := by
  obtain ⟨w1, hw1⟩ : ∃ w1, w1 = w.alloc (.cells #[.string x.t, .int .i64 x.k, .string x.f, .string x.u] 31) := ⟨_, rfl⟩
  have B1 : Below w.heap.size w w1 := by rw [hw1]; exact boxed w x
  have ob : w1.heap[w.heap.size]? = some (boxR x) := by rw [hw1]; exact heap_alloc_new w _
  obtain ⟨b0, b1, b2, b3⟩ := rd_cells ob
  clear ob
  unfold hasB holdB
  have hl := leq_less x.f.toList key.toList
  have hcm : (key.toList == x.f.toList) = (x.f.toList == key.toList) := by rw [Bool.eq_iff_iff, beq_iff_eq, beq_iff_eq]; exact ⟨Eq.symm, Eq.symm⟩
  by_cases k1 : x.k = 1
  · rw [if_pos k1]
    rw [k1] at b1
    replace k1 := Aside0.mk k1
    go_enter Tryz.func64, Tryz.ntmps64
    go_upto_region 1 with (fail)
    rw [← hw1]
    clear hw1
    go_wp2
    all_goals
      go_ret
      refine ⟨?_, B1⟩
      clear B1 b0 b1 b2 b3
      first | (simp_all; done) | (rw [← hcm]; simp_all)
  by_cases k2 : x.k = 2
  · rw [if_neg k1, if_pos k2]
    rw [k2] at b1
    replace k1 := Aside0.mk k1
    replace k2 := Aside0.mk k2
    go_enter Tryz.func64, Tryz.ntmps64
    go_upto_region 1 with (fail)
    rw [← hw1]
    clear hw1
    go_wp2
    all_goals
      go_ret
      refine ⟨?_, B1⟩
      clear B1 b0 b1 b2 b3
      simp_all [leq_less, leq_iff]
  · rw [if_neg k1, if_neg k2]
    have e1 : (x.k == 1) = false := by simpa using k1
    have e2 : (x.k == 2) = false := by simpa using k2
    go_enter Tryz.func64, Tryz.ntmps64
    go_upto_region 1 with (fail)
    rw [← hw1]
    clear hw1
    go_wp2
    all_goals
      go_ret
      refine ⟨?_, B1⟩
      clear B1 b0 b1 b2 b3
      simp_all
end Go.Proofs.YteikmnokmcnmcaaGreat
namespace Go.Proofs.YteikmnokmcnmcaaGreat
open Go.RowKit Go.Maps Go.Sort Go.Lib Go.Proofs.YteikmnokmcnmcaaGreatW.PrintWords Go.Proofs.YteikmnokmcnmcaaGreatW.PrintLast Go.Proofs.YteikmnokmcnmcaaGreatW.PrintMore
set_option linter.unusedVariables false
set_option linter.unusedSimpArgs false
set_option linter.unusedSectionVars false
/-! ### the document's manager: its notes; count, Len -/
abbrev Nt := Int × Rd
def encN (a : Nt) : List Value := [.int .i64 a.1, .string a.2.t, .int .i64 a.2.k, .string a.2.f, .string a.2.u]
theorem encN_one (x : Nt) : ∀ u ∈ encN x, u.oneCell' = true := fun u hu => by
  simp only [encN, List.mem_cons, List.not_mem_nil, or_false] at hu
  rcases hu with rfl | rfl | rfl | rfl | rfl <;> rfl
def dN : Kd Nt := Kd.flat encN 5 (fun _ => rfl) encN_one
abbrev RowN (w : World) (base : Nat) (v : Value) (xs : List Nt) : Prop := Lo encN 5 66 w base v xs
theorem RowN.at {w : World} {base g n c : Nat} {xs : List Nt} (h : RowN w base (.slice (some ⟨g, 0, none⟩) n c) xs) (j : Nat) (x : Nt) (hj : xs[j]? = some x) :
    w.cell? ⟨g, j * 5, none⟩ = some (.int .i64 x.1) ∧ w.cell? ⟨g, j * 5 + 1, none⟩ = some (.string x.2.t) ∧ w.cell? ⟨g, j * 5 + 2, none⟩ = some (.int .i64 x.2.k) ∧ w.cell? ⟨g, j * 5 + 3, none⟩ = some (.string x.2.f) ∧ w.cell? ⟨g, j * 5 + 4, none⟩ = some (.string x.2.u) := by
  have H := h.cell (fun _ => rfl) rfl j x hj
  exact ⟨by simpa using H 0 _ rfl, H 1 _ rfl, H 2 _ rfl, H 3 _ rfl, H 4 _ rfl⟩
/-- the document's manager in block q -/
structure RM (w : World) (base q : Nat) (most : Int) (N : List Nt) : Prop where
  cells : ∃ v, w.heap[q]? = some (.cells #[.int .i64 most, v] 26 (0, 0)) ∧ dN.R 66 w base (fun _ => True) v N
theorem RM.below {w w' : World} {base q : Nat} {most : Int} {N : List Nt} (h : RM w base q most N) (B : Below w.heap.size w w') : RM w' base q most N := by
  obtain ⟨v, h1, h2⟩ := h.cells
  exact ⟨v, blk_below h1 B, Kd.R_below h2 B⟩
/-- .. through a step that leaves all cells but block p -/
theorem RM.far {w w' : World} {base q p : Nat} {most : Int} {N : List Nt} (h : RM w base q most N) (hq : q ≠ p) (hp : ∃ c s, w.heap[p]? = some (.cells c 56 s)) (hb : ∀ k c e s, k ≠ p → w.heap[k]? = some (.cells c e s) → w'.heap[k]? = some (.cells c e s)) : RM w' base q most N := by
  obtain ⟨v, h1, h2⟩ := h.cells
  refine ⟨v, hb q _ _ _ hq h1, ?_⟩
  have h2' := h2
  obtain ⟨h0, inner, ho, hr⟩ := h2
  refine ⟨h0, inner, own_move ho (fun k hk => ?_), hr⟩
  obtain ⟨_, _, cells, hc⟩ := flat_typed h2' k hk
  refine (hb k _ _ _ (fun e => ?_) hc).trans hc.symm
  subst e
  obtain ⟨c, s, hp⟩ := hp
  rw [hp] at hc
  injection hc with hc
  injection hc with _ hc
  cases hc
set_option maxRecDepth 100000 in
theorem RLen_calls (base q : Nat) (most : Int) (N : List Nt) (w : World) (h : RM w base q most N) :
    Calls Tryz.prog 46 #[.pointer (some ⟨q, 0, none⟩)] w fun e w' => e = .returned (.int .i64 (N.length : Nat)) ∧ w = w' := by
  obtain ⟨v, h1, h2⟩ := h.cells
  obtain ⟨A, c, rfl, hlc, _⟩ := (Lo.ofR h2).slice
  have c1 := cell_of_row w q 1 _ 26 (0, 0) h1
  clear h1 h2
  go_enter Tryz.func46, Tryz.ntmps46
  go_wp2
  go_ret
  exact ⟨rfl, rfl⟩
def atPl (t : Int) (tab : ByteArray) (a : Nt) : Bool := (a.1 == t) && (a.2.t.toList == tab.toList)
def countN (N : List Nt) (t : Int) (tab : ByteArray) : Nat := (N.filter (atPl t tab)).length
def CN (w : World) (N : List Nt) (t : Int) (tab : ByteArray) (v7 v8 : Value) (wr : World) : Prop := ∃ j : Nat, j ≤ N.length ∧ v8 = .int .i64 (j : Int) ∧ v7 = .int .i64 ((N.take j).filter (atPl t tab)).length ∧ wr = w
set_option maxHeartbeats 4000000 in
set_option maxRecDepth 100000 in
theorem count_calls (base : Nat) (v : Value) (N : List Nt) (t : Int) (tab : ByteArray) (w : World) (h : RowN w base v N) (hl : N.length ≤ 65537) :
    Calls Tryz.prog 57 #[v, .int .i64 t, .string tab] w fun e w' => e = .returned (.int .i64 (countN N t tab : Nat)) ∧ w = w' := by
  obtain ⟨A, c, rfl, hlc, hA⟩ := h.slice
  go_enter Tryz.func57, Tryz.ntmps57
  go_wp2_with fail
  go_loopw [7, 8] (fun v7 v8 wr => CN w N t tab v7 v8 wr) (fun _ v8 _ => N.length - (intOf v8).toNat)
  case atStart => exact ⟨0, Nat.zero_le _, rfl, rfl, rfl⟩
  case round =>
    obtain ⟨j, hj, rfl, rfl, rfl⟩ := hrel
    have hfl := List.length_filter_le (atPl t tab) (N.take j)
    have htl : (N.take j).length = j := by rw [List.length_take]; omega
    by_cases hlt : j < N.length
    · obtain ⟨g, rfl, _⟩ := hA (by omega)
      have htk : N.take (j + 1) = N.take j ++ [N[j]] := List.take_succ_eq_append_getElem hlt
      obtain ⟨q0, q1, q2, q3, q4⟩ := RowN.at h j N[j] (List.getElem?_eq_getElem hlt)
      generalize N[j] = x at q0 q1 q2 q3 q4 htk
      have hcount : ((N.take (j + 1)).filter (atPl t tab)).length = ((N.take j).filter (atPl t tab)).length + (if atPl t tab x = true then 1 else 0) := by
        rw [htk, List.filter_append, List.length_append]
        congr 1
        rw [List.filter_cons]
        split <;> simp
      generalize hm : ((N.take j).filter (atPl t tab)).length = m at hcount hfl
      have hml : m ≤ 65537 := by omega
      cases hA1 : x.1 == t with
      | true =>
        cases hA2 : x.2.t.toList == tab.toList with
        | true =>
          have hx : atPl t tab x = true := by unfold atPl; rw [hA1, hA2]; rfl
          rw [if_pos hx] at hcount
          have fin : CN wr N t tab (.int .i64 ((m : Int) + 1)) (.int .i64 ((j : Int) + 1)) wr := ⟨j + 1, by omega, by simp, by rw [hcount]; simp, rfl⟩
          have hA2' : x.2.t.toList = tab.toList := by simpa using hA2
          clear h hx hcount htk
          go_wp2
          refine ⟨fin, ?_⟩
          simp [intOf]
          omega
        | false =>
          have hx : atPl t tab x = false := by unfold atPl; rw [hA2]; simp
          rw [if_neg (by rw [hx]; decide)] at hcount
          have fin : CN wr N t tab (.int .i64 (m : Int)) (.int .i64 ((j : Int) + 1)) wr := ⟨j + 1, by omega, by simp, by rw [hcount]; simp, rfl⟩
          have hA2' : ¬ x.2.t.toList = tab.toList := by simpa using hA2
          clear h hx hcount htk
          go_wp2
          refine ⟨fin, ?_⟩
          simp [intOf]
          omega
      | false =>
        have hx : atPl t tab x = false := by unfold atPl; rw [hA1]; rfl
        rw [if_neg (by rw [hx]; decide)] at hcount
        have fin : CN wr N t tab (.int .i64 (m : Int)) (.int .i64 ((j : Int) + 1)) wr := ⟨j + 1, by omega, by simp, by rw [hcount]; simp, rfl⟩
        clear h hx hcount htk
        go_wp2
        refine ⟨fin, ?_⟩
        simp [intOf]
        omega
    · obtain rfl : j = N.length := by omega
      rw [List.take_length]
      clear h
      go_wp2
      go_ret
      exact ⟨rfl, rfl⟩
end Go.Proofs.YteikmnokmcnmcaaGreat
namespace Go.Proofs.YteikmnokmcnmcaaGreat
open Go.RowKit Go.Maps Go.Sort Go.Lib Go.Proofs.YteikmnokmcnmcaaGreatW.PrintWords Go.Proofs.YteikmnokmcnmcaaGreatW.PrintLast Go.Proofs.YteikmnokmcnmcaaGreatW.PrintMore
set_option linter.unusedVariables false
set_option linter.unusedSimpArgs false
set_option linter.unusedSectionVars false
/-! ### put -/
theorem appsI {W : World} {base : Nat} {v : Value} {xs ys : List Int} (h : dI.R 2 W base (fun _ => True) v xs) (A : Option Addr) (c : Nat) (hs : Src encI 1 W A ys) (hl : xs.length + ys.length ≤ 1000000) (hb : base ≤ W.heap.size) :
    ∃ v' w', (Builtin.append_ #[37, 37] 37 #[v, .slice A ys.length c]).run Tryz.prog W = .ok v' w' ∧ dI.R 2 w' base (fun _ => True) v' (xs ++ ys) ∧ W.grownBy w' v.ownBlock :=
  flat_appS h 37 37 _ 8 Tryz.underlying37 info2 rfl (by decide) (by decide) A c hs (by omega) hb (fun _ _ => trivial)
theorem appI1 {W : World} {base : Nat} {v : Value} {xs : List Int} (h : dI.R 2 W base (fun _ => True) v xs) (n : Int) (hl : xs.length ≤ 1000000) (hb : base ≤ W.heap.size) :
    ∃ v' w', (Builtin.append_ #[37, 37] 37 #[v, .slice (some ⟨W.heap.size, 0, none⟩) 1 1]).run Tryz.prog (W.alloc (.cells #[.int .i64 n] 2)) = .ok v' w' ∧ dI.R 2 w' base (fun _ => True) v' (xs ++ [n]) ∧ W.grownBy w' v.ownBlock :=
  flat_app h 37 37 _ 8 Tryz.underlying37 info2 rfl (by decide) (by decide) n (by omega) hb
theorem RowI.at {w : World} {base g n c : Nat} {xs : List Int} (h : RowI w base (.slice (some ⟨g, 0, none⟩) n c) xs) (j : Nat) (x : Int) (hj : xs[j]? = some x) : w.cell? ⟨g, j, none⟩ = some (.int .i64 x) := by
  have H := h.cell (fun _ => rfl) rfl j x hj 0 _ rfl
  simpa using H
def PJ (w : World) (xs : List Int) (n : Int) (v : Value) (wr : World) : Prop := ∃ i : Nat, i ≤ xs.length ∧ v = .int .i64 (i : Int) ∧ (∀ j (hj : j < xs.length), j < i → xs[j] < n) ∧ wr = w
def PutPost (w : World) (base : Nat) (xs : List Int) (n : Int) (e : Ending) (w' : World) : Prop := ∃ v' ys, e = .returned v' ∧ dI.R 2 w' base (fun _ => True) v' ys ∧ ys.Pairwise (· < ·) ∧ (∀ z, z ∈ ys ↔ z ∈ xs ∨ z = n) ∧ ys.length ≤ xs.length + 1 ∧ Below w.heap.size w w'
set_option maxHeartbeats 8000000 in
set_option maxRecDepth 100000 in
theorem put_calls (base : Nat) (v : Value) (xs : List Int) (n : Int) (w : World) (h : dI.R 2 w base (fun _ => True) v xs) (hl : xs.length ≤ 65536) (hb : base ≤ w.heap.size) (hr : xs.Pairwise (· < ·)) :
    Calls Tryz.prog 49 #[v, .int .i64 n] w fun e w' => PutPost w base xs n e w' := by
  have hrow := Lo.ofR h
  obtain ⟨A, c, rfl, hlc, hA⟩ := hrow.slice
  go_enter Tryz.func49, Tryz.ntmps49
  go_wp2_with fail
  go_loopw [5] (fun v5 wr => PJ w xs n v5 wr) (fun v5 _ => xs.length - (intOf v5).toNat)
  case atStart => exact ⟨0, Nat.zero_le _, rfl, fun j _ hj => by omega, rfl⟩
  case round =>
    obtain ⟨i, hi, rfl, hlo, rfl⟩ := hrel
    have rest : i ≤ xs.length → (∀ hj : i < xs.length, n < xs[i]) → ∃ v1 w1 v2 w2 v3 w3, (Builtin.append_ #[37, 37] 37 #[.slice none 0 0, .slice A i c]).run Tryz.prog wr = .ok v1 w1 ∧ (Builtin.append_ #[37, 37] 37 #[v1, .slice (some ⟨w1.heap.size, 0, none⟩) 1 1]).run Tryz.prog (w1.alloc (.cells #[.int .i64 n] 2)) = .ok v2 w2 ∧
        (Builtin.append_ #[37, 37] 37 #[v2, .slice (if c = i then A else A.map (·.add (i * 1))) (xs.length - i) (c - i)]).run Tryz.prog w2 = .ok v3 w3 ∧ dI.R 2 w3 base (fun _ => True) v3 (xs.take i ++ [n] ++ xs.drop i) ∧ (xs.take i ++ [n] ++ xs.drop i).Pairwise (· < ·) ∧ Below wr.heap.size wr w3 := by
      intro hi' hgt
      have hs1 := Lo.srcTake hrow rfl hi'
      have htl : (xs.take i).length = i := by rw [List.length_take]; omega
      have hdl : (xs.drop i).length = xs.length - i := List.length_drop
      obtain ⟨v1, w1, r1, R1, G1⟩ := appsI (Kd.R_nil dI 2 wr wr.heap.size (fun _ => True)) A c hs1 (by rw [htl]; simp only [List.length_nil]; omega) (Nat.le_refl _)
      rw [htl] at r1
      rw [List.nil_append] at R1
      have B1 : Below wr.heap.size wr w1 := (Below.refl _ wr).grown G1 (Nat.le_refl _) (by simp [Value.ownBlock])
      obtain ⟨v2, w2, r2, R2, G2⟩ := appI1 R1 n (by rw [htl]; omega) B1.size
      have B2 : Below wr.heap.size wr w2 := B1.grown G2 B1.size (Kd.R_base R1)
      have hrow2 := hrow.grown (grown_of_below B2 none) (by simp)
      have hs2 := Lo.srcDrop hrow2 rfl hi'
      obtain ⟨v3, w3, r3, R3, G3⟩ := appsI R2 _ (c - i) hs2 (by rw [List.length_append, htl, hdl]; simp only [List.length_cons, List.length_nil]; omega) B2.size
      rw [hdl] at r3
      have B3 : Below wr.heap.size wr w3 := B2.grown G3 B2.size (Kd.R_base R2)
      exact ⟨v1, w1, v2, w2, v3, w3, r1, r2, r3, Kd.R_lower R3 hb, insert_rises hr n i hi' hlo hgt, B3⟩
    have cut1 := cutTo (P := Tryz.prog) 37 2 Tryz.underlying37 info2 A xs.length c i (by omega)
    have cut2 := cutOff (P := Tryz.prog) 37 2 Tryz.underlying37 info2 A xs.length c i (by omega)
    generalize (if c = i then A else A.map (·.add (i * 1))) = A3 at rest cut2
    by_cases hlt : i < xs.length
    · obtain ⟨g, rfl, _⟩ := hA (by omega)
      have y0 := RowI.at hrow i xs[i] (List.getElem?_eq_getElem hlt)
      rcases Int.lt_trichotomy xs[i] n with h1 | h1 | h1
      · have fin : PJ wr xs n (.int .i64 ((i : Int) + 1)) wr := by
          refine ⟨i + 1, by omega, by simp, fun j hj hji => ?_, rfl⟩
          rcases Nat.lt_or_ge j i with h2 | h2
          · exact hlo j hj h2
          · obtain rfl : j = i := by omega
            exact h1
        generalize xs[i] = x at y0 h1
        clear rest cut1 cut2 hlo hrow h
        replace fin := Aside0.mk fin
        go_wp2
        refine ⟨fin.out, ?_⟩
        simp [intOf]
        omega
      · have hm : n ∈ xs := by rw [← h1]; exact List.getElem_mem hlt
        have h1' : (xs[i] == n) = true := by simpa using h1
        have h2' : ¬ xs[i] < n := by omega
        generalize xs[i] = x at y0 h1' h2'
        clear rest cut1 cut2 hlo h1
        replace h := Aside0.mk h
        replace hrow := Aside0.mk hrow
        go_wp2
        go_ret
        exact ⟨.slice (some ⟨g, 0, none⟩) xs.length c, xs, rfl, h.out, hr, fun z => ⟨.inl, fun hz => by rcases hz with hz | rfl; exact hz; exact hm⟩, by omega, Below.refl _ _⟩
      · obtain ⟨v1, w1, v2, w2, v3, w3, r1, r2, r3, R3, P3, B3⟩ := rest hi (fun _ => h1)
        have h1' : (xs[i] == n) = false := by rw [beq_eq_false_iff_ne]; omega
        have h2' : ¬ xs[i] < n := by omega
        generalize xs[i] = x at y0 h1' h2'
        clear rest hlo h1
        replace h := Aside0.mk h
        replace hrow := Aside0.mk hrow
        replace R3 := Aside0.mk R3
        go_upto_region 8 with (at_builtin; refine app_list rfl rfl rfl rfl r1 ?_)
        clear r1 cut1
        go_upto_region 9 with (at_builtin; refine app_list rfl rfl rfl rfl r2 ?_)
        clear r2
        go_wp2_with (at_builtin; refine app_list rfl rfl rfl rfl r3 ?_)
        go_ret
        have hlen : (xs.take i ++ [n] ++ xs.drop i).length ≤ xs.length + 1 := by
          rw [List.length_append, List.length_append, List.length_take, List.length_drop, List.length_singleton]
          omega
        exact ⟨v3, _, rfl, R3.out, P3, insert_mem xs n i, hlen, B3⟩
    · obtain ⟨v1, w1, v2, w2, v3, w3, r1, r2, r3, R3, P3, B3⟩ := rest hi (fun hj => absurd hj hlt)
      have hge : ¬ (i : Int) < (xs.length : Int) := by omega
      clear rest hlo
      replace h := Aside0.mk h
      replace hrow := Aside0.mk hrow
      replace R3 := Aside0.mk R3
      go_upto_region 8 with (at_builtin; refine app_list rfl rfl rfl rfl r1 ?_)
      clear r1 cut1
      go_upto_region 9 with (at_builtin; refine app_list rfl rfl rfl rfl r2 ?_)
      clear r2
      go_wp2_with (at_builtin; refine app_list rfl rfl rfl rfl r3 ?_)
      go_ret
      have hlen : (xs.take i ++ [n] ++ xs.drop i).length ≤ xs.length + 1 := by
        rw [List.length_append, List.length_append, List.length_take, List.length_drop, List.length_singleton]
        omega
      exact ⟨v3, _, rfl, R3.out, P3, insert_mem xs n i, hlen, B3⟩
end Go.Proofs.YteikmnokmcnmcaaGreat
namespace Go.Proofs.YteikmnokmcnmcaaGreat
open Go.RowKit Go.Maps Go.Sort Go.Lib Go.Proofs.YteikmnokmcnmcaaGreatW.PrintWords Go.Proofs.YteikmnokmcnmcaaGreatW.PrintLast Go.Proofs.YteikmnokmcnmcaaGreatW.PrintMore
set_option linter.unusedVariables false
set_option linter.unusedSimpArgs false
set_option linter.unusedSectionVars false
/-! ### the document's Txns -/
def XJ (w : World) (base q : Nat) (most : Int) (N : List Nt) (v3 v4 : Value) (wr : World) : Prop :=
  ∃ (j : Nat) (ys : List Int), j ≤ N.length ∧ v4 = .int .i64 (j : Int) ∧ dI.R 2 wr w.heap.size (fun _ => True) v3 ys ∧ ys.Pairwise (· < ·) ∧ (∀ z, z ∈ ys ↔ z ∈ (N.take j).map (·.1)) ∧ ys.length ≤ j ∧ RM wr base q most N ∧ Below w.heap.size w wr
set_option maxHeartbeats 8000000 in
set_option maxRecDepth 100000 in
theorem RTxns_calls (base q : Nat) (most : Int) (N : List Nt) (w : World) (h : RM w base q most N) (hl : N.length ≤ 65536) :
    Calls Tryz.prog 16 #[.pointer (some ⟨q, 0, none⟩)] w fun e w' => ∃ v, e = .returned v ∧ dI.R 2 w' w.heap.size (fun _ => True) v (rise (N.map (·.1))) ∧ Below w.heap.size w w' := by
  go_enter Tryz.func16, Tryz.ntmps16
  go_wp2_with fail
  go_loopw [3, 4] (fun v3 v4 wr => XJ w base q most N v3 v4 wr) (fun _ v4 _ => N.length - (intOf v4).toNat)
  case atStart => exact ⟨0, [], Nat.zero_le _, rfl, Kd.R_nil _ _ _ _ _, List.Pairwise.nil, by simp, Nat.le_refl _, h, Below.refl _ _⟩
  case round =>
    clear h
    obtain ⟨j, ys, hj, rfl, hys, hri, hme, hyl, hM, hB⟩ := hrel
    obtain ⟨u, hc, hrow⟩ := hM.cells
    have hrN := Lo.ofR hrow
    obtain ⟨A, c, rfl, hlc, hA⟩ := hrN.slice
    have c1 := cell_of_row wr q 1 _ 26 (0, 0) hc
    by_cases hlt : j < N.length
    · obtain ⟨g, rfl, _⟩ := hA (by omega)
      have htk : N.take (j + 1) = N.take j ++ [N[j]] := List.take_succ_eq_append_getElem hlt
      obtain ⟨q0, q1, q2, q3, q4⟩ := RowN.at hrN j N[j] (List.getElem?_eq_getElem hlt)
      generalize N[j] = x at q0 q1 q2 q3 q4 htk
      have P := put_calls w.heap.size u3 ys x.1 wr hys (by omega) hB.size hri
      have fin : ∀ v' zs w', dI.R 2 w' w.heap.size (fun _ => True) v' zs → zs.Pairwise (· < ·) → (∀ z, z ∈ zs ↔ z ∈ ys ∨ z = x.1) → zs.length ≤ ys.length + 1 → Below wr.heap.size wr w' → XJ w base q most N v' (.int .i64 ((j : Int) + 1)) w' := by
        intro v' zs w' h1 h2 h3 h4 h5
        refine ⟨j + 1, zs, by omega, by simp, h1, h2, fun z => ?_, by omega, hM.below h5, below_then hB hB.size h5⟩
        rw [h3, hme, htk, List.map_append, List.mem_append]
        simp
      replace fin := Aside0.mk fin
      clear hys hri hme hM hrow hrN hc htk
      go_wp2_with fail
      refine P.mono ?_
      rintro e w' ⟨v', zs, rfl, h1, h2, h3, h4, h5⟩
      have F := fin.out v' zs w' h1 h2 h3 h4 h5
      clear h1 h2 h3 h4 h5
      replace F := Aside0.mk F
      go_wp2
      refine ⟨F.out, ?_⟩
      simp [intOf]
      omega
    · have hje : j = N.length := by omega
      have hge : ¬ (j : Int) < (N.length : Int) := by omega
      have e : rise (N.map (·.1)) = ys := (rise_eq hri (fun z => by rw [hme, hje, List.take_length])).symm
      clear hM hrow hrN hc
      replace hje := Aside0.mk hje
      go_wp2
      go_ret
      first | exact ⟨_, rfl, hys, hB⟩ | exact ⟨_, rfl, by rw [e]; exact hys, hB⟩
def YJ (w : World) (base q : Nat) (most : Int) (N : List Nt) (tab key : ByteArray) (v3 v4 : Value) (wr : World) : Prop :=
  ∃ (j : Nat) (ys : List Int), j ≤ N.length ∧ v4 = .int .i64 (j : Int) ∧ dI.R 2 wr w.heap.size (fun _ => True) v3 ys ∧ ys.Pairwise (· < ·) ∧ (∀ z, z ∈ ys ↔ z ∈ ((N.take j).filter (fun a => hasB a.2 tab key)).map (·.1)) ∧ ys.length ≤ j ∧ RM wr base q most N ∧ Below w.heap.size w wr
set_option maxHeartbeats 8000000 in
set_option maxRecDepth 100000 in
theorem RReaders_calls (base q : Nat) (most : Int) (N : List Nt) (tab key : ByteArray) (w : World) (h : RM w base q most N) (hl : N.length ≤ 65536) :
    Calls Tryz.prog 43 #[.pointer (some ⟨q, 0, none⟩), .string tab, .string key] w fun e w' => ∃ v, e = .returned v ∧ dI.R 2 w' w.heap.size (fun _ => True) v (rise ((N.filter (fun a => hasB a.2 tab key)).map (·.1))) ∧ Below w.heap.size w w' := by
  go_enter Tryz.func43, Tryz.ntmps43
  go_wp2_with fail
  go_loopw [7, 8] (fun v3 v4 wr => YJ w base q most N tab key v3 v4 wr) (fun _ v4 _ => N.length - (intOf v4).toNat)
  case atStart => exact ⟨0, [], Nat.zero_le _, rfl, Kd.R_nil _ _ _ _ _, List.Pairwise.nil, by simp, Nat.le_refl _, h, Below.refl _ _⟩
  case round =>
    clear h
    obtain ⟨j, ys, hj, rfl, hys, hri, hme, hyl, hM, hB⟩ := hrel
    obtain ⟨u, hc, hrow⟩ := hM.cells
    have hrN := Lo.ofR hrow
    obtain ⟨A, c, rfl, hlc, hA⟩ := hrN.slice
    have c1 := cell_of_row wr q 1 _ 26 (0, 0) hc
    by_cases hlt : j < N.length
    · obtain ⟨g, rfl, _⟩ := hA (by omega)
      have htk : N.take (j + 1) = N.take j ++ [N[j]] := List.take_succ_eq_append_getElem hlt
      obtain ⟨q0, q1, q2, q3, q4⟩ := RowN.at hrN j N[j] (List.getElem?_eq_getElem hlt)
      generalize N[j] = x at q0 q1 q2 q3 q4 htk
      have HC := has_calls x.2 tab key wr
      have htk2 : (N.take (j + 1)).filter (fun a => hasB a.2 tab key) = (N.take j).filter (fun a => hasB a.2 tab key) ++ (if hasB x.2 tab key = true then [x] else []) := by
        rw [htk, List.filter_append]
        congr 1
        rw [List.filter_cons]
        split <;> simp
      cases hh : hasB x.2 tab key with
      | true =>
        rw [hh] at HC
        rw [hh, if_pos rfl] at htk2
        have fin : ∀ W v' zs w', Below wr.heap.size wr W → dI.R 2 w' w.heap.size (fun _ => True) v' zs → zs.Pairwise (· < ·) → (∀ z, z ∈ zs ↔ z ∈ ys ∨ z = x.1) → zs.length ≤ ys.length + 1 → Below W.heap.size W w' → YJ w base q most N tab key v' (.int .i64 ((j : Int) + 1)) w' := by
          intro W v' zs w' h0 h1 h2 h3 h4 h5
          have h6 := below_then h0 h0.size h5
          refine ⟨j + 1, zs, by omega, by simp, h1, h2, fun z => ?_, by omega, hM.below h6, below_then hB hB.size h6⟩
          rw [h3, hme, htk2, List.map_append, List.mem_append]
          simp
        have PC := fun W (B : Below wr.heap.size wr W) => put_calls w.heap.size u7 ys x.1 W (Kd.R_below hys B) (by omega) (below_then hB hB.size B).size hri
        have hA2 := fun W (B : Below wr.heap.size wr W) => And.intro (cell_of_row W q 1 _ 26 (0, 0) (blk_below hc B)) ((B.cell (World.block_lt_of_cell? _ _ q0)).trans q0)
        replace fin := Aside0.mk fin
        clear hys hri hme hM hrow hrN hc htk htk2
        go_wp2_with fail
        refine HC.mono ?_
        rintro e W ⟨rfl, B0⟩
        have P := PC W B0
        obtain ⟨c1', q0'⟩ := hA2 W B0
        clear PC hA2
        go_wp2_with fail
        refine P.mono ?_
        rintro e w' ⟨v', zs, rfl, h1, h2, h3, h4, h5⟩
        have F := fin.out W v' zs w' B0 h1 h2 h3 h4 h5
        clear h1 h2 h3 h4 h5
        replace F := Aside0.mk F
        go_wp2
        refine ⟨F.out, ?_⟩
        simp [intOf]
        omega
      | false =>
        rw [hh] at HC
        rw [hh, if_neg (by decide), List.append_nil] at htk2
        have fin : ∀ W, Below wr.heap.size wr W → YJ w base q most N tab key u7 (.int .i64 ((j : Int) + 1)) W := by
          intro W h0
          refine ⟨j + 1, ys, by omega, by simp, Kd.R_below hys h0, hri, fun z => by rw [hme, htk2], by omega, hM.below h0, below_then hB hB.size h0⟩
        replace fin := Aside0.mk fin
        clear hys hri hme hM hrow hrN hc htk htk2
        go_wp2_with fail
        refine HC.mono ?_
        rintro e W ⟨rfl, B0⟩
        have F := fin.out W B0
        replace F := Aside0.mk F
        go_wp2
        refine ⟨F.out, ?_⟩
        simp [intOf]
        omega
    · have hje : j = N.length := by omega
      have hge : ¬ (j : Int) < (N.length : Int) := by omega
      have e : rise ((N.filter (fun a => hasB a.2 tab key)).map (·.1)) = ys := (rise_eq hri (fun z => by rw [hme, hje, List.take_length])).symm
      clear hM hrow hrN hc
      replace hje := Aside0.mk hje
      go_wp2
      go_ret
      first | exact ⟨_, rfl, hys, hB⟩ | exact ⟨_, rfl, by rw [e]; exact hys, hB⟩
end Go.Proofs.YteikmnokmcnmcaaGreat
namespace Go.Proofs.YteikmnokmcnmcaaGreat
open Go.RowKit Go.Maps Go.Sort Go.Lib Go.Proofs.YteikmnokmcnmcaaGreatW.PrintWords Go.Proofs.YteikmnokmcnmcaaGreatW.PrintLast Go.Proofs.YteikmnokmcnmcaaGreatW.PrintMore
set_option linter.unusedVariables false
set_option linter.unusedSimpArgs false
set_option linter.unusedSectionVars false
/-! ### the document's Drop -/
theorem info66 : (Tryz.prog.info? 66).map (fun i => (i.zero, i.size, i.bytes)) = some (some (.agg #[.int .i64 0, .string ByteArray.empty, .int .i64 0, .string ByteArray.empty, .string ByteArray.empty]), 5, 64) := by kernel_rfl
theorem appN {W : World} {base : Nat} {v : Value} {xs : List Nt} (h : dN.R 66 W base (fun _ => True) v xs) (a : Nt) (hl : xs.length ≤ 65537) (hb : base ≤ W.heap.size) :
    ∃ v' w', (Builtin.append_ #[24, 24] 24 #[v, .slice (some ⟨W.heap.size, 0, none⟩) 1 1]).run Tryz.prog (W.alloc (.cells #[.int .i64 a.1, .string a.2.t, .int .i64 a.2.k, .string a.2.f, .string a.2.u] 66)) = .ok v' w' ∧ dN.R 66 w' base (fun _ => True) v' (xs ++ [a]) ∧ W.grownBy w' v.ownBlock :=
  flat_app h 24 24 _ 64 Tryz.underlying24 info66 rfl (by decide) (by decide) a (by omega) hb
def DJr (w : World) (N : List Nt) (t : Int) (v5 v6 : Value) (wr : World) : Prop :=
  ∃ j : Nat, j ≤ N.length ∧ v6 = .int .i64 (j : Int) ∧ dN.R 66 wr w.heap.size (fun _ => True) v5 ((N.take j).filter (fun a => a.1 != t)) ∧ Below w.heap.size w wr
/-- the document's Drop, plain -/
def dropN (N : List Nt) (t : Int) : Int × List Nt := if t < 1 then (1, N) else (0, N.filter (fun a => a.1 != t))
set_option maxHeartbeats 8000000 in
set_option maxRecDepth 100000 in
theorem RDrop_calls (base q : Nat) (most : Int) (N : List Nt) (t : Int) (w : World) (h : RM w base q most N) (hl : N.length ≤ 65536) (hb : base ≤ w.heap.size) :
    Calls Tryz.prog 15 #[.pointer (some ⟨q, 0, none⟩), .int .i64 t] w fun e w' => e = .returned (.int .i64 (dropN N t).1) ∧ RM w' base q most (dropN N t).2 ∧ w.grownBy w' (some q) := by
  by_cases ht : t < 1
  · have e : dropN N t = (1, N) := by unfold dropN; rw [if_pos ht]
    rw [e]
    go_enter Tryz.func15, Tryz.ntmps15
    go_wp2
    go_ret
    exact ⟨rfl, h, ⟨rfl, rfl, rfl, Nat.le_refl _, fun _ _ _ => rfl⟩⟩
  · have e : dropN N t = (0, N.filter (fun a => a.1 != t)) := by unfold dropN; rw [if_neg ht]
    rw [e]
    replace e := Aside0.mk e
    have J0 : DJr w N t (.slice none 0 0) (.int .i64 0) w := ⟨0, Nat.zero_le _, rfl, Kd.R_nil _ _ _ _ _, Below.refl _ _⟩
    have hq0 : q < w.heap.size := by obtain ⟨u, hc, _⟩ := h.cells; exact (Array.getElem?_eq_some_iff.1 hc).1
    have hM0 := Aside0.mk h
    have h' := h.cells
    obtain ⟨u0, hc0, hr0⟩ := h'
    obtain ⟨A0, c00, rfl, _, _⟩ := (Lo.ofR hr0).slice
    have c10 := cell_of_row w q 1 _ 26 (0, 0) hc0
    clear h hc0 hr0
    go_enter Tryz.func15, Tryz.ntmps15
    go_wp2_with fail
    go_loopw [5, 6] (fun v5 v6 wr => DJr w N t v5 v6 wr) (fun _ v6 _ => N.length - (intOf v6).toNat)
    case atStart => exact J0
    case round =>
      clear J0
      obtain ⟨j, hj, rfl, hv, hB⟩ := hrel
      have hM := hM0.out.below hB
      obtain ⟨u, hc, hrow⟩ := hM.cells
      have hrN := Lo.ofR hrow
      obtain ⟨A, c, rfl, hlc, hA⟩ := hrN.slice
      have c1 := cell_of_row wr q 1 _ 26 (0, 0) hc
      by_cases hlt : j < N.length
      · obtain ⟨g, rfl, _⟩ := hA (by omega)
        have htk : N.take (j + 1) = N.take j ++ [N[j]] := List.take_succ_eq_append_getElem hlt
        obtain ⟨q0, q1, q2, q3, q4⟩ := RowN.at hrN j N[j] (List.getElem?_eq_getElem hlt)
        generalize N[j] = x at q0 q1 q2 q3 q4 htk
        have hfl := List.length_filter_le (fun a : Nt => a.1 != t) (N.take j)
        have htl : (N.take j).length = j := by rw [List.length_take]; omega
        cases hne : (x.1 != t) with
        | true =>
          obtain ⟨v', w', hrun, hv', hg'⟩ := appN hv x (by omega) hB.size
          have hbase := Kd.R_base hv
          have B' := hB.grown hg' hB.size hbase
          have fin : DJr w N t v' (.int .i64 ((j : Int) + 1)) w' := by
            refine ⟨j + 1, by omega, by simp, ?_, B'⟩
            rw [htk, List.filter_append]
            simpa [hne] using hv'
          replace fin := Aside0.mk fin
          clear hv hM hrow hrN hc htk
          go_wp2_with (at_builtin; refine app_list rfl rfl rfl rfl hrun ?_)
          refine ⟨fin.out, ?_⟩
          simp [intOf]
          omega
        | false =>
          have fin : DJr w N t u5 (.int .i64 ((j : Int) + 1)) wr := by
            refine ⟨j + 1, by omega, by simp, ?_, hB⟩
            rw [htk, List.filter_append]
            simpa [hne] using hv
          replace fin := Aside0.mk fin
          clear hv hM hrow hrN hc htk
          go_wp2
          refine ⟨fin.out, ?_⟩
          simp [intOf]
          omega
      · have hje : j = N.length := by omega
        have hge : ¬ (j : Int) < (N.length : Int) := by omega
        rw [hje, List.take_length] at hv
        have hql : q < wr.heap.size := (Array.getElem?_eq_some_iff.1 hc).1
        have fz := blk_fz hc 1
        obtain ⟨Av, cv, rfl, _, _⟩ := (Lo.ofR hv).slice
        clear hM hrow hrN
        replace hje := Aside0.mk hje
        replace hv := Aside0.mk hv
        go_wp2
        go_ret
        have hbs := Kd.R_base hv.out
        refine ⟨rfl, ⟨_, blk_set hc 1 _, ?_⟩, trans_grown (grown_of_below hB _) (grown_set wr q 1 _)⟩
        refine Kd.R_lower (Kd.R_mono (Kd.R_grown (Kd.R_bound hv.out) (grown_set wr q 1 _) (fun k hk e => ?_)) (fun _ _ => trivial)) hb
        injection e with e
        have := hk.2.1
        omega
end Go.Proofs.YteikmnokmcnmcaaGreat
