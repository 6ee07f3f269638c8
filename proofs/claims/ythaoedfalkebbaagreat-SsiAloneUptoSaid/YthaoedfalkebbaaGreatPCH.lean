/- Cut by a program out of the seat's texts (YC YD YE YF YG): what the theorem needs, one behind the other. -/
import Derived.Test.YthaoedfalkebbaaGreatPCG
import Derived.LaidEql
namespace Go.Proofs.YthaoedfalkebbaaGreat
open Go.RowKit Go.Maps Go.Sort Go.Lib Go.Shelf Go.Proofs.YthaoedfalkebbaaGreatW.PrintWords Go.Proofs.YthaoedfalkebbaaGreatW.PrintLast Go.Proofs.YthaoedfalkebbaaGreatW.PrintMore
set_option linter.unusedVariables false
set_option linter.unusedSimpArgs false
set_option linter.unusedSectionVars false
/-- those under way -/
def actN (l : List Tx) : List Int := (l.filter (fun t => t.act)).map (fun t => t.num)
theorem actN_len (S : Sm St) : (actN S.txs).length = S.acts := by unfold actN Sm.acts; rw [List.length_map]
theorem actN_le (l : List Tx) : (actN l).length ≤ l.length := by unfold actN; rw [List.length_map]; exact List.length_filter_le _ _
theorem tx_next {vis rem l : List Tx} {t : Tx} (hr : rem.Pairwise (fun a b => a.num ≠ b.num)) (h : (vis ++ rem).Perm l) (hm : t ∈ rem) : ((vis ++ [t]) ++ rem.filter (fun u => decide (u.num ≠ t.num))).Perm l := by
  obtain ⟨a, b, e⟩ := List.append_of_mem hm
  subst e
  rw [List.pairwise_append] at hr
  obtain ⟨h1, h2, h3⟩ := hr
  rw [List.pairwise_cons] at h2
  have e1 : a.filter (fun u => decide (u.num ≠ t.num)) = a := List.filter_eq_self.2 (fun u hu => by have := h3 u hu t List.mem_cons_self; simpa using this)
  have e2 : b.filter (fun u => decide (u.num ≠ t.num)) = b := List.filter_eq_self.2 (fun u hu => by have := h2.1 u hu; simp only [decide_eq_true_eq]; exact fun e => this e.symm)
  rw [List.filter_append, List.filter_cons, if_neg (by simp), e1, e2]
  refine List.Perm.trans ?_ h
  rw [List.append_assoc]
  refine List.Perm.append_left _ ?_
  exact (List.perm_middle (l₁ := a) (l₂ := b) (a := t)).symm
theorem txL_mem {Q : Int → Nat} {l : List Tx} {a : Int} {v : Option Nat} (h : (a, v) ∈ txL Q l) : ∃ t ∈ l, a = t.num ∧ v = some (Q t.num) := by
  obtain ⟨t, ht, e⟩ := List.mem_map.1 h
  injection e with e1 e2
  exact ⟨t, ht, e1.symm, e2.symm⟩
theorem txL_filter (Q : Int → Nat) (l : List Tx) (a : Int) : (txL Q l).filter (fun p => decide (p.1 ≠ a)) = txL Q (l.filter (fun u => decide (u.num ≠ a))) := by
  unfold txL
  rw [List.filter_map]
  rfl
theorem apart_txL {Q : Int → Nat} {l : List Tx} (h : (txL Q l).Pairwise (fun p p' => p.1 ≠ p'.1)) : l.Pairwise (fun a b => a.num ≠ b.num) := by
  unfold txL at h
  rw [List.pairwise_map] at h
  exact h
/-- numbers of a permutation, sorted -/
theorem actN_sort {vis l : List Tx} (hp : vis.Perm l) (hd : l.Pairwise (fun a b => a.num < b.num)) : ((actN vis).mergeSort fun x y => decide (x ≤ y)) = actN l := by
  have hs : (actN l).Pairwise (· < ·) := by
    unfold actN
    rw [List.pairwise_map]
    exact hd.sublist List.filter_sublist
  have hpp : (actN vis).Perm (actN l) := (hp.filter _).map _
  have hm := List.mergeSort_perm (actN vis) (fun x y => decide (x ≤ y))
  have hsorted : ((actN vis).mergeSort fun x y => decide (x ≤ y)).Pairwise (fun x y => decide (x ≤ y) = true) := List.pairwise_mergeSort (fun a b c h1 h2 => by simp only [decide_eq_true_eq] at *; omega) (fun a b => by simp only [Bool.or_eq_true, decide_eq_true_eq]; omega) _
  have hnd : (actN l).Nodup := by rw [List.nodup_iff_pairwise_ne]; exact hs.imp (fun h => by omega)
  have hnd2 : ((actN vis).mergeSort fun x y => decide (x ≤ y)).Nodup := (hm.trans hpp).nodup_iff.2 hnd
  refine strict_unique ?_ hs (fun x => (hm.trans hpp).mem_iff)
  rw [List.nodup_iff_pairwise_ne] at hnd2
  exact (hsorted.and hnd2).imp (fun ⟨h1, h2⟩ => by simp only [decide_eq_true_eq] at h1; omega)
def AcJ (w : World) (l : Loc) (txs : List Tx) (v : Value) (wr : World) : Prop :=
  ∃ vis rem : List Tx, (vis ++ rem).Perm txs ∧ RngT wr l.mb w.heap.size txs.length (txL l.Q txs) (txL l.Q rem) ∧ dI.R 2 wr w.heap.size (fun k => w.heap.size < k) v (actN vis) ∧ Below w.heap.size w wr
set_option maxHeartbeats 8000000 in
set_option maxRecDepth 100000 in
theorem Active_s (base : Nat) (l : Loc) (S : Sm St) (w : World) (h : Pm w base l S) :
    Calls Tryz.prog 26 #[ptr l.p] w fun e w' => ∃ v, e = .returned v ∧ dI.R 2 w' w.heap.size (fun _ => True) v (actN S.txs) ∧ Below w.heap.size w w' := by
  obtain ⟨_, _, _, _, _, _, _, c7, _, _⟩ := h.cells
  have N := none_s l.p l.mb w c7
  have hfew := h.few
  have hblt : l.mb < w.heap.size := h.tab.lt
  have hdist := h.dist
  have htx := fun t (ht : t ∈ S.txs) => h.tx t ht
  obtain ⟨w2, hrun, hRg, hg2, hs2⟩ := Tab.range (t := 86) keyN Tryz.underlying86 h.tab
  have HT : ∀ W, Below w.heap.size w W → ∀ t ∈ S.txs, W.cell? ⟨l.Q t.num, 2, none⟩ = some (.bool t.act) := fun W B t ht => by
    obtain ⟨v, hv, _⟩ := htx t ht
    exact (B.cell (World.block_lt_of_cell? _ _ (tx_cells hv).2.2.1)).trans (tx_cells hv).2.2.1
  clear h htx
  replace HT := Aside0.mk HT
  replace hdist := Aside0.mk hdist
  go_enter Tryz.func26, Tryz.ntmps26
  go_wp2_with fail
  refine N.mono ?_
  rintro e w' ⟨rfl, rfl⟩
  go_wp2_with fail
  go_loopw [3] (fun v wr => AcJ w l S.txs v wr) (fun _ wr => wr.rangeLeft l.mb w.heap.size)
  case atStart =>
    exact ⟨[], S.txs, List.Perm.refl _, hRg, Kd.R_nil _ _ _ _ _, (Below.refl _ w).grown hg2 (Nat.le_refl _) (by simp)⟩
  case round =>
    obtain ⟨vis, rem, hp, hr, hv, hB⟩ := hrel
    have hlenp := hp.length_eq
    rw [List.length_append] at hlenp
    rcases hr.next keyN valQ 0 with ⟨hnil, hrun1⟩ | ⟨a, sv, w3, hmem, hok, hrun1, hr3, hlt, hg3, hs3, hent⟩
    · have hrem : rem = [] := by
        cases rem with
        | nil => rfl
        | cons t rem => unfold txL at hnil; cases hnil
      subst hrem
      rw [List.append_nil] at hp
      have hbase0 := Kd.R_base hv
      have hle := actN_le vis
      have S := sortI_calls wr w.heap.size _ u3 _ hv (by omega)
      rw [actN_sort hp hdist.out] at S
      clear hnil
      go_wp2_with fail
      refine S.mono ?_
      rintro e w4 ⟨rfl, H4, G4⟩
      go_wp2
      go_ret
      exact ⟨_, rfl, ⟨fun _ _ => trivial, H4.2⟩, hB.grown G4 hB.size (fun k hk => hbase0 k hk)⟩
    · obtain ⟨t, ht, rfl, rfl⟩ := txL_mem hmem
      have htm : t ∈ S.txs := hp.mem_iff.1 (List.mem_append_right _ ht)
      have hB3 : Below w.heap.size w w3 := hB.grown hg3 hB.size (fun k e => by injection e with e; omega)
      have hv3 : dI.R 2 w3 w.heap.size (fun k => w.heap.size < k) u3 (actN vis) := Kd.R_grown hv hg3 (fun k hk e => by injection e with e; omega)
      have hrl : w.heap.size < wr.heap.size := hr.lt
      have hact := HT.out w3 hB3 t htm
      rw [txL_filter] at hr3
      have hpn := tx_next (apart_txL hr.apart) hp ht
      have hvl := actN_le vis
      have hlen : (actN vis).length ≤ 65536 := by omega
      unfold mkN mvQ at hrun1 hent
      clear hmem hok
      cases ha : t.act with
      | false =>
        rw [ha] at hact
        have F : AcJ w l S.txs u3 w3 ∧ w3.rangeLeft l.mb w.heap.size < wr.rangeLeft l.mb w.heap.size := by
          refine ⟨⟨vis ++ [t], _, hpn, hr3, ?_, hB3⟩, hlt⟩
          have : actN (vis ++ [t]) = actN vis := by unfold actN; rw [List.filter_append]; simp [ha]
          rw [this]
          exact hv3
        replace F := Aside0.mk F
        replace ha := Aside0.mk ha
        clear hr hv hv3 hr3 hlt hpn
        go_wp2
        exact F.out
      | true =>
        rw [ha] at hact
        obtain ⟨W, hW⟩ : ∃ W, W = w3 := ⟨_, rfl⟩
        have hbase0 := Kd.R_base hv3
        have fin : ∀ v1 w6, dI.R 2 w6 w.heap.size (fun k => w.heap.size < k) v1 (actN vis ++ [t.num]) → Below w.heap.size w w6 → w3.grownBy w6 u3.ownBlock → AcJ w l S.txs v1 w6 ∧ w6.rangeLeft l.mb w.heap.size < wr.rangeLeft l.mb w.heap.size := by
          intro v1 w6 H6 B6 G6
          obtain ⟨hr7, el2⟩ := hr3.kept G6 (fun e => by have := hbase0 _ e.symm; omega) (fun e => by have := hv3.1 _ e.symm; omega)
          refine ⟨⟨vis ++ [t], _, hpn, hr7, ?_, B6⟩, by rw [el2]; exact hlt⟩
          have : actN (vis ++ [t]) = actN vis ++ [t.num] := by unfold actN; rw [List.filter_append]; simp [ha]
          rw [this]
          exact H6
        have hWs : w.heap.size < w3.heap.size := by omega
        clear hW
        replace ha := Aside0.mk ha
        go_wp2_with (at_builtin; refine appI (v := u3) rfl rfl rfl rfl hv3 hB3 hlen (by first | rfl | exact hs3) (fun k hk => by omega) ?_; intro v1 w6 H6 B6 G6)
        exact fin _ _ H6 B6 G6
end Go.Proofs.YthaoedfalkebbaaGreat
namespace Go.Proofs.YthaoedfalkebbaaGreat
open Go.RowKit Go.Maps Go.Sort Go.Lib Go.Shelf Go.Proofs.YthaoedfalkebbaaGreatW.PrintWords Go.Proofs.YthaoedfalkebbaaGreatW.PrintLast Go.Proofs.YthaoedfalkebbaaGreatW.PrintMore
set_option linter.unusedVariables false
set_option linter.unusedSimpArgs false
set_option linter.unusedSectionVars false
theorem info101 : (Tryz.prog.info? 101).map (fun i => i.size) = some 8 := by kernel_rfl
theorem neq99_same (a : Addr) (w : World) : (binOp .neq 99 (.pointer (some a)) (.pointer (some a))).run Tryz.prog w = .ok (.bool false) w := by
  obtain ⟨j, hj, hs⟩ := Option.map_eq_some_iff.1 info101
  have h : ∀ d : Nat, (Op.equalIn (d + 1) 99 (.pointer (some a)) (.pointer (some a))).run Tryz.prog w = .ok true w := fun d => by
    simp [Op.equalIn, run_underlying Tryz.underlying99, sizeOf, typeInfo, hj, run_sameAddr_same]
  simp only [binOp]
  simp [Op.equal, Op.maxDepth, h 9999]
theorem neq99_other {a b : Addr} {ca cb : Array Value} {ta tb : TypeId} (w : World) (hne : a ≠ b) (ha : w.heap[a.block]? = some (.cells ca ta (0, 0))) (hb : w.heap[b.block]? = some (.cells cb tb (0, 0))) : (binOp .neq 99 (.pointer (some a)) (.pointer (some b))).run Tryz.prog w = .ok (.bool true) w := by
  obtain ⟨j, hj, hs⟩ := Option.map_eq_some_iff.1 info101
  have hsz : j.size ≠ 0 := by rw [hs]; decide
  have h : ∀ d : Nat, (Op.equalIn (d + 1) 99 (.pointer (some a)) (.pointer (some b))).run Tryz.prog w = .ok false w := fun d => by
    simp [Op.equalIn, run_underlying Tryz.underlying99, sizeOf, typeInfo, hj, hsz, run_sameAddr_other w hne ha hb]
  simp only [binOp]
  simp [Op.equal, Op.maxDepth, h 9999]
theorem Pm.q {w : World} {base : Nat} {l : Loc} {S : Sm St} (h : Pm w base l S) {t o : Tx} (ht : t ∈ S.txs) (ho : o ∈ S.txs) : (l.Q o.num = l.Q t.num) ↔ o.num = t.num := ⟨fun e => h.qinj o ho t ht e, fun e => by rw [e]⟩
set_option maxHeartbeats 4000000 in
set_option maxRecDepth 100000 in
theorem concurrent_c (qt qo : Nat) (t o : Tx) (vt vo : Value) (w : World) (h1 : w.heap[qt]? = some (txCells t vt)) (h2 : w.heap[qo]? = some (txCells o vo)) (hq : qo = qt ↔ o.num = t.num) :
    Calls Tryz.prog 85 #[ptr qt, ptr qo] w fun e w' => e = .returned (.bool (concB t o)) ∧ ∃ n, w' = w.drewN n := by
  obtain ⟨_, _, _, a3, _⟩ := tx_cells h1
  obtain ⟨_, _, b2, _, b4, _⟩ := tx_cells h2
  by_cases e : qo = qt
  · have F : concB t o = false := by
      unfold concB
      simp [hq.1 e]
    rw [F]
    subst e
    have NQ := neq99_same ⟨qo, 0, none⟩ w
    have NQ1 := fun n => neq99_same ⟨qo, 0, none⟩ (w.drewN n)
    clear hq a3 b2 b4 h1 h2
    replace F := Aside0.mk F
    go_enter Tryz.func85, Tryz.ntmps85
    go_wp2_with fail
    go_quiet (fail)
    go_wp2
    go_ret
    exact ⟨rfl, _, rfl⟩
  · have hne : ¬ o.num = t.num := fun h => e (hq.2 h)
    have hna : (⟨qo, 0, none⟩ : Addr) ≠ ⟨qt, 0, none⟩ := fun h => by injection h with h; exact e h
    have NQ := neq99_other w hna h2 h1
    have NQ1 := fun n => neq99_other (w.drewN n) hna h2 h1
    clear hq h1 h2 hna
    cases ha : o.act with
    | true =>
      rw [ha] at b2
      have F : concB t o = true := by unfold concB; simp [hne, ha]
      rw [F]
      clear a3 b4
      replace F := Aside0.mk F
      replace ha := Aside0.mk ha
      replace hne := Aside0.mk hne
      go_enter Tryz.func85, Tryz.ntmps85
      go_wp2_with fail
      go_quiet (fail)
      go_wp2
      go_ret
      exact ⟨rfl, _, rfl⟩
    | false =>
      rw [ha] at b2
      have F : concB t o = decide (t.begun < o.ended) := by unfold concB; simp [hne, ha]
      rw [F]
      clear F
      replace ha := Aside0.mk ha
      replace hne := Aside0.mk hne
      go_enter Tryz.func85, Tryz.ntmps85
      go_wp2_with fail
      go_quiet (fail)
      go_wp2
      go_ret
      exact ⟨rfl, _, rfl⟩
set_option maxHeartbeats 2000000 in
set_option maxRecDepth 100000 in
theorem both_c (a b i o : Bool) (w : World) : Calls Tryz.prog 92 #[.agg #[.bool a, .bool b], .bool i, .bool o] w fun e w' => e = .returned (.bool (bothB a b i o)) ∧ Below w.heap.size w w' := by
  have B1 : Below w.heap.size w (w.alloc (.cells #[.bool a, .bool b] 67)) := (Below.refl _ w).alloc (Nat.le_refl _) _
  unfold bothB
  cases a <;> cases b <;> cases i <;> cases o
  all_goals
    go_enter Tryz.func92, Tryz.ntmps92
    go_wp2
    go_ret
    exact ⟨rfl, B1⟩
end Go.Proofs.YthaoedfalkebbaaGreat
namespace Go.Proofs.YthaoedfalkebbaaGreat
open Go.RowKit Go.Maps Go.Sort Go.Lib Go.Shelf Go.Proofs.YthaoedfalkebbaaGreatW.PrintWords Go.Proofs.YthaoedfalkebbaaGreatW.PrintLast Go.Proofs.YthaoedfalkebbaaGreatW.PrintMore
set_option linter.unusedVariables false
set_option linter.unusedSimpArgs false
set_option linter.unusedSectionVars false
set_option maxHeartbeats 4000000 in
set_option maxRecDepth 100000 in
theorem set_c (q : Nat) (t : Tx) (v : Value) (i : Bool) (w : World) (h : w.heap[q]? = some (txCells t v)) : Calls Tryz.prog 93 #[.pointer (some ⟨q, 5, none⟩), .bool i] w fun e w' => e = .returned (.tuple #[]) ∧ w'.heap[q]? = some (txCells (setF t i) v) ∧ w.grownBy w' (some q) := by
  obtain ⟨_, _, _, _, _, c5, c6, _⟩ := tx_cells h
  have fz5 : w.frozen? ⟨q, 5, none⟩ = false := blk_frozen h _
  have fz6 : ∀ x, (w.setCell ⟨q, 5, none⟩ x).frozen? ⟨q, 6, none⟩ = false := fun x => blk_frozen (blk_set h 5 x) _
  have fin : ∀ x y, x = (setF t i).fin → y = (setF t i).fout → ((w.setCell ⟨q, 5, none⟩ (.bool x)).setCell ⟨q, 6, none⟩ (.bool y)).drew.heap[q]? = some (txCells (setF t i) v) ∧ w.grownBy ((w.setCell ⟨q, 5, none⟩ (.bool x)).setCell ⟨q, 6, none⟩ (.bool y)).drew (some q) := by
    intro x y e1 e2
    refine ⟨?_, trans_grown (trans_grown (grown_set w q 5 _) (grown_set _ q 6 _)) (grown_none (drewG _))⟩
    show ((w.setCell ⟨q, 5, none⟩ (.bool x)).setCell ⟨q, 6, none⟩ (.bool y)).heap[q]? = _
    rw [blk_set (blk_set h 5 (.bool x)) 6 (.bool y), e1, e2]
    rfl
  replace fin := Aside0.mk fin
  cases hf : t.fin <;> cases ho : t.fout
  · rw [hf] at c5
    rw [ho] at c6
    replace hf := Aside0.mk hf
    replace ho := Aside0.mk ho
    replace h := Aside0.mk h
    go_enter Tryz.func93, Tryz.ntmps93
    go_wp2_with fail
    refine start_ (n := 23) (S := fun w' => w'.cell? ⟨q, 5, none⟩ = some (.bool false) ∧ w'.cell? ⟨q, 6, none⟩ = some (.bool false)) (ds := [19, 22]) #[false, false, false, false, false, false, false, false, false, false, false, false, false, false, false, false, false, false, false, false, false, false, false] (by kernel_rfl) rfl rfl ⟨c5, c6⟩ (fun hHeld => ?_)
    refine pure_ (i := 0) (N := some 4) (v := ?_) (a' := ?_) #[true, false, false, false, false, false, false, false, false, false, false, false, false, false, false, false, false, false, false, false, false, false, false] rfl rfl (by kernel_rfl) (fun _ _ _ h => h) (Or.inl ⟨by rfl, ?_⟩) ?_ ?_
    rotate_left
    · intro w'
      go_simp
      with_reducible rfl
    rotate_left
    · simp only [Act.put, List.setIfInBounds_toArray, List.set_cons_zero, List.set_cons_succ, i64_w, i32_w]
      rfl
    refine pure_ (i := 1) (N := some 5) (v := ?_) (a' := ?_) #[true, true, false, false, false, false, false, false, false, false, false, false, false, false, false, false, false, false, false, false, false, false, false] rfl rfl (by kernel_rfl) (fun _ _ _ h => h) (Or.inl ⟨by rfl, ?_⟩) ?_ ?_
    rotate_left
    · intro w'
      go_simp
      with_reducible rfl
    rotate_left
    · simp only [Act.put, List.setIfInBounds_toArray, List.set_cons_zero, List.set_cons_succ, i64_w, i32_w]
      rfl
    refine pure_ (i := 2) (N := some 6) (v := ?_) (a' := ?_) #[true, true, true, false, false, false, false, false, false, false, false, false, false, false, false, false, false, false, false, false, false, false, false] rfl rfl (by kernel_rfl) (fun _ _ _ h => h) (Or.inl ⟨by rfl, ?_⟩) ?_ ?_
    rotate_left
    · intro w'
      go_simp
      with_reducible rfl
    rotate_left
    · simp only [Act.put, List.setIfInBounds_toArray, List.set_cons_zero, List.set_cons_succ, i64_w, i32_w]
      rfl
    refine pure_ (i := 3) (N := some 7) (v := ?_) (a' := ?_) #[true, true, true, true, false, false, false, false, false, false, false, false, false, false, false, false, false, false, false, false, false, false, false] rfl rfl (by kernel_rfl) (fun _ _ _ h => h) (Or.inl ⟨by rfl, ?_⟩) ?_ ?_
    rotate_left
    · intro w'
      go_simp
      with_reducible rfl
    rotate_left
    · simp only [Act.put, List.setIfInBounds_toArray, List.set_cons_zero, List.set_cons_succ, i64_w, i32_w]
      rfl
    refine pure_ (i := 4) (N := some 8) (v := ?_) (a' := ?_) #[true, true, true, true, true, false, false, false, false, false, false, false, false, false, false, false, false, false, false, false, false, false, false] rfl rfl (by kernel_rfl) (fun _ _ _ h => h) (Or.inl ⟨by rfl, ?_⟩) ?_ ?_
    rotate_left
    · intro w'
      go_simp
      with_reducible rfl
    rotate_left
    · simp only [Act.put, List.setIfInBounds_toArray, List.set_cons_zero, List.set_cons_succ, i64_w, i32_w]
      rfl
    refine pure_ (i := 9) (N := some 13) (v := ?_) (a' := ?_) #[true, true, true, true, true, false, false, false, false, true, false, false, false, false, false, false, false, false, false, false, false, false, false] rfl rfl (by kernel_rfl) (fun _ _ _ h => h) (Or.inl ⟨by rfl, ?_⟩) ?_ ?_
    rotate_left
    · intro w'
      go_simp
      with_reducible rfl
    rotate_left
    · simp only [Act.put, List.setIfInBounds_toArray, List.set_cons_zero, List.set_cons_succ, i64_w, i32_w]
      rfl
    refine pure_ (i := 10) (N := some 14) (v := ?_) (a' := ?_) #[true, true, true, true, true, false, false, false, false, true, true, false, false, false, false, false, false, false, false, false, false, false, false] rfl rfl (by kernel_rfl) (fun _ _ _ h => h) (Or.inl ⟨by rfl, ?_⟩) ?_ ?_
    rotate_left
    · intro w'
      go_simp
      with_reducible rfl
    rotate_left
    · simp only [Act.put, List.setIfInBounds_toArray, List.set_cons_zero, List.set_cons_succ, i64_w, i32_w]
      rfl
    refine pure_ (i := 11) (N := some 15) (v := ?_) (a' := ?_) #[true, true, true, true, true, false, false, false, false, true, true, true, false, false, false, false, false, false, false, false, false, false, false] rfl rfl (by kernel_rfl) (fun _ _ _ h => h) (Or.inl ⟨by rfl, ?_⟩) ?_ ?_
    rotate_left
    · intro w'
      go_simp
      with_reducible rfl
    rotate_left
    · simp only [Act.put, List.setIfInBounds_toArray, List.set_cons_zero, List.set_cons_succ, i64_w, i32_w]
      rfl
    refine take_ (i := 5) (N := some 9) (v := ?_) (a' := ?_) #[true, true, true, true, true, true, false, false, false, true, true, true, false, false, false, false, false, false, false, false, false, false, false] rfl rfl (by kernel_rfl) (fun _ _ _ h => h) (Or.inl ⟨by rfl, ?_⟩) hHeld ?_ ?_
    rotate_left
    · rintro w' ⟨s0, s1⟩
      go_simp
      with_reducible rfl
    rotate_left
    · simp only [Act.put, List.setIfInBounds_toArray, List.set_cons_zero, List.set_cons_succ, i64_w, i32_w]
      rfl
    refine pure_ (i := 6) (N := some 10) (v := ?_) (a' := ?_) #[true, true, true, true, true, true, true, false, false, true, true, true, false, false, false, false, false, false, false, false, false, false, false] rfl rfl (by kernel_rfl) (fun _ _ _ h => h) (Or.inl ⟨by rfl, ?_⟩) ?_ ?_
    rotate_left
    · intro w'
      go_simp
      with_reducible rfl
    rotate_left
    · simp only [Act.put, List.setIfInBounds_toArray, List.set_cons_zero, List.set_cons_succ, i64_w, i32_w]
      rfl
    refine pure_ (i := 7) (N := some 11) (v := ?_) (a' := ?_) #[true, true, true, true, true, true, true, true, false, true, true, true, false, false, false, false, false, false, false, false, false, false, false] rfl rfl (by kernel_rfl) (fun _ _ _ h => h) (Or.inl ⟨by rfl, ?_⟩) ?_ ?_
    rotate_left
    · intro w'
      go_simp
      with_reducible rfl
    rotate_left
    · simp only [Act.put, List.setIfInBounds_toArray, List.set_cons_zero, List.set_cons_succ, i64_w, i32_w]
      rfl
    refine pure_ (i := 8) (N := some 12) (v := ?_) (a' := ?_) #[true, true, true, true, true, true, true, true, true, true, true, true, false, false, false, false, false, false, false, false, false, false, false] rfl rfl (by kernel_rfl) (fun _ _ _ h => h) (Or.inl ⟨by rfl, ?_⟩) ?_ ?_
    rotate_left
    · intro w'
      go_simp
      with_reducible rfl
    rotate_left
    · simp only [Act.put, List.setIfInBounds_toArray, List.set_cons_zero, List.set_cons_succ, i64_w, i32_w]
      rfl
    refine take_ (i := 12) (N := some 16) (v := ?_) (a' := ?_) #[true, true, true, true, true, true, true, true, true, true, true, true, true, false, false, false, false, false, false, false, false, false, false] rfl rfl (by kernel_rfl) (fun _ _ _ h => h) (Or.inl ⟨by rfl, ?_⟩) hHeld ?_ ?_
    rotate_left
    · rintro w' ⟨s0, s1⟩
      go_simp
      with_reducible rfl
    rotate_left
    · simp only [Act.put, List.setIfInBounds_toArray, List.set_cons_zero, List.set_cons_succ, i64_w, i32_w]
      rfl
    refine pure_ (i := 13) (N := some 17) (v := ?_) (a' := ?_) #[true, true, true, true, true, true, true, true, true, true, true, true, true, true, false, false, false, false, false, false, false, false, false] rfl rfl (by kernel_rfl) (fun _ _ _ h => h) (Or.inl ⟨by rfl, ?_⟩) ?_ ?_
    rotate_left
    · intro w'
      go_simp
      with_reducible rfl
    rotate_left
    · simp only [Act.put, List.setIfInBounds_toArray, List.set_cons_zero, List.set_cons_succ, i64_w, i32_w]
      rfl
    refine pure_ (i := 14) (N := some 18) (v := ?_) (a' := ?_) #[true, true, true, true, true, true, true, true, true, true, true, true, true, true, true, false, false, false, false, false, false, false, false] rfl rfl (by kernel_rfl) (fun _ _ _ h => h) (Or.inl ⟨by rfl, ?_⟩) ?_ ?_
    rotate_left
    · intro w'
      go_simp
      with_reducible rfl
    rotate_left
    · simp only [Act.put, List.setIfInBounds_toArray, List.set_cons_zero, List.set_cons_succ, i64_w, i32_w]
      rfl
    refine pure_ (i := 15) (N := some 19) (v := ?_) (a' := ?_) #[true, true, true, true, true, true, true, true, true, true, true, true, true, true, true, true, false, false, false, false, false, false, false] rfl rfl (by kernel_rfl) (fun _ _ _ h => h) (Or.inl ⟨by rfl, ?_⟩) ?_ ?_
    rotate_left
    · intro w'
      go_simp
      with_reducible rfl
    rotate_left
    · simp only [Act.put, List.setIfInBounds_toArray, List.set_cons_zero, List.set_cons_succ, i64_w, i32_w]
      rfl
    refine pure_ (i := 16) (N := some 20) (v := ?_) (a' := ?_) #[true, true, true, true, true, true, true, true, true, true, true, true, true, true, true, true, true, false, false, false, false, false, false] rfl rfl (by kernel_rfl) (fun _ _ _ h => h) (Or.inl ⟨by rfl, ?_⟩) ?_ ?_
    rotate_left
    · intro w'
      go_simp
      with_reducible rfl
    rotate_left
    · simp only [Act.put, List.setIfInBounds_toArray, List.set_cons_zero, List.set_cons_succ, i64_w, i32_w]
      rfl
    refine pure_ (i := 17) (N := some 21) (v := ?_) (a' := ?_) #[true, true, true, true, true, true, true, true, true, true, true, true, true, true, true, true, true, true, false, false, false, false, false] rfl rfl (by kernel_rfl) (fun _ _ _ h => h) (Or.inl ⟨by rfl, ?_⟩) ?_ ?_
    rotate_left
    · intro w'
      go_simp
      with_reducible rfl
    rotate_left
    · simp only [Act.put, List.setIfInBounds_toArray, List.set_cons_zero, List.set_cons_succ, i64_w, i32_w]
      rfl
    refine pure_ (i := 18) (N := some 22) (v := ?_) (a' := ?_) #[true, true, true, true, true, true, true, true, true, true, true, true, true, true, true, true, true, true, true, false, false, false, false] rfl rfl (by kernel_rfl) (fun _ _ _ h => h) (Or.inl ⟨by rfl, ?_⟩) ?_ ?_
    rotate_left
    · intro w'
      go_simp
      with_reducible rfl
    rotate_left
    · simp only [Act.put, List.setIfInBounds_toArray, List.set_cons_zero, List.set_cons_succ, i64_w, i32_w]
      rfl
    refine last_ (i := 19) (N := none) #[true, true, true, true, true, true, true, true, true, true, true, true, true, true, true, true, true, true, true, true, false, false, false] rfl rfl (by kernel_rfl) (by decide) (fun K hK => ?_)
    refine skip_ (w1 := ?_) (by rfl) rfl ?_ ?_
    rotate_left
    · go_simp
      rfl
    refine hK.out _ _ ?_
    clear hK K
    refine pure_ (i := 20) (N := some 23) (v := ?_) (a' := ?_) #[true, true, true, true, true, true, true, true, true, true, true, true, true, true, true, true, true, true, true, true, true, false, false] rfl rfl (by kernel_rfl) (fun _ _ _ h => h) (Or.inl ⟨by rfl, ?_⟩) ?_ ?_
    rotate_left
    · intro w'
      go_simp
      with_reducible rfl
    rotate_left
    · simp only [Act.put, List.setIfInBounds_toArray, List.set_cons_zero, List.set_cons_succ, i64_w, i32_w]
      rfl
    refine pure_ (i := 21) (N := some 24) (v := ?_) (a' := ?_) #[true, true, true, true, true, true, true, true, true, true, true, true, true, true, true, true, true, true, true, true, true, true, false] rfl rfl (by kernel_rfl) (fun _ _ _ h => h) (Or.inl ⟨by rfl, ?_⟩) ?_ ?_
    rotate_left
    · intro w'
      go_simp
      with_reducible rfl
    rotate_left
    · simp only [Act.put, List.setIfInBounds_toArray, List.set_cons_zero, List.set_cons_succ, i64_w, i32_w]
      rfl
    refine last_ (i := 22) (N := none) #[true, true, true, true, true, true, true, true, true, true, true, true, true, true, true, true, true, true, true, true, true, true, true] rfl rfl (by kernel_rfl) (by decide) (fun K hK => ?_)
    refine skip_ (w1 := ?_) (by rfl) rfl ?_ ?_
    rotate_left
    · go_simp
      rfl
    refine hK.out _ _ ?_
    clear hK K
    refine done_ (by kernel_rfl) ?_

    go_wp2
    go_end0
    exact ⟨rfl, fin.out _ _ (by simp [setF, hf.out]) (by simp [setF, ho.out])⟩
  · rw [hf] at c5
    rw [ho] at c6
    replace hf := Aside0.mk hf
    replace ho := Aside0.mk ho
    replace h := Aside0.mk h
    go_enter Tryz.func93, Tryz.ntmps93
    go_wp2_with fail
    refine start_ (n := 23) (S := fun w' => w'.cell? ⟨q, 5, none⟩ = some (.bool false) ∧ w'.cell? ⟨q, 6, none⟩ = some (.bool true)) (ds := [19, 22]) #[false, false, false, false, false, false, false, false, false, false, false, false, false, false, false, false, false, false, false, false, false, false, false] (by kernel_rfl) rfl rfl ⟨c5, c6⟩ (fun hHeld => ?_)
    refine pure_ (i := 0) (N := some 4) (v := ?_) (a' := ?_) #[true, false, false, false, false, false, false, false, false, false, false, false, false, false, false, false, false, false, false, false, false, false, false] rfl rfl (by kernel_rfl) (fun _ _ _ h => h) (Or.inl ⟨by rfl, ?_⟩) ?_ ?_
    rotate_left
    · intro w'
      go_simp
      with_reducible rfl
    rotate_left
    · simp only [Act.put, List.setIfInBounds_toArray, List.set_cons_zero, List.set_cons_succ, i64_w, i32_w]
      rfl
    refine pure_ (i := 1) (N := some 5) (v := ?_) (a' := ?_) #[true, true, false, false, false, false, false, false, false, false, false, false, false, false, false, false, false, false, false, false, false, false, false] rfl rfl (by kernel_rfl) (fun _ _ _ h => h) (Or.inl ⟨by rfl, ?_⟩) ?_ ?_
    rotate_left
    · intro w'
      go_simp
      with_reducible rfl
    rotate_left
    · simp only [Act.put, List.setIfInBounds_toArray, List.set_cons_zero, List.set_cons_succ, i64_w, i32_w]
      rfl
    refine pure_ (i := 2) (N := some 6) (v := ?_) (a' := ?_) #[true, true, true, false, false, false, false, false, false, false, false, false, false, false, false, false, false, false, false, false, false, false, false] rfl rfl (by kernel_rfl) (fun _ _ _ h => h) (Or.inl ⟨by rfl, ?_⟩) ?_ ?_
    rotate_left
    · intro w'
      go_simp
      with_reducible rfl
    rotate_left
    · simp only [Act.put, List.setIfInBounds_toArray, List.set_cons_zero, List.set_cons_succ, i64_w, i32_w]
      rfl
    refine pure_ (i := 3) (N := some 7) (v := ?_) (a' := ?_) #[true, true, true, true, false, false, false, false, false, false, false, false, false, false, false, false, false, false, false, false, false, false, false] rfl rfl (by kernel_rfl) (fun _ _ _ h => h) (Or.inl ⟨by rfl, ?_⟩) ?_ ?_
    rotate_left
    · intro w'
      go_simp
      with_reducible rfl
    rotate_left
    · simp only [Act.put, List.setIfInBounds_toArray, List.set_cons_zero, List.set_cons_succ, i64_w, i32_w]
      rfl
    refine pure_ (i := 4) (N := some 8) (v := ?_) (a' := ?_) #[true, true, true, true, true, false, false, false, false, false, false, false, false, false, false, false, false, false, false, false, false, false, false] rfl rfl (by kernel_rfl) (fun _ _ _ h => h) (Or.inl ⟨by rfl, ?_⟩) ?_ ?_
    rotate_left
    · intro w'
      go_simp
      with_reducible rfl
    rotate_left
    · simp only [Act.put, List.setIfInBounds_toArray, List.set_cons_zero, List.set_cons_succ, i64_w, i32_w]
      rfl
    refine pure_ (i := 9) (N := some 13) (v := ?_) (a' := ?_) #[true, true, true, true, true, false, false, false, false, true, false, false, false, false, false, false, false, false, false, false, false, false, false] rfl rfl (by kernel_rfl) (fun _ _ _ h => h) (Or.inl ⟨by rfl, ?_⟩) ?_ ?_
    rotate_left
    · intro w'
      go_simp
      with_reducible rfl
    rotate_left
    · simp only [Act.put, List.setIfInBounds_toArray, List.set_cons_zero, List.set_cons_succ, i64_w, i32_w]
      rfl
    refine pure_ (i := 10) (N := some 14) (v := ?_) (a' := ?_) #[true, true, true, true, true, false, false, false, false, true, true, false, false, false, false, false, false, false, false, false, false, false, false] rfl rfl (by kernel_rfl) (fun _ _ _ h => h) (Or.inl ⟨by rfl, ?_⟩) ?_ ?_
    rotate_left
    · intro w'
      go_simp
      with_reducible rfl
    rotate_left
    · simp only [Act.put, List.setIfInBounds_toArray, List.set_cons_zero, List.set_cons_succ, i64_w, i32_w]
      rfl
    refine pure_ (i := 11) (N := some 15) (v := ?_) (a' := ?_) #[true, true, true, true, true, false, false, false, false, true, true, true, false, false, false, false, false, false, false, false, false, false, false] rfl rfl (by kernel_rfl) (fun _ _ _ h => h) (Or.inl ⟨by rfl, ?_⟩) ?_ ?_
    rotate_left
    · intro w'
      go_simp
      with_reducible rfl
    rotate_left
    · simp only [Act.put, List.setIfInBounds_toArray, List.set_cons_zero, List.set_cons_succ, i64_w, i32_w]
      rfl
    refine take_ (i := 5) (N := some 9) (v := ?_) (a' := ?_) #[true, true, true, true, true, true, false, false, false, true, true, true, false, false, false, false, false, false, false, false, false, false, false] rfl rfl (by kernel_rfl) (fun _ _ _ h => h) (Or.inl ⟨by rfl, ?_⟩) hHeld ?_ ?_
    rotate_left
    · rintro w' ⟨s0, s1⟩
      go_simp
      with_reducible rfl
    rotate_left
    · simp only [Act.put, List.setIfInBounds_toArray, List.set_cons_zero, List.set_cons_succ, i64_w, i32_w]
      rfl
    refine pure_ (i := 6) (N := some 10) (v := ?_) (a' := ?_) #[true, true, true, true, true, true, true, false, false, true, true, true, false, false, false, false, false, false, false, false, false, false, false] rfl rfl (by kernel_rfl) (fun _ _ _ h => h) (Or.inl ⟨by rfl, ?_⟩) ?_ ?_
    rotate_left
    · intro w'
      go_simp
      with_reducible rfl
    rotate_left
    · simp only [Act.put, List.setIfInBounds_toArray, List.set_cons_zero, List.set_cons_succ, i64_w, i32_w]
      rfl
    refine pure_ (i := 7) (N := some 11) (v := ?_) (a' := ?_) #[true, true, true, true, true, true, true, true, false, true, true, true, false, false, false, false, false, false, false, false, false, false, false] rfl rfl (by kernel_rfl) (fun _ _ _ h => h) (Or.inl ⟨by rfl, ?_⟩) ?_ ?_
    rotate_left
    · intro w'
      go_simp
      with_reducible rfl
    rotate_left
    · simp only [Act.put, List.setIfInBounds_toArray, List.set_cons_zero, List.set_cons_succ, i64_w, i32_w]
      rfl
    refine pure_ (i := 8) (N := some 12) (v := ?_) (a' := ?_) #[true, true, true, true, true, true, true, true, true, true, true, true, false, false, false, false, false, false, false, false, false, false, false] rfl rfl (by kernel_rfl) (fun _ _ _ h => h) (Or.inl ⟨by rfl, ?_⟩) ?_ ?_
    rotate_left
    · intro w'
      go_simp
      with_reducible rfl
    rotate_left
    · simp only [Act.put, List.setIfInBounds_toArray, List.set_cons_zero, List.set_cons_succ, i64_w, i32_w]
      rfl
    refine take_ (i := 12) (N := some 16) (v := ?_) (a' := ?_) #[true, true, true, true, true, true, true, true, true, true, true, true, true, false, false, false, false, false, false, false, false, false, false] rfl rfl (by kernel_rfl) (fun _ _ _ h => h) (Or.inl ⟨by rfl, ?_⟩) hHeld ?_ ?_
    rotate_left
    · rintro w' ⟨s0, s1⟩
      go_simp
      with_reducible rfl
    rotate_left
    · simp only [Act.put, List.setIfInBounds_toArray, List.set_cons_zero, List.set_cons_succ, i64_w, i32_w]
      rfl
    refine pure_ (i := 13) (N := some 17) (v := ?_) (a' := ?_) #[true, true, true, true, true, true, true, true, true, true, true, true, true, true, false, false, false, false, false, false, false, false, false] rfl rfl (by kernel_rfl) (fun _ _ _ h => h) (Or.inl ⟨by rfl, ?_⟩) ?_ ?_
    rotate_left
    · intro w'
      go_simp
      with_reducible rfl
    rotate_left
    · simp only [Act.put, List.setIfInBounds_toArray, List.set_cons_zero, List.set_cons_succ, i64_w, i32_w]
      rfl
    refine pure_ (i := 14) (N := some 18) (v := undef) (a' := ?_) #[true, true, true, true, true, true, true, true, true, true, true, true, true, true, true, false, false, false, false, false, false, false, false] rfl rfl (by kernel_rfl) (fun _ _ _ h => h) (Or.inr ⟨by rfl, rfl⟩) ?_ ?_
    rotate_left
    · simp only [Act.put, List.setIfInBounds_toArray, List.set_cons_zero, List.set_cons_succ, i64_w, i32_w]
      rfl
    refine pure_ (i := 15) (N := some 19) (v := undef) (a' := ?_) #[true, true, true, true, true, true, true, true, true, true, true, true, true, true, true, true, false, false, false, false, false, false, false] rfl rfl (by kernel_rfl) (fun _ _ _ h => h) (Or.inr ⟨by rfl, rfl⟩) ?_ ?_
    rotate_left
    · simp only [Act.put, List.setIfInBounds_toArray, List.set_cons_zero, List.set_cons_succ, i64_w, i32_w]
      rfl
    refine pure_ (i := 16) (N := some 20) (v := ?_) (a' := ?_) #[true, true, true, true, true, true, true, true, true, true, true, true, true, true, true, true, true, false, false, false, false, false, false] rfl rfl (by kernel_rfl) (fun _ _ _ h => h) (Or.inl ⟨by rfl, ?_⟩) ?_ ?_
    rotate_left
    · intro w'
      go_simp
      with_reducible rfl
    rotate_left
    · simp only [Act.put, List.setIfInBounds_toArray, List.set_cons_zero, List.set_cons_succ, i64_w, i32_w]
      rfl
    refine pure_ (i := 17) (N := some 21) (v := ?_) (a' := ?_) #[true, true, true, true, true, true, true, true, true, true, true, true, true, true, true, true, true, true, false, false, false, false, false] rfl rfl (by kernel_rfl) (fun _ _ _ h => h) (Or.inl ⟨by rfl, ?_⟩) ?_ ?_
    rotate_left
    · intro w'
      go_simp
      with_reducible rfl
    rotate_left
    · simp only [Act.put, List.setIfInBounds_toArray, List.set_cons_zero, List.set_cons_succ, i64_w, i32_w]
      rfl
    refine pure_ (i := 18) (N := some 22) (v := ?_) (a' := ?_) #[true, true, true, true, true, true, true, true, true, true, true, true, true, true, true, true, true, true, true, false, false, false, false] rfl rfl (by kernel_rfl) (fun _ _ _ h => h) (Or.inl ⟨by rfl, ?_⟩) ?_ ?_
    rotate_left
    · intro w'
      go_simp
      with_reducible rfl
    rotate_left
    · simp only [Act.put, List.setIfInBounds_toArray, List.set_cons_zero, List.set_cons_succ, i64_w, i32_w]
      rfl
    refine last_ (i := 19) (N := none) #[true, true, true, true, true, true, true, true, true, true, true, true, true, true, true, true, true, true, true, true, false, false, false] rfl rfl (by kernel_rfl) (by decide) (fun K hK => ?_)
    refine skip_ (w1 := ?_) (by rfl) rfl ?_ ?_
    rotate_left
    · go_simp
      rfl
    refine hK.out _ _ ?_
    clear hK K
    refine pure_ (i := 20) (N := some 23) (v := ?_) (a' := ?_) #[true, true, true, true, true, true, true, true, true, true, true, true, true, true, true, true, true, true, true, true, true, false, false] rfl rfl (by kernel_rfl) (fun _ _ _ h => h) (Or.inl ⟨by rfl, ?_⟩) ?_ ?_
    rotate_left
    · intro w'
      go_simp
      with_reducible rfl
    rotate_left
    · simp only [Act.put, List.setIfInBounds_toArray, List.set_cons_zero, List.set_cons_succ, i64_w, i32_w]
      rfl
    refine pure_ (i := 21) (N := some 24) (v := ?_) (a' := ?_) #[true, true, true, true, true, true, true, true, true, true, true, true, true, true, true, true, true, true, true, true, true, true, false] rfl rfl (by kernel_rfl) (fun _ _ _ h => h) (Or.inl ⟨by rfl, ?_⟩) ?_ ?_
    rotate_left
    · intro w'
      go_simp
      with_reducible rfl
    rotate_left
    · simp only [Act.put, List.setIfInBounds_toArray, List.set_cons_zero, List.set_cons_succ, i64_w, i32_w]
      rfl
    refine last_ (i := 22) (N := none) #[true, true, true, true, true, true, true, true, true, true, true, true, true, true, true, true, true, true, true, true, true, true, true] rfl rfl (by kernel_rfl) (by decide) (fun K hK => ?_)
    refine skip_ (w1 := ?_) (by rfl) rfl ?_ ?_
    rotate_left
    · go_simp
      rfl
    refine hK.out _ _ ?_
    clear hK K
    refine done_ (by kernel_rfl) ?_

    go_wp2
    go_end0
    exact ⟨rfl, fin.out _ _ (by simp [setF, hf.out]) (by simp [setF, ho.out])⟩
  · rw [hf] at c5
    rw [ho] at c6
    replace hf := Aside0.mk hf
    replace ho := Aside0.mk ho
    replace h := Aside0.mk h
    go_enter Tryz.func93, Tryz.ntmps93
    go_wp2_with fail
    refine start_ (n := 23) (S := fun w' => w'.cell? ⟨q, 5, none⟩ = some (.bool true) ∧ w'.cell? ⟨q, 6, none⟩ = some (.bool false)) (ds := [19, 22]) #[false, false, false, false, false, false, false, false, false, false, false, false, false, false, false, false, false, false, false, false, false, false, false] (by kernel_rfl) rfl rfl ⟨c5, c6⟩ (fun hHeld => ?_)
    refine pure_ (i := 0) (N := some 4) (v := ?_) (a' := ?_) #[true, false, false, false, false, false, false, false, false, false, false, false, false, false, false, false, false, false, false, false, false, false, false] rfl rfl (by kernel_rfl) (fun _ _ _ h => h) (Or.inl ⟨by rfl, ?_⟩) ?_ ?_
    rotate_left
    · intro w'
      go_simp
      with_reducible rfl
    rotate_left
    · simp only [Act.put, List.setIfInBounds_toArray, List.set_cons_zero, List.set_cons_succ, i64_w, i32_w]
      rfl
    refine pure_ (i := 1) (N := some 5) (v := ?_) (a' := ?_) #[true, true, false, false, false, false, false, false, false, false, false, false, false, false, false, false, false, false, false, false, false, false, false] rfl rfl (by kernel_rfl) (fun _ _ _ h => h) (Or.inl ⟨by rfl, ?_⟩) ?_ ?_
    rotate_left
    · intro w'
      go_simp
      with_reducible rfl
    rotate_left
    · simp only [Act.put, List.setIfInBounds_toArray, List.set_cons_zero, List.set_cons_succ, i64_w, i32_w]
      rfl
    refine pure_ (i := 2) (N := some 6) (v := ?_) (a' := ?_) #[true, true, true, false, false, false, false, false, false, false, false, false, false, false, false, false, false, false, false, false, false, false, false] rfl rfl (by kernel_rfl) (fun _ _ _ h => h) (Or.inl ⟨by rfl, ?_⟩) ?_ ?_
    rotate_left
    · intro w'
      go_simp
      with_reducible rfl
    rotate_left
    · simp only [Act.put, List.setIfInBounds_toArray, List.set_cons_zero, List.set_cons_succ, i64_w, i32_w]
      rfl
    refine pure_ (i := 3) (N := some 7) (v := ?_) (a' := ?_) #[true, true, true, true, false, false, false, false, false, false, false, false, false, false, false, false, false, false, false, false, false, false, false] rfl rfl (by kernel_rfl) (fun _ _ _ h => h) (Or.inl ⟨by rfl, ?_⟩) ?_ ?_
    rotate_left
    · intro w'
      go_simp
      with_reducible rfl
    rotate_left
    · simp only [Act.put, List.setIfInBounds_toArray, List.set_cons_zero, List.set_cons_succ, i64_w, i32_w]
      rfl
    refine pure_ (i := 4) (N := some 8) (v := ?_) (a' := ?_) #[true, true, true, true, true, false, false, false, false, false, false, false, false, false, false, false, false, false, false, false, false, false, false] rfl rfl (by kernel_rfl) (fun _ _ _ h => h) (Or.inl ⟨by rfl, ?_⟩) ?_ ?_
    rotate_left
    · intro w'
      go_simp
      with_reducible rfl
    rotate_left
    · simp only [Act.put, List.setIfInBounds_toArray, List.set_cons_zero, List.set_cons_succ, i64_w, i32_w]
      rfl
    refine pure_ (i := 9) (N := some 13) (v := ?_) (a' := ?_) #[true, true, true, true, true, false, false, false, false, true, false, false, false, false, false, false, false, false, false, false, false, false, false] rfl rfl (by kernel_rfl) (fun _ _ _ h => h) (Or.inl ⟨by rfl, ?_⟩) ?_ ?_
    rotate_left
    · intro w'
      go_simp
      with_reducible rfl
    rotate_left
    · simp only [Act.put, List.setIfInBounds_toArray, List.set_cons_zero, List.set_cons_succ, i64_w, i32_w]
      rfl
    refine pure_ (i := 10) (N := some 14) (v := ?_) (a' := ?_) #[true, true, true, true, true, false, false, false, false, true, true, false, false, false, false, false, false, false, false, false, false, false, false] rfl rfl (by kernel_rfl) (fun _ _ _ h => h) (Or.inl ⟨by rfl, ?_⟩) ?_ ?_
    rotate_left
    · intro w'
      go_simp
      with_reducible rfl
    rotate_left
    · simp only [Act.put, List.setIfInBounds_toArray, List.set_cons_zero, List.set_cons_succ, i64_w, i32_w]
      rfl
    refine pure_ (i := 11) (N := some 15) (v := ?_) (a' := ?_) #[true, true, true, true, true, false, false, false, false, true, true, true, false, false, false, false, false, false, false, false, false, false, false] rfl rfl (by kernel_rfl) (fun _ _ _ h => h) (Or.inl ⟨by rfl, ?_⟩) ?_ ?_
    rotate_left
    · intro w'
      go_simp
      with_reducible rfl
    rotate_left
    · simp only [Act.put, List.setIfInBounds_toArray, List.set_cons_zero, List.set_cons_succ, i64_w, i32_w]
      rfl
    refine take_ (i := 5) (N := some 9) (v := ?_) (a' := ?_) #[true, true, true, true, true, true, false, false, false, true, true, true, false, false, false, false, false, false, false, false, false, false, false] rfl rfl (by kernel_rfl) (fun _ _ _ h => h) (Or.inl ⟨by rfl, ?_⟩) hHeld ?_ ?_
    rotate_left
    · rintro w' ⟨s0, s1⟩
      go_simp
      with_reducible rfl
    rotate_left
    · simp only [Act.put, List.setIfInBounds_toArray, List.set_cons_zero, List.set_cons_succ, i64_w, i32_w]
      rfl
    refine pure_ (i := 6) (N := some 10) (v := ?_) (a' := ?_) #[true, true, true, true, true, true, true, false, false, true, true, true, false, false, false, false, false, false, false, false, false, false, false] rfl rfl (by kernel_rfl) (fun _ _ _ h => h) (Or.inl ⟨by rfl, ?_⟩) ?_ ?_
    rotate_left
    · intro w'
      go_simp
      with_reducible rfl
    rotate_left
    · simp only [Act.put, List.setIfInBounds_toArray, List.set_cons_zero, List.set_cons_succ, i64_w, i32_w]
      rfl
    refine pure_ (i := 7) (N := some 11) (v := undef) (a' := ?_) #[true, true, true, true, true, true, true, true, false, true, true, true, false, false, false, false, false, false, false, false, false, false, false] rfl rfl (by kernel_rfl) (fun _ _ _ h => h) (Or.inr ⟨by rfl, rfl⟩) ?_ ?_
    rotate_left
    · simp only [Act.put, List.setIfInBounds_toArray, List.set_cons_zero, List.set_cons_succ, i64_w, i32_w]
      rfl
    refine pure_ (i := 8) (N := some 12) (v := ?_) (a' := ?_) #[true, true, true, true, true, true, true, true, true, true, true, true, false, false, false, false, false, false, false, false, false, false, false] rfl rfl (by kernel_rfl) (fun _ _ _ h => h) (Or.inl ⟨by rfl, ?_⟩) ?_ ?_
    rotate_left
    · intro w'
      go_simp
      with_reducible rfl
    rotate_left
    · simp only [Act.put, List.setIfInBounds_toArray, List.set_cons_zero, List.set_cons_succ, i64_w, i32_w]
      rfl
    refine take_ (i := 12) (N := some 16) (v := ?_) (a' := ?_) #[true, true, true, true, true, true, true, true, true, true, true, true, true, false, false, false, false, false, false, false, false, false, false] rfl rfl (by kernel_rfl) (fun _ _ _ h => h) (Or.inl ⟨by rfl, ?_⟩) hHeld ?_ ?_
    rotate_left
    · rintro w' ⟨s0, s1⟩
      go_simp
      with_reducible rfl
    rotate_left
    · simp only [Act.put, List.setIfInBounds_toArray, List.set_cons_zero, List.set_cons_succ, i64_w, i32_w]
      rfl
    refine pure_ (i := 13) (N := some 17) (v := ?_) (a' := ?_) #[true, true, true, true, true, true, true, true, true, true, true, true, true, true, false, false, false, false, false, false, false, false, false] rfl rfl (by kernel_rfl) (fun _ _ _ h => h) (Or.inl ⟨by rfl, ?_⟩) ?_ ?_
    rotate_left
    · intro w'
      go_simp
      with_reducible rfl
    rotate_left
    · simp only [Act.put, List.setIfInBounds_toArray, List.set_cons_zero, List.set_cons_succ, i64_w, i32_w]
      rfl
    refine pure_ (i := 14) (N := some 18) (v := ?_) (a' := ?_) #[true, true, true, true, true, true, true, true, true, true, true, true, true, true, true, false, false, false, false, false, false, false, false] rfl rfl (by kernel_rfl) (fun _ _ _ h => h) (Or.inl ⟨by rfl, ?_⟩) ?_ ?_
    rotate_left
    · intro w'
      go_simp
      with_reducible rfl
    rotate_left
    · simp only [Act.put, List.setIfInBounds_toArray, List.set_cons_zero, List.set_cons_succ, i64_w, i32_w]
      rfl
    refine pure_ (i := 15) (N := some 19) (v := ?_) (a' := ?_) #[true, true, true, true, true, true, true, true, true, true, true, true, true, true, true, true, false, false, false, false, false, false, false] rfl rfl (by kernel_rfl) (fun _ _ _ h => h) (Or.inl ⟨by rfl, ?_⟩) ?_ ?_
    rotate_left
    · intro w'
      go_simp
      with_reducible rfl
    rotate_left
    · simp only [Act.put, List.setIfInBounds_toArray, List.set_cons_zero, List.set_cons_succ, i64_w, i32_w]
      rfl
    refine pure_ (i := 16) (N := some 20) (v := ?_) (a' := ?_) #[true, true, true, true, true, true, true, true, true, true, true, true, true, true, true, true, true, false, false, false, false, false, false] rfl rfl (by kernel_rfl) (fun _ _ _ h => h) (Or.inl ⟨by rfl, ?_⟩) ?_ ?_
    rotate_left
    · intro w'
      go_simp
      with_reducible rfl
    rotate_left
    · simp only [Act.put, List.setIfInBounds_toArray, List.set_cons_zero, List.set_cons_succ, i64_w, i32_w]
      rfl
    refine pure_ (i := 17) (N := some 21) (v := ?_) (a' := ?_) #[true, true, true, true, true, true, true, true, true, true, true, true, true, true, true, true, true, true, false, false, false, false, false] rfl rfl (by kernel_rfl) (fun _ _ _ h => h) (Or.inl ⟨by rfl, ?_⟩) ?_ ?_
    rotate_left
    · intro w'
      go_simp
      with_reducible rfl
    rotate_left
    · simp only [Act.put, List.setIfInBounds_toArray, List.set_cons_zero, List.set_cons_succ, i64_w, i32_w]
      rfl
    refine pure_ (i := 18) (N := some 22) (v := ?_) (a' := ?_) #[true, true, true, true, true, true, true, true, true, true, true, true, true, true, true, true, true, true, true, false, false, false, false] rfl rfl (by kernel_rfl) (fun _ _ _ h => h) (Or.inl ⟨by rfl, ?_⟩) ?_ ?_
    rotate_left
    · intro w'
      go_simp
      with_reducible rfl
    rotate_left
    · simp only [Act.put, List.setIfInBounds_toArray, List.set_cons_zero, List.set_cons_succ, i64_w, i32_w]
      rfl
    refine last_ (i := 19) (N := none) #[true, true, true, true, true, true, true, true, true, true, true, true, true, true, true, true, true, true, true, true, false, false, false] rfl rfl (by kernel_rfl) (by decide) (fun K hK => ?_)
    refine skip_ (w1 := ?_) (by rfl) rfl ?_ ?_
    rotate_left
    · go_simp
      rfl
    refine hK.out _ _ ?_
    clear hK K
    refine pure_ (i := 20) (N := some 23) (v := ?_) (a' := ?_) #[true, true, true, true, true, true, true, true, true, true, true, true, true, true, true, true, true, true, true, true, true, false, false] rfl rfl (by kernel_rfl) (fun _ _ _ h => h) (Or.inl ⟨by rfl, ?_⟩) ?_ ?_
    rotate_left
    · intro w'
      go_simp
      with_reducible rfl
    rotate_left
    · simp only [Act.put, List.setIfInBounds_toArray, List.set_cons_zero, List.set_cons_succ, i64_w, i32_w]
      rfl
    refine pure_ (i := 21) (N := some 24) (v := ?_) (a' := ?_) #[true, true, true, true, true, true, true, true, true, true, true, true, true, true, true, true, true, true, true, true, true, true, false] rfl rfl (by kernel_rfl) (fun _ _ _ h => h) (Or.inl ⟨by rfl, ?_⟩) ?_ ?_
    rotate_left
    · intro w'
      go_simp
      with_reducible rfl
    rotate_left
    · simp only [Act.put, List.setIfInBounds_toArray, List.set_cons_zero, List.set_cons_succ, i64_w, i32_w]
      rfl
    refine last_ (i := 22) (N := none) #[true, true, true, true, true, true, true, true, true, true, true, true, true, true, true, true, true, true, true, true, true, true, true] rfl rfl (by kernel_rfl) (by decide) (fun K hK => ?_)
    refine skip_ (w1 := ?_) (by rfl) rfl ?_ ?_
    rotate_left
    · go_simp
      rfl
    refine hK.out _ _ ?_
    clear hK K
    refine done_ (by kernel_rfl) ?_

    go_wp2
    go_end0
    exact ⟨rfl, fin.out _ _ (by simp [setF, hf.out]) (by simp [setF, ho.out])⟩
  · rw [hf] at c5
    rw [ho] at c6
    replace hf := Aside0.mk hf
    replace ho := Aside0.mk ho
    replace h := Aside0.mk h
    go_enter Tryz.func93, Tryz.ntmps93
    go_wp2_with fail
    refine start_ (n := 23) (S := fun w' => w'.cell? ⟨q, 5, none⟩ = some (.bool true) ∧ w'.cell? ⟨q, 6, none⟩ = some (.bool true)) (ds := [19, 22]) #[false, false, false, false, false, false, false, false, false, false, false, false, false, false, false, false, false, false, false, false, false, false, false] (by kernel_rfl) rfl rfl ⟨c5, c6⟩ (fun hHeld => ?_)
    refine pure_ (i := 0) (N := some 4) (v := ?_) (a' := ?_) #[true, false, false, false, false, false, false, false, false, false, false, false, false, false, false, false, false, false, false, false, false, false, false] rfl rfl (by kernel_rfl) (fun _ _ _ h => h) (Or.inl ⟨by rfl, ?_⟩) ?_ ?_
    rotate_left
    · intro w'
      go_simp
      with_reducible rfl
    rotate_left
    · simp only [Act.put, List.setIfInBounds_toArray, List.set_cons_zero, List.set_cons_succ, i64_w, i32_w]
      rfl
    refine pure_ (i := 1) (N := some 5) (v := ?_) (a' := ?_) #[true, true, false, false, false, false, false, false, false, false, false, false, false, false, false, false, false, false, false, false, false, false, false] rfl rfl (by kernel_rfl) (fun _ _ _ h => h) (Or.inl ⟨by rfl, ?_⟩) ?_ ?_
    rotate_left
    · intro w'
      go_simp
      with_reducible rfl
    rotate_left
    · simp only [Act.put, List.setIfInBounds_toArray, List.set_cons_zero, List.set_cons_succ, i64_w, i32_w]
      rfl
    refine pure_ (i := 2) (N := some 6) (v := ?_) (a' := ?_) #[true, true, true, false, false, false, false, false, false, false, false, false, false, false, false, false, false, false, false, false, false, false, false] rfl rfl (by kernel_rfl) (fun _ _ _ h => h) (Or.inl ⟨by rfl, ?_⟩) ?_ ?_
    rotate_left
    · intro w'
      go_simp
      with_reducible rfl
    rotate_left
    · simp only [Act.put, List.setIfInBounds_toArray, List.set_cons_zero, List.set_cons_succ, i64_w, i32_w]
      rfl
    refine pure_ (i := 3) (N := some 7) (v := ?_) (a' := ?_) #[true, true, true, true, false, false, false, false, false, false, false, false, false, false, false, false, false, false, false, false, false, false, false] rfl rfl (by kernel_rfl) (fun _ _ _ h => h) (Or.inl ⟨by rfl, ?_⟩) ?_ ?_
    rotate_left
    · intro w'
      go_simp
      with_reducible rfl
    rotate_left
    · simp only [Act.put, List.setIfInBounds_toArray, List.set_cons_zero, List.set_cons_succ, i64_w, i32_w]
      rfl
    refine pure_ (i := 4) (N := some 8) (v := ?_) (a' := ?_) #[true, true, true, true, true, false, false, false, false, false, false, false, false, false, false, false, false, false, false, false, false, false, false] rfl rfl (by kernel_rfl) (fun _ _ _ h => h) (Or.inl ⟨by rfl, ?_⟩) ?_ ?_
    rotate_left
    · intro w'
      go_simp
      with_reducible rfl
    rotate_left
    · simp only [Act.put, List.setIfInBounds_toArray, List.set_cons_zero, List.set_cons_succ, i64_w, i32_w]
      rfl
    refine pure_ (i := 9) (N := some 13) (v := ?_) (a' := ?_) #[true, true, true, true, true, false, false, false, false, true, false, false, false, false, false, false, false, false, false, false, false, false, false] rfl rfl (by kernel_rfl) (fun _ _ _ h => h) (Or.inl ⟨by rfl, ?_⟩) ?_ ?_
    rotate_left
    · intro w'
      go_simp
      with_reducible rfl
    rotate_left
    · simp only [Act.put, List.setIfInBounds_toArray, List.set_cons_zero, List.set_cons_succ, i64_w, i32_w]
      rfl
    refine pure_ (i := 10) (N := some 14) (v := ?_) (a' := ?_) #[true, true, true, true, true, false, false, false, false, true, true, false, false, false, false, false, false, false, false, false, false, false, false] rfl rfl (by kernel_rfl) (fun _ _ _ h => h) (Or.inl ⟨by rfl, ?_⟩) ?_ ?_
    rotate_left
    · intro w'
      go_simp
      with_reducible rfl
    rotate_left
    · simp only [Act.put, List.setIfInBounds_toArray, List.set_cons_zero, List.set_cons_succ, i64_w, i32_w]
      rfl
    refine pure_ (i := 11) (N := some 15) (v := ?_) (a' := ?_) #[true, true, true, true, true, false, false, false, false, true, true, true, false, false, false, false, false, false, false, false, false, false, false] rfl rfl (by kernel_rfl) (fun _ _ _ h => h) (Or.inl ⟨by rfl, ?_⟩) ?_ ?_
    rotate_left
    · intro w'
      go_simp
      with_reducible rfl
    rotate_left
    · simp only [Act.put, List.setIfInBounds_toArray, List.set_cons_zero, List.set_cons_succ, i64_w, i32_w]
      rfl
    refine take_ (i := 5) (N := some 9) (v := ?_) (a' := ?_) #[true, true, true, true, true, true, false, false, false, true, true, true, false, false, false, false, false, false, false, false, false, false, false] rfl rfl (by kernel_rfl) (fun _ _ _ h => h) (Or.inl ⟨by rfl, ?_⟩) hHeld ?_ ?_
    rotate_left
    · rintro w' ⟨s0, s1⟩
      go_simp
      with_reducible rfl
    rotate_left
    · simp only [Act.put, List.setIfInBounds_toArray, List.set_cons_zero, List.set_cons_succ, i64_w, i32_w]
      rfl
    refine pure_ (i := 6) (N := some 10) (v := ?_) (a' := ?_) #[true, true, true, true, true, true, true, false, false, true, true, true, false, false, false, false, false, false, false, false, false, false, false] rfl rfl (by kernel_rfl) (fun _ _ _ h => h) (Or.inl ⟨by rfl, ?_⟩) ?_ ?_
    rotate_left
    · intro w'
      go_simp
      with_reducible rfl
    rotate_left
    · simp only [Act.put, List.setIfInBounds_toArray, List.set_cons_zero, List.set_cons_succ, i64_w, i32_w]
      rfl
    refine pure_ (i := 7) (N := some 11) (v := undef) (a' := ?_) #[true, true, true, true, true, true, true, true, false, true, true, true, false, false, false, false, false, false, false, false, false, false, false] rfl rfl (by kernel_rfl) (fun _ _ _ h => h) (Or.inr ⟨by rfl, rfl⟩) ?_ ?_
    rotate_left
    · simp only [Act.put, List.setIfInBounds_toArray, List.set_cons_zero, List.set_cons_succ, i64_w, i32_w]
      rfl
    refine pure_ (i := 8) (N := some 12) (v := ?_) (a' := ?_) #[true, true, true, true, true, true, true, true, true, true, true, true, false, false, false, false, false, false, false, false, false, false, false] rfl rfl (by kernel_rfl) (fun _ _ _ h => h) (Or.inl ⟨by rfl, ?_⟩) ?_ ?_
    rotate_left
    · intro w'
      go_simp
      with_reducible rfl
    rotate_left
    · simp only [Act.put, List.setIfInBounds_toArray, List.set_cons_zero, List.set_cons_succ, i64_w, i32_w]
      rfl
    refine take_ (i := 12) (N := some 16) (v := ?_) (a' := ?_) #[true, true, true, true, true, true, true, true, true, true, true, true, true, false, false, false, false, false, false, false, false, false, false] rfl rfl (by kernel_rfl) (fun _ _ _ h => h) (Or.inl ⟨by rfl, ?_⟩) hHeld ?_ ?_
    rotate_left
    · rintro w' ⟨s0, s1⟩
      go_simp
      with_reducible rfl
    rotate_left
    · simp only [Act.put, List.setIfInBounds_toArray, List.set_cons_zero, List.set_cons_succ, i64_w, i32_w]
      rfl
    refine pure_ (i := 13) (N := some 17) (v := ?_) (a' := ?_) #[true, true, true, true, true, true, true, true, true, true, true, true, true, true, false, false, false, false, false, false, false, false, false] rfl rfl (by kernel_rfl) (fun _ _ _ h => h) (Or.inl ⟨by rfl, ?_⟩) ?_ ?_
    rotate_left
    · intro w'
      go_simp
      with_reducible rfl
    rotate_left
    · simp only [Act.put, List.setIfInBounds_toArray, List.set_cons_zero, List.set_cons_succ, i64_w, i32_w]
      rfl
    refine pure_ (i := 14) (N := some 18) (v := undef) (a' := ?_) #[true, true, true, true, true, true, true, true, true, true, true, true, true, true, true, false, false, false, false, false, false, false, false] rfl rfl (by kernel_rfl) (fun _ _ _ h => h) (Or.inr ⟨by rfl, rfl⟩) ?_ ?_
    rotate_left
    · simp only [Act.put, List.setIfInBounds_toArray, List.set_cons_zero, List.set_cons_succ, i64_w, i32_w]
      rfl
    refine pure_ (i := 15) (N := some 19) (v := undef) (a' := ?_) #[true, true, true, true, true, true, true, true, true, true, true, true, true, true, true, true, false, false, false, false, false, false, false] rfl rfl (by kernel_rfl) (fun _ _ _ h => h) (Or.inr ⟨by rfl, rfl⟩) ?_ ?_
    rotate_left
    · simp only [Act.put, List.setIfInBounds_toArray, List.set_cons_zero, List.set_cons_succ, i64_w, i32_w]
      rfl
    refine pure_ (i := 16) (N := some 20) (v := ?_) (a' := ?_) #[true, true, true, true, true, true, true, true, true, true, true, true, true, true, true, true, true, false, false, false, false, false, false] rfl rfl (by kernel_rfl) (fun _ _ _ h => h) (Or.inl ⟨by rfl, ?_⟩) ?_ ?_
    rotate_left
    · intro w'
      go_simp
      with_reducible rfl
    rotate_left
    · simp only [Act.put, List.setIfInBounds_toArray, List.set_cons_zero, List.set_cons_succ, i64_w, i32_w]
      rfl
    refine pure_ (i := 17) (N := some 21) (v := ?_) (a' := ?_) #[true, true, true, true, true, true, true, true, true, true, true, true, true, true, true, true, true, true, false, false, false, false, false] rfl rfl (by kernel_rfl) (fun _ _ _ h => h) (Or.inl ⟨by rfl, ?_⟩) ?_ ?_
    rotate_left
    · intro w'
      go_simp
      with_reducible rfl
    rotate_left
    · simp only [Act.put, List.setIfInBounds_toArray, List.set_cons_zero, List.set_cons_succ, i64_w, i32_w]
      rfl
    refine pure_ (i := 18) (N := some 22) (v := ?_) (a' := ?_) #[true, true, true, true, true, true, true, true, true, true, true, true, true, true, true, true, true, true, true, false, false, false, false] rfl rfl (by kernel_rfl) (fun _ _ _ h => h) (Or.inl ⟨by rfl, ?_⟩) ?_ ?_
    rotate_left
    · intro w'
      go_simp
      with_reducible rfl
    rotate_left
    · simp only [Act.put, List.setIfInBounds_toArray, List.set_cons_zero, List.set_cons_succ, i64_w, i32_w]
      rfl
    refine last_ (i := 19) (N := none) #[true, true, true, true, true, true, true, true, true, true, true, true, true, true, true, true, true, true, true, true, false, false, false] rfl rfl (by kernel_rfl) (by decide) (fun K hK => ?_)
    refine skip_ (w1 := ?_) (by rfl) rfl ?_ ?_
    rotate_left
    · go_simp
      rfl
    refine hK.out _ _ ?_
    clear hK K
    refine pure_ (i := 20) (N := some 23) (v := ?_) (a' := ?_) #[true, true, true, true, true, true, true, true, true, true, true, true, true, true, true, true, true, true, true, true, true, false, false] rfl rfl (by kernel_rfl) (fun _ _ _ h => h) (Or.inl ⟨by rfl, ?_⟩) ?_ ?_
    rotate_left
    · intro w'
      go_simp
      with_reducible rfl
    rotate_left
    · simp only [Act.put, List.setIfInBounds_toArray, List.set_cons_zero, List.set_cons_succ, i64_w, i32_w]
      rfl
    refine pure_ (i := 21) (N := some 24) (v := ?_) (a' := ?_) #[true, true, true, true, true, true, true, true, true, true, true, true, true, true, true, true, true, true, true, true, true, true, false] rfl rfl (by kernel_rfl) (fun _ _ _ h => h) (Or.inl ⟨by rfl, ?_⟩) ?_ ?_
    rotate_left
    · intro w'
      go_simp
      with_reducible rfl
    rotate_left
    · simp only [Act.put, List.setIfInBounds_toArray, List.set_cons_zero, List.set_cons_succ, i64_w, i32_w]
      rfl
    refine last_ (i := 22) (N := none) #[true, true, true, true, true, true, true, true, true, true, true, true, true, true, true, true, true, true, true, true, true, true, true] rfl rfl (by kernel_rfl) (by decide) (fun K hK => ?_)
    refine skip_ (w1 := ?_) (by rfl) rfl ?_ ?_
    rotate_left
    · go_simp
      rfl
    refine hK.out _ _ ?_
    clear hK K
    refine done_ (by kernel_rfl) ?_

    go_wp2
    go_end0
    exact ⟨rfl, fin.out _ _ (by simp [setF, hf.out]) (by simp [setF, ho.out])⟩
end Go.Proofs.YthaoedfalkebbaaGreat
namespace Go.Proofs.YthaoedfalkebbaaGreat
open Go.RowKit Go.Maps Go.Sort Go.Lib Go.Shelf Go.Proofs.YthaoedfalkebbaaGreatW.PrintWords Go.Proofs.YthaoedfalkebbaaGreatW.PrintLast Go.Proofs.YthaoedfalkebbaaGreatW.PrintMore
set_option linter.unusedVariables false
set_option linter.unusedSimpArgs false
set_option linter.unusedSectionVars false
def encQ (q : Nat) : List Value := [ptr q]
theorem encQ_one (x : Nat) : ∀ u ∈ encQ x, u.oneCell' = true := fun u hu => by simp [encQ] at hu; rw [hu]; rfl
def dQ : Kd Nat := Kd.flat encQ 1 (fun _ => rfl) encQ_one
theorem info99 : (Tryz.prog.info? 99).map (fun i => (i.zero, i.size, i.bytes)) = some (some (.pointer none), 1, 8) := by kernel_rfl
section
variable {ops : Array Oper} {o : Oper} {Q : Exit → Act → World → Prop} {rest : List Oper} {a : Act}
theorem appQ {w W : World} {z : Nat} {s x : Operand} {v : Value} {xs : List Nat} {y : Nat} {ok : Nat → Prop} (hgd : o.guard = none) (ho : o.op = .call { callee := .builtin .append, args := #[s, x], argTypes := #[111, 111] })
    (hs : a.eval s = v) (hx : a.eval x = .slice (some ⟨z, 0, none⟩) 1 1) (HO : dQ.R 99 W w.heap.size ok v xs) (HB : Below w.heap.size w W) (hl : xs.length ≤ 65536) (hz : W.heap.size = z) (hfresh : ∀ k, W.heap.size ≤ k → ok k)
    (h : ∀ v1 w1, dQ.R 99 w1 w.heap.size ok v1 (xs ++ [y]) → Below w.heap.size w w1 → W.grownBy w1 v.ownBlock → wpList Tryz.prog ops Q rest (a.put o.dst v1) w1) : wpList Tryz.prog ops Q (o :: rest) a (W.alloc (.cells #[ptr y] 99)) := by
  subst hz
  refine Kd.R_append dQ (w0 := w) w.heap.size hgd s x 111 99 _ 8 ho Tryz.underlying111 info99 rfl (by decide) (by decide) v xs y [ptr y] ok (fun _ => False) hs hx rfl (fun _ hk => hk.elim) hfresh HO HB HB.size (by omega) ?_
  intro v1 w1 h1 h2 h3 _
  exact h v1 w1 h1 h2 h3
end
/-- a closure that tells of transactions -/
def PredT (w : World) (g : Nat) (lb : Array Value) (Q : Int → Nat) (so : Tx → Bool) (xs : List Tx) : Prop :=
  ∀ (W : World) (o : Tx), o ∈ xs → Below w.heap.size w W → Calls Tryz.prog g (#[ptr (Q o.num)] ++ lb) W fun e w' => e = .returned (.bool (so o)) ∧ Below W.heap.size W w'
def selQ (Q : Int → Nat) (t : Tx) (so : Tx → Bool) (l : List Tx) : List Nat := (l.filter (fun o => concB t o && so o)).map (fun o => Q o.num)
theorem selQ_le (Q : Int → Nat) (t : Tx) (so : Tx → Bool) (l : List Tx) : (selQ Q t so l).length ≤ l.length := by unfold selQ; rw [List.length_map]; exact List.length_filter_le _ _
def OtJ (w : World) (l : Loc) (t : Tx) (so : Tx → Bool) (txs : List Tx) (v : Value) (wr : World) : Prop :=
  ∃ vis rem : List Tx, (vis ++ rem).Perm txs ∧ RngT wr l.mb w.heap.size txs.length (txL l.Q txs) (txL l.Q rem) ∧ dQ.R 99 wr w.heap.size (fun k => w.heap.size < k) v (selQ l.Q t so vis) ∧ Below w.heap.size w wr
set_option maxHeartbeats 8000000 in
set_option maxRecDepth 100000 in
theorem others_s (base : Nat) (l : Loc) (S : Sm St) (t : Tx) (so : Tx → Bool) (g : Nat) (lb : Array Value) (eg : ∀ args w, (callFunc g args).run Tryz.prog w = .ok (.enter g args) w) (w : World) (h : Pm w base l S) (ht : t ∈ S.txs) (hp : PredT w g lb l.Q so S.txs) :
    Calls Tryz.prog 44 #[ptr l.p, ptr (l.Q t.num), .func (.func g) #[] lb] w fun e w' => ∃ v vis, e = .returned v ∧ vis.Perm S.txs ∧ dQ.R 99 w' w.heap.size (fun _ => True) v (selQ l.Q t so vis) ∧ Below w.heap.size w w' := by
  obtain ⟨_, _, _, _, _, _, _, c7, _, _⟩ := h.cells
  have hfew := h.few
  have hblt : l.mb < w.heap.size := h.tab.lt
  have htx := fun t (ht : t ∈ S.txs) => h.tx t ht
  have hqq := fun o (ho : o ∈ S.txs) => h.q ht ho
  obtain ⟨w2, hrun, hRg, hg2, hs2⟩ := Tab.range (t := 86) keyN Tryz.underlying86 h.tab
  have HT : ∀ W, Below w.heap.size w W → ∀ o ∈ S.txs, ∃ v, W.heap[l.Q o.num]? = some (txCells o v) := fun W B o ho => by
    obtain ⟨v, hv, _⟩ := htx o ho
    exact ⟨v, (B.block _ (Array.getElem?_eq_some_iff.1 hv).1).trans hv⟩
  have CC : ∀ W, Below w.heap.size w W → ∀ o ∈ S.txs, Calls Tryz.prog 85 #[ptr (l.Q t.num), ptr (l.Q o.num)] W fun e w' => e = .returned (.bool (concB t o)) ∧ ∃ n, w' = W.drewN n := fun W B o ho => by
    obtain ⟨v1, h1⟩ := HT W B t ht
    obtain ⟨v2, h2⟩ := HT W B o ho
    exact concurrent_c _ _ t o v1 v2 W h1 h2 (hqq o ho)
  clear h htx hqq HT
  generalize l.Q t.num = qt at CC ⊢
  replace CC := Aside0.mk CC
  replace hp := Aside0.mk hp
  go_enter Tryz.func44, Tryz.ntmps44
  go_wp2_with fail
  go_loopw [7] (fun v wr => OtJ w l t so S.txs v wr) (fun _ wr => wr.rangeLeft l.mb w.heap.size)
  case atStart =>
    exact ⟨[], S.txs, List.Perm.refl _, hRg, Kd.R_nil _ _ _ _ _, (Below.refl _ w).grown hg2 (Nat.le_refl _) (by simp)⟩
  case round =>
    obtain ⟨vis, rem, hpm, hr, hv, hB⟩ := hrel
    have hlenp := hpm.length_eq
    rw [List.length_append] at hlenp
    rcases hr.next keyN valQ 0 with ⟨hnil, hrun1⟩ | ⟨a, sv, w3, hmem, hok, hrun1, hr3, hlt, hg3, hs3, hent⟩
    · have hrem : rem = [] := by
        cases rem with
        | nil => rfl
        | cons t rem => unfold txL at hnil; cases hnil
      subst hrem
      rw [List.append_nil] at hpm
      clear hnil
      have F : ∃ vis : List Tx, vis.Perm S.txs ∧ dQ.R 99 wr w.heap.size (fun _ => True) u7 (selQ l.Q t so vis) ∧ Below w.heap.size w wr := ⟨vis, hpm, ⟨fun _ _ => trivial, hv.2⟩, hB⟩
      replace F := Aside0.mk F
      clear hr hv hpm
      go_wp2
      go_ret
      obtain ⟨vis, f1, f2, f3⟩ := F.out
      exact ⟨_, vis, rfl, f1, f2, f3⟩
    · obtain ⟨o, ho, rfl, rfl⟩ := txL_mem hmem
      have hom : o ∈ S.txs := hpm.mem_iff.1 (List.mem_append_right _ ho)
      have hB3 : Below w.heap.size w w3 := hB.grown hg3 hB.size (fun k e => by injection e with e; omega)
      have hv3 : dQ.R 99 w3 w.heap.size (fun k => w.heap.size < k) u7 (selQ l.Q t so vis) := Kd.R_grown hv hg3 (fun k hk e => by injection e with e; omega)
      have hrl : w.heap.size < wr.heap.size := hr.lt
      have C3 := CC.out w3 hB3 o hom
      rw [txL_filter] at hr3
      have hpn := tx_next (apart_txL hr.apart) hpm ho
      have hvl := selQ_le l.Q t so vis
      have hlen : (selQ l.Q t so vis).length ≤ 65536 := by omega
      unfold mkN mvQ at hrun1 hent
      have noadd : (concB t o && so o) = false → ∀ W, Below w3.heap.size w3 W → OtJ w l t so S.txs u7 W ∧ W.rangeLeft l.mb w.heap.size < wr.rangeLeft l.mb w.heap.size := by
        intro hx W BW
        obtain ⟨hr7, el2⟩ := hr3.kept (grown_of_below BW none) (by simp) (by simp)
        refine ⟨⟨vis ++ [o], _, hpn, hr7, ?_, below_then hB3 hB3.size BW⟩, by rw [el2]; exact hlt⟩
        have : selQ l.Q t so (vis ++ [o]) = selQ l.Q t so vis := by unfold selQ; rw [List.filter_append]; simp [hx]
        rw [this]
        exact Kd.R_below hv3 BW
      have addd : (concB t o && so o) = true → ∀ W v1 w6, Below w3.heap.size w3 W → dQ.R 99 w6 w.heap.size (fun k => w.heap.size < k) v1 (selQ l.Q t so vis ++ [l.Q o.num]) → Below w.heap.size w w6 → W.grownBy w6 u7.ownBlock → OtJ w l t so S.txs v1 w6 ∧ w6.rangeLeft l.mb w.heap.size < wr.rangeLeft l.mb w.heap.size := by
        intro hx W v1 w6 BW H6 B6 G6
        obtain ⟨hr7, el2⟩ := hr3.kept (grown_of_below BW none) (by simp) (by simp)
        have hbase0 := Kd.R_base hv3
        obtain ⟨hr8, el3⟩ := hr7.kept G6 (fun e => by have := hbase0 _ e.symm; omega) (fun e => by have := hv3.1 _ e.symm; omega)
        refine ⟨⟨vis ++ [o], _, hpn, hr8, ?_, B6⟩, by rw [el3, el2]; exact hlt⟩
        have : selQ l.Q t so (vis ++ [o]) = selQ l.Q t so vis ++ [l.Q o.num] := by unfold selQ; rw [List.filter_append]; simp [hx]
        rw [this]
        exact H6
      have hws3 : w.heap.size < w3.heap.size := by omega
      clear hmem hok hr hv hpn
      replace noadd := Aside0.mk noadd
      replace addd := Aside0.mk addd
      have HP := hp.out
      go_wp2_with fail
      refine C3.mono ?_
      rintro e W ⟨rfl, n, hWn⟩
      have BW : Below w3.heap.size w3 W := by rw [hWn]; exact (Below.refl _ w3).grown (drewNG w3 n) (Nat.le_refl _) (by simp)
      have hWs : W.heap.size = w3.heap.size := by rw [hWn]; rfl
      have P := HP W o hom (below_then hB3 hB3.size BW)
      have hv4 := Kd.R_below hv3 BW
      have hB4 := below_then hB3 hB3.size BW
      clear hWn C3 HP hv3 hrun1 hent hr3
      cases hcb : concB t o with
      | false =>
        have F := noadd.out (by rw [hcb]; rfl) W BW
        clear noadd addd P hv4
        replace F := Aside0.mk F
        replace hcb := Aside0.mk hcb
        go_wp2
        exact F.out
      | true =>
        cases hso : so o with
        | false =>
          rw [hso] at P
          have F := noadd.out (by rw [hcb, hso]; rfl)
          clear noadd addd hv4
          replace F := Aside0.mk F
          replace hcb := Aside0.mk hcb
          replace hso := Aside0.mk hso
          go_wp2_with (go_at_fn g; refine P.mono ?_; rintro e W5 ⟨rfl, B5⟩)
          exact F.out W5 (below_then BW BW.size B5)
        | true =>
          rw [hso] at P
          have F := addd.out (by rw [hcb, hso]; rfl)
          clear noadd addd
          replace F := Aside0.mk F
          replace hcb := Aside0.mk hcb
          replace hso := Aside0.mk hso
          go_wp2_with fail
          go_at_fn g
          refine P.mono ?_
          rintro e W5 ⟨rfl, B5⟩
          have hv5 := Kd.R_below hv4 B5
          have hB5 := below_then hB4 hB4.size B5
          have B35 := below_then BW BW.size B5
          have hs5 := B5.size
          clear hv4 P
          go_wp2_with (at_builtin; refine appQ (v := u7) rfl rfl rfl rfl hv5 hB5 hlen rfl (fun k hk => by omega) ?_; intro v1 w6 H6 B6 G6)
          exact F.out W5 _ _ B35 H6 B6 G6
end Go.Proofs.YthaoedfalkebbaaGreat
namespace Go.Proofs.YthaoedfalkebbaaGreat
open Go.RowKit Go.Maps Go.Sort Go.Lib Go.Shelf Go.Proofs.YthaoedfalkebbaaGreatW.PrintWords Go.Proofs.YthaoedfalkebbaaGreatW.PrintLast Go.Proofs.YthaoedfalkebbaaGreatW.PrintMore
set_option linter.unusedVariables false
set_option linter.unusedSimpArgs false
set_option linter.unusedSectionVars false
theorem Pm.fr {w w' : World} {base : Nat} {l : Loc} {S : Sm St} {O : Nat → Prop} (h : Pm w base l S) (f : Fr O w w') (hO : ∀ k, l.own S.txs k → ¬ O k) (hlp : ¬ O l.lp) (hr : ∀ k c e s, O k → w.heap[k]? = some (.cells c e s) → e ≠ 23 ∧ e ≠ 108) : Pm w' base l S := by
  constructor
  · exact f.block _ _ (hO _ (.inl rfl)) h.head
  · exact h.tab.fr f (hO _ (.inr (.inl rfl)))
  · intro t ht
    obtain ⟨v, h1, ws, h2, h3⟩ := h.tx t ht
    refine ⟨v, f.block _ _ (hO _ (.inr (.inr (.inr (.inr (.inr ⟨t, ht, rfl⟩)))))) h1, ws, h2.move fun g hg => ?_, h3⟩
    obtain ⟨_, _, cells, hc⟩ := h2.typed g hg
    exact (f.block g _ (fun h => (hr g _ _ _ h hc).1 rfl) hc).trans hc.symm
  · exact h.qinj
  · exact h.locks.fr f hlp (hO _ (.inr (.inr (.inl rfl))))
  · obtain ⟨c, s, hc⟩ := h.lkind
    exact ⟨c, s, f.block _ _ hlp hc⟩
  · exact h.reads.fr f (hO _ (.inr (.inr (.inr (.inl rfl))))) (hO _ (.inr (.inr (.inr (.inr (.inl rfl)))))) (fun k c s hk hc => (hr k c 108 s hk hc).2 rfl)
  · exact h.dist
  · exact h.nums
  · exact h.few
  · exact h.ne1
  · exact h.ne2
  · exact h.ne3
  · exact h.low
theorem Pm.below {w w' : World} {base : Nat} {l : Loc} {S : Sm St} (h : Pm w base l S) (b : Below w.heap.size w w') : Pm w' base l S :=
  h.fr (O := fun _ => False) (Fr.ofBelow b) (fun _ _ h => h) (fun h => h) (fun _ _ _ _ h => h.elim)
/-- kinds of blocks: none is another one -/
theorem Pm.kinds {w : World} {base : Nat} {l : Loc} {S : Sm St} (h : Pm w base l S) : (∀ t ∈ S.txs, l.Q t.num ≠ l.p ∧ l.Q t.num ≠ l.mb ∧ l.Q t.num ≠ l.lp ∧ l.Q t.num ≠ l.lb ∧ l.Q t.num ≠ l.rp ∧ l.Q t.num ≠ l.rb) ∧ l.p ≠ l.mb ∧ l.p ≠ l.lp ∧ l.p ≠ l.lb ∧ l.p ≠ l.rp ∧ l.p ≠ l.rb ∧ l.lp ≠ l.mb ∧ l.lp ≠ l.lb ∧ l.lp ≠ l.rp ∧ l.lp ≠ l.rb ∧ l.rp ≠ l.mb ∧ l.rp ≠ l.lb ∧ l.rp ≠ l.rb := by
  have hp := h.head
  obtain ⟨cl, sl, hl⟩ := h.lkind
  obtain ⟨cr, sr, hr⟩ := h.reads.is55
  obtain ⟨e1, c1, hm⟩ := h.tab.isMap
  obtain ⟨D, ⟨es, clock, hlm, _⟩, _⟩ := h.locks.tab
  obtain ⟨⟨L, M, _, _⟩, _⟩ := h.reads
  obtain ⟨e3, c3, hrm⟩ := M.tab.isMap
  have dif : ∀ {a b : Nat} {x y : Obj}, w.heap[a]? = some x → w.heap[b]? = some y → x ≠ y → a ≠ b := fun h1 h2 hne e => by
    subst e
    rw [h1] at h2
    injection h2 with h2
    exact hne h2
  refine ⟨fun t ht => ?_, dif hp hm (by unfold hdCells; simp), dif hp hl (by unfold hdCells; simp), dif hp hlm (by unfold hdCells; simp), dif hp hr (by unfold hdCells; simp), dif hp hrm (by unfold hdCells; simp), dif hl hm (by simp), dif hl hlm (by simp), dif hl hr (by simp), dif hl hrm (by simp), dif hr hm (by simp), dif hr hlm (by simp), dif hr hrm (by simp)⟩
  obtain ⟨v, hv, _⟩ := h.tx t ht
  exact ⟨dif hv hp (by unfold txCells hdCells; simp), dif hv hm (by unfold txCells; simp), dif hv hl (by unfold txCells; simp), dif hv hlm (by unfold txCells; simp), dif hv hr (by unfold txCells; simp), dif hv hrm (by unfold txCells; simp)⟩
/-- one transaction's flags have changed -/
theorem Pm.setTx {w w' : World} {base : Nat} {l : Loc} {S : Sm St} (h : Pm w base l S) {o o' : Tx} (ho : o ∈ S.txs) (hg : w.grownBy w' (some (l.Q o.num))) {v : Value} (hv : w.heap[l.Q o.num]? = some (txCells o v)) (hv' : w'.heap[l.Q o.num]? = some (txCells o' v)) (e1 : o'.num = o.num) (e2 : o'.wrote = o.wrote) :
    Pm w' base l { S with txs := S.txs.map (fun x => if x.num = o.num then o' else x) } := by
  obtain ⟨hk, k1, k2, k3, k4, k5, k6, k7, k8, k9, k10, k11, k12⟩ := h.kinds
  obtain ⟨q1, q2, q3, q4, q5, q6⟩ := hk o ho
  have f := Fr.grown hg
  have nu : ∀ x : Tx, (if x.num = o.num then o' else x).num = x.num := fun x => by
    split
    · rename_i e; rw [e1, e]
    · rfl
  have hL : txL l.Q (S.txs.map (fun x => if x.num = o.num then o' else x)) = txL l.Q S.txs := by
    unfold txL
    rw [List.map_map]
    apply List.map_congr_left
    intro x _
    simp only [Function.comp]
    rw [nu]
  have hm : ∀ t, t ∈ S.txs.map (fun x => if x.num = o.num then o' else x) → ∃ x ∈ S.txs, t = if x.num = o.num then o' else x := fun t ht => by
    obtain ⟨x, hx, e⟩ := List.mem_map.1 ht
    exact ⟨x, hx, e.symm⟩
  constructor
  · exact f.block _ _ (fun e => by injection e with e; exact q1 e) h.head
  · show TabT w' l.mb (S.txs.map _).length (txL l.Q (S.txs.map _))
    rw [hL, List.length_map]
    exact h.tab.kept hg (fun e => by injection e with e; exact q2 e.symm)
  · intro t ht
    obtain ⟨x, hx, rfl⟩ := hm t ht
    rw [nu]
    by_cases e : x.num = o.num
    · rw [if_pos e]
      obtain ⟨v2, h1, ws, h2, h3⟩ := h.tx o ho
      rw [hv] at h1
      injection h1 with h1
      have : v = v2 := by unfold txCells at h1; simpa using h1
      subst this
      refine ⟨v, by rw [e]; exact hv', ws, ?_, by rw [e2]; exact h3⟩
      refine h2.move fun g hgg => ?_
      obtain ⟨_, _, cells, hc⟩ := h2.typed g hgg
      exact (f.block g _ (fun e3 => by injection e3 with e3; rw [← e3, hv] at hc; unfold txCells at hc; simp at hc) hc).trans hc.symm
    · rw [if_neg e]
      obtain ⟨v2, h1, ws, h2, h3⟩ := h.tx x hx
      refine ⟨v2, f.block _ _ (fun e3 => by injection e3 with e3; exact e (h.qinj o ho x hx e3).symm) h1, ws, h2.move fun g hgg => ?_, h3⟩
      obtain ⟨_, _, cells, hc⟩ := h2.typed g hgg
      exact (f.block g _ (fun e3 => by injection e3 with e3; rw [← e3, hv] at hc; unfold txCells at hc; simp at hc) hc).trans hc.symm
  · intro t ht u hu e
    obtain ⟨x, hx, rfl⟩ := hm t ht
    obtain ⟨y, hy, rfl⟩ := hm u hu
    rw [nu, nu] at e ⊢
    exact h.qinj x hx y hy e
  · exact h.locks.fr f (fun e => by injection e with e; exact q3 e) (fun e => by injection e with e; exact q4 e)
  · obtain ⟨c, s, hc⟩ := h.lkind
    exact ⟨c, s, f.block _ _ (fun e => by injection e with e; exact q3 e) hc⟩
  · refine h.reads.fr f (fun e => by injection e with e; exact q5 e) (fun e => by injection e with e; exact q6 e) (fun k c s hk2 hc => ?_)
    injection hk2 with hk2
    rw [← hk2, hv] at hc
    unfold txCells at hc
    simp at hc
  · show (S.txs.map _).Pairwise _
    rw [List.pairwise_map]
    exact h.dist.imp (fun {a b} h => by rw [nu, nu]; exact h)
  · intro t ht
    obtain ⟨x, hx, rfl⟩ := hm t ht
    rw [nu]
    exact h.nums x hx
  · show (S.txs.map _).length ≤ _
    rw [List.length_map]
    exact h.few
  · exact h.ne1
  · exact h.ne2
  · exact h.ne3
  · refine ⟨h.low.1, h.low.2.1, h.low.2.2.1, h.low.2.2.2.1, h.low.2.2.2.2.1, fun t ht => ?_⟩
    obtain ⟨x, hx, rfl⟩ := hm t ht
    rw [nu]
    exact h.low.2.2.2.2.2 x hx
end Go.Proofs.YthaoedfalkebbaaGreat
