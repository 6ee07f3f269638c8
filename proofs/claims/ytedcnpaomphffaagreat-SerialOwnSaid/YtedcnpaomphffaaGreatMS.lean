import Derived.Test.YtedcnpaomphffaaGreatMR
namespace Go.Proofs.YtedcnpaomphffaaGreat
open Go.RowKit Go.Maps Go.Sort Go.Lib Go.Shelf Go.Proofs.YtedcnpaomphffaaGreatW.PrintWords Go.Proofs.YtedcnpaomphffaaGreatW.PrintLast Go.Proofs.YtedcnpaomphffaaGreatW.PrintMore
set_option linter.unusedVariables false
set_option linter.unusedSimpArgs false
set_option linter.unusedSectionVars false
/-! ### scribble; how long rounds and orders are -/
theorem round_short {g : List Dp} {names L : List Int} (h : RoundOf g names L) : L.length ≤ names.length := by
  obtain ⟨b, f, hb, ⟨rfl, rfl⟩ | ⟨hb0, hl, p1, p2, p3, p4⟩⟩ := h
  · simp
  have hf : f ∈ names := by
    rcases hb with ⟨h0, _⟩ | ⟨k, hk, _, rfl, _⟩
    · omega
    · exact List.getElem_mem hk
  have hm : ∀ j x, L[j]? = some x → x ∈ names ∧ (0 < j → IsMin g f (b.toNat - j) x) := by
    intro j x hx
    match j with
    | 0 =>
      rw [p3] at hx
      injection hx with hx
      subst hx
      exact ⟨hf, fun h => absurd h (by omega)⟩
    | j + 1 =>
      have hlt := (List.getElem?_eq_some_iff.1 hx).1
      obtain ⟨p, hp, rfl, _, hmin, _⟩ := p4 j L[j] x (List.getElem?_eq_getElem (by omega)) hx
      exact ⟨List.getElem_mem hp, fun _ => hmin⟩
  refine sub_le ?_ fun n hn => ?_
  · rw [List.nodup_iff_pairwise_ne, List.pairwise_iff_getElem]
    intro i j hi hj hij e
    have h2 := (hm j L[j] (List.getElem?_eq_getElem hj)).2 (by omega)
    rcases Nat.eq_zero_or_pos i with rfl | hi0
    · have h0 : L[0] = f := by
        rw [List.getElem?_eq_getElem hi] at p3
        injection p3
      rw [← e, h0] at h2
      exact h2.2 0 (by omega) rfl
    · have h1 := (hm i L[i] (List.getElem?_eq_getElem hi)).2 hi0
      rw [e] at h1
      have := h1.unique h2
      omega
  · obtain ⟨j, hj, rfl⟩ := List.mem_iff_getElem.1 hn
    exact (hm j _ (List.getElem?_eq_getElem hj)).1
theorem enum_len {g : List Dp} {names : List Int} : ∀ (k : Nat) (done L : List Int), L ∈ enum g names k done → L.length = done.length + k
  | 0, done, L, h => by
    unfold enum at h
    rw [List.mem_singleton.1 h]
    rfl
  | k + 1, done, L, h => by
    unfold enum at h
    obtain ⟨n, _, h2⟩ := List.mem_flatMap.1 h
    have := enum_len k _ _ h2
    rw [List.length_append, List.length_singleton] at this
    omega
theorem allH_len {h : Hs} {L : List Int} (hL : L ∈ allH h) : L.length ≤ 4096 := by
  unfold allH at hL
  split at hL
  · rename_i ok
    unfold allO at hL
    split at hL
    · have := enum_len _ _ _ hL
      have h1 := rise_nodup_len ok.nd
      have := ok.lc
      simp only [List.length_nil] at *
      omega
    · cases hL
  · cases hL
theorem ordO_len {h : Hs} : ((ordO h).getD []).length ≤ 4096 := by
  rw [← allH_head]
  cases hA : allH h with
  | nil => simp
  | cons L rest => exact allH_len (h := h) (by rw [hA]; exact List.mem_cons_self)
theorem grown_then {W A B : World} {r r' : Option Nat} (h : W.grownBy A r) (k : A.grownBy B r') (hr : ∀ b, r' = some b → r = some b ∨ W.heap.size ≤ b) : W.grownBy B r :=
  ⟨k.os.trans h.os, k.tape.trans h.tape, k.output.trans h.output, Nat.le_trans h.size k.size, fun i hi hne => (k.block i (Nat.lt_of_lt_of_le hi h.size) (fun e => by
    rcases hr i e.symm with e' | e'
    · exact hne e'.symm
    · omega)).trans (h.block i hi hne)⟩
theorem grown_refl (W : World) (r : Option Nat) : W.grownBy W r := ⟨rfl, rfl, rfl, Nat.le_refl _, fun _ _ _ => rfl⟩
def ScJ (w : World) (base : Nat) (v : Value) (n : Nat) (vi : Value) (wr : World) : Prop := ∃ (j : Nat) (ys : List Int), vi = .int .i64 (j : Int) ∧ j ≤ n ∧ ys.length = n ∧ RowI wr base v ys ∧ base ≤ wr.heap.size ∧ w.grownBy wr v.ownBlock
set_option maxHeartbeats 4000000 in
set_option maxRecDepth 100000 in
theorem scribble_calls (base : Nat) (v : Value) (xs : List Int) (w : World) (h : RowI w base v xs) (hl : xs.length ≤ 65536) (hb : base ≤ w.heap.size) :
    Calls Tryz.prog 27 #[v] w fun e w' => e = .returned (.tuple #[]) ∧ w.grownBy w' v.ownBlock := by
  obtain ⟨A, c, rfl, hc, hA⟩ := h.slice
  have J0 : ScJ w base (.slice A xs.length c) xs.length (.int .i64 0) w := ⟨0, xs, rfl, Nat.zero_le _, rfl, h, hb, ⟨rfl, rfl, rfl, Nat.le_refl _, fun _ _ _ => rfl⟩⟩
  clear h
  go_enter Tryz.func27, Tryz.ntmps27
  go_wp2_with fail
  go_loopw [5] (fun vi wr => ScJ w base (.slice A xs.length c) xs.length vi wr) (fun vi _ => xs.length - (intOf vi).toNat)
  case atStart => exact J0
  case round =>
    clear J0
    obtain ⟨j, ys, rfl, hj, hyl, hr, hbw, hB⟩ := hrel
    by_cases hjl : j < xs.length
    · obtain ⟨g, rfl, hg⟩ := hA (by omega)
      have y0 := RowI.at hr j (ys[j]'(by omega)) (List.getElem?_eq_getElem (by omega))
      have f0 := hr.frozen j
      have fin : ScJ w base (.slice (some ⟨g, 0, none⟩) xs.length c) xs.length (.int .i64 ((j : Int) + 1)) (wr.setCell ⟨g, j, none⟩ (.int .i64 (-9))) := ⟨j + 1, ys.set j (-9), by simp, by omega, by simp [hyl], RowI.put hr j (by omega) (-9), by simpa using hbw, trans_grown hB (grown_set wr g j _)⟩
      generalize ys[j]'(by omega) = y at y0
      clear hr hB
      have i0 : (0 : Int) ≤ (j : Int) := by omega
      have i1 : (j : Int) < (xs.length : Int) := by omega
      replace hyl := Aside0.mk hyl
      replace fin := Aside0.mk fin
      go_wp2
      refine ⟨fin.out, ?_⟩
      simp [intOf]
      omega
    · have hge : ¬ (j : Int) < (xs.length : Int) := by omega
      have hje : j = xs.length := by omega
      replace hje := Aside0.mk hje
      obtain ⟨v', w', hrun, hr', hg', hd⟩ := rowI_app2 hr (-9) (by omega) hbw
      have hlen : (ys ++ [-9]).length = xs.length + 1 := by simp [hyl]
      obtain ⟨A', c', rfl, hc', hA'⟩ := hr'.slice
      obtain ⟨g', rfl, hgb⟩ := hA' (by omega)
      have y0 := RowI.at hr' xs.length (-9) (by rw [List.getElem?_append_right (by omega)]; simp [hyl])
      have f0 := hr'.frozen xs.length
      rw [hlen] at hrun
      have fin : w.grownBy (w'.setCell ⟨g', xs.length, none⟩ (.int .i64 (-10))) (Value.slice A xs.length c).ownBlock := by
        have h1 := grown_set w' g' xs.length (.int .i64 (-10))
        rcases hd with ⟨gg, cap, e1, e2⟩ | ⟨h2, k, e1, e2⟩
        · injection e1 with e1
          injection e2 with e2
          injection e2 with e2
          injection e2 with e2
          subst e1 e2
          exact trans_grown (trans_grown hB hg') h1
        · injection e1 with e1
          subst e1
          have e2 : wr.heap.size ≤ g' := e2
          exact grown_then (trans_grown hB hg') h1 (fun b e => .inr (by injection e with e; have := hB.size; omega))
      clear hr hr' hlen hg' hc' hA' hd hB
      replace hyl := Aside0.mk hyl
      replace fin := Aside0.mk fin
      go_wp2_with (at_builtin; refine app_list rfl rfl rfl rfl hrun ?_)
      go_end0
      exact ⟨rfl, fin.out⟩
end Go.Proofs.YtedcnpaomphffaaGreat
namespace Go.Proofs.YtedcnpaomphffaaGreat
open Go.RowKit Go.Maps Go.Sort Go.Lib Go.Shelf Go.Proofs.YtedcnpaomphffaaGreatW.PrintWords Go.Proofs.YtedcnpaomphffaaGreatW.PrintLast Go.Proofs.YtedcnpaomphffaaGreatW.PrintMore
set_option linter.unusedVariables false
set_option linter.unusedSimpArgs false
set_option linter.unusedSectionVars false
/-! ### clones of what is handed in -/
theorem reps_flat {α : Type} {enc : α → List Value} {k : Nat} (hn : ∀ x, (enc x).length = k) (xs : List α) : Reps (fun x cs => cs = enc x) k xs (xs.flatMap enc) := by
  have key : ∀ n, n ≤ xs.length → Reps (fun x cs => cs = enc x) k (xs.take n) ((xs.take n).flatMap enc) := by
    intro n
    induction n with
    | zero => intro _; rw [List.take_zero, List.flatMap_nil]; exact Reps.none _ _
    | succ n ih =>
      intro h
      rw [List.take_succ_eq_append_getElem (by omega), List.flatMap_append, List.flatMap_cons, List.flatMap_nil, List.append_nil]
      exact (ih (by omega)).snoc rfl (hn _)
  have := key xs.length (Nat.le_refl _)
  rwa [List.take_length] at this
theorem src_of_C {α : Type} {enc : α → List Value} {k : Nat} {hn : ∀ x, (enc x).length = k} {h1 : ∀ x, ∀ u ∈ enc x, u.oneCell' = true} {W : World} {A : Option Addr} {xs : List α} (hk : 0 < k) (h : (Kd.flat enc k hn h1).C W A xs.length xs) : Src enc k W A xs := by
  have R := reps_flat hn xs
  refine ⟨xs.flatMap enc, R.1, R, fun hp => ?_⟩
  obtain ⟨ad, rfl, hc⟩ := h.2.2 hp
  refine ⟨ad, rfl, fun j u hu => ?_⟩
  have hj : j < xs.length * k := by rw [← R.1]; exact (List.getElem?_eq_some_iff.1 hu).1
  have hq : j / k < xs.length := Nat.div_lt_of_lt_mul (by rw [Nat.mul_comm]; exact hj)
  obtain ⟨cs, _, hK, hcc⟩ := hc (j / k) xs[j / k] (List.getElem?_eq_getElem hq)
  obtain rfl : cs = enc xs[j / k] := hK
  have hr := R.2 (j / k) xs[j / k] (List.getElem?_eq_getElem hq)
  have hm : j % k < k := Nat.mod_lt _ hk
  have e : j / k * k + j % k = j := by rw [Nat.mul_comm]; exact Nat.div_add_mod j k
  have hu2 : (enc xs[j / k])[j % k]? = some u := by
    rw [← hr, List.getElem?_take, if_pos hm, List.getElem?_drop, e, hu]
  have := hcc (j % k) u hu2
  have e2 : j / k * (Kd.flat enc k hn h1).sz + j % k = j := e
  rw [e2] at this
  exact this
abbrev RowA (w : World) (base : Nat) (v : Value) (xs : List Ac) : Prop := Lo encA 4 58 w base v xs
theorem RowA_AC {W : World} {b : Nat} {v : Value} {xs : List Ac} (h : RowA W b v xs) (hl : xs.length ≤ 9223372036854775807) : ∃ A c, v = .slice A xs.length c ∧ dA.C W A xs.length xs := by
  obtain ⟨A, c, rfl, _⟩ := h.slice
  exact ⟨A, c, rfl, C_of_lo (enc := encA) (k := 4) (hn := fun _ => rfl) (h1 := encA_one) h hl⟩
theorem info58 : (Tryz.prog.info? 58).map (fun i => (i.zero, i.size, i.bytes)) = some (some (.agg #[.int .i64 0, .bool false, .string ByteArray.empty, .int .i64 0]), 4, 40) := by kernel_rfl
theorem empty_row {α : Type} {enc : α → List Value} {k e : Nat} (W : World) : Lo enc k e (W.alloc (.cells #[] e)) W.heap.size (.slice (some ⟨W.heap.size, 0, none⟩) 0 0) [] :=
  ⟨[], ⟨by simp, .inr ⟨W.heap.size, 0, #[], rfl, Nat.le_refl _, heap_alloc_new W _, Nat.le_refl _, by simp only [maxLen]; omega, by simp, by simp⟩⟩, Reps.none _ _⟩
set_option maxHeartbeats 2000000 in
set_option maxRecDepth 100000 in
theorem cloneC_calls (A : Option Addr) (c : Nat) (xs : List Int) (W : World) (h : dI.C W A xs.length xs) (hl : xs.length ≤ 65536) :
    Calls Tryz.prog 25 #[.slice A xs.length c] W fun e w' => ∃ v, e = .returned v ∧ RowI w' W.heap.size v xs ∧ Below W.heap.size W w' := by
  cases A with
  | none =>
    obtain rfl : xs = [] := by
      rcases Nat.eq_zero_or_pos xs.length with e | e
      · exact List.eq_nil_of_length_eq_zero e
      · obtain ⟨_, e2, _⟩ := h.2.2 e
        cases e2
    refine (AnyE.slices_Clone_nil Tryz.cloneI 0 c W).mono ?_
    rintro e w' ⟨rfl, rfl⟩
    exact ⟨_, rfl, Lo.nil _ _, Below.refl _ _⟩
  | some ad =>
    have hs := src_of_C (by decide) (Kd.C_below h ((Below.refl W.heap.size W).alloc (Nat.le_refl _) (.cells #[] 3)))
    obtain ⟨v', w', hrun, hr, hg⟩ := Lo.appS (empty_row (enc := encI) (k := 1) (e := 3) W) (fun _ => rfl) encI_one 22 22 _ 8 Tryz.underlying22 info3 rfl (by decide) (by decide) (some ad) c hs (by simp; omega) (by simp)
    have B := ((Below.refl W.heap.size W).alloc (Nat.le_refl _) (.cells #[] 3)).grown hg (by simp) (fun b e => by injection e with e; exact Nat.le_of_eq e)
    clear hs hg h
    rw [List.nil_append] at hr
    have K : ∃ v, Ending.returned v' = .returned v ∧ RowI w' W.heap.size v xs ∧ Below W.heap.size W w' := ⟨v', rfl, hr, B⟩
    obtain ⟨Ar, cr, rfl, _⟩ := hr.slice
    clear hr B
    replace K := Aside0.mk K
    have q22 : ∀ w : World, (binOp .eql 22 (.slice (some ad) xs.length c) (.slice none 0 0)).run Tryz.prog w = .ok (.bool false) w := fun w => Lib.run_eql_slice_nil w _ _ (some ad) xs.length c 0 0 Tryz.underlying22
    go_enter Tryz.func25, Tryz.ntmps25
    go_wp2_with (at_builtin; refine app_list rfl rfl rfl rfl hrun ?_)
    go_ret
    exact K.out
set_option maxHeartbeats 2000000 in
set_option maxRecDepth 100000 in
theorem cloneA_calls (A : Option Addr) (c : Nat) (xs : List Ac) (W : World) (h : dA.C W A xs.length xs) (hl : xs.length ≤ 65536) :
    Calls Tryz.prog 26 #[.slice A xs.length c] W fun e w' => ∃ v, e = .returned v ∧ RowA w' W.heap.size v xs ∧ Below W.heap.size W w' := by
  cases A with
  | none =>
    obtain rfl : xs = [] := by
      rcases Nat.eq_zero_or_pos xs.length with e | e
      · exact List.eq_nil_of_length_eq_zero e
      · obtain ⟨_, e2, _⟩ := h.2.2 e
        cases e2
    refine (AnyE.slices_Clone_nil Tryz.cloneA 0 c W).mono ?_
    rintro e w' ⟨rfl, rfl⟩
    exact ⟨_, rfl, Lo.nil _ _, Below.refl _ _⟩
  | some ad =>
    have hs := src_of_C (by decide) (Kd.C_below h ((Below.refl W.heap.size W).alloc (Nat.le_refl _) (.cells #[] 58)))
    obtain ⟨v', w', hrun, hr, hg⟩ := Lo.appS (empty_row (enc := encA) (k := 4) (e := 58) W) (fun _ => rfl) encA_one 23 23 _ 40 Tryz.underlying23 info58 rfl (by decide) (by decide) (some ad) c hs (by simp; omega) (by simp)
    have B := ((Below.refl W.heap.size W).alloc (Nat.le_refl _) (.cells #[] 58)).grown hg (by simp) (fun b e => by injection e with e; exact Nat.le_of_eq e)
    clear hs hg h
    rw [List.nil_append] at hr
    have K : ∃ v, Ending.returned v' = .returned v ∧ RowA w' W.heap.size v xs ∧ Below W.heap.size W w' := ⟨v', rfl, hr, B⟩
    obtain ⟨Ar, cr, rfl, _⟩ := hr.slice
    clear hr B
    replace K := Aside0.mk K
    have q23 : ∀ w : World, (binOp .eql 23 (.slice (some ad) xs.length c) (.slice none 0 0)).run Tryz.prog w = .ok (.bool false) w := fun w => Lib.run_eql_slice_nil w _ _ (some ad) xs.length c 0 0 Tryz.underlying23
    go_enter Tryz.func26, Tryz.ntmps26
    go_wp2_with (at_builtin; refine app_list rfl rfl rfl rfl hrun ?_)
    go_ret
    exact K.out
end Go.Proofs.YtedcnpaomphffaaGreat
namespace Go.Proofs.YtedcnpaomphffaaGreat
open Go.RowKit Go.Maps Go.Sort Go.Lib Go.Shelf Go.Proofs.YtedcnpaomphffaaGreatW.PrintWords Go.Proofs.YtedcnpaomphffaaGreatW.PrintLast Go.Proofs.YtedcnpaomphffaaGreatW.PrintMore
set_option linter.unusedVariables false
set_option linter.unusedSimpArgs false
set_option linter.unusedSectionVars false
/-! ### SerialOwn -/
theorem Os_iter2 {b : Nat} {h : Hs} {v : Value} {W : World} (o : OsF b h v W) (n : Nat) : ∃ gf lb, ∃ Good : World → Prop, v = .func (.func gf) #[] lb ∧ (∀ args w, (callFunc gf args).run Tryz.prog w = .ok (.enter gf args) w) ∧ Iter3 n Tryz.prog gf lb (Hands3 (allH h)) (fun k => k = (allH h).length) Good ∧ ∀ A, (∀ k, b ≤ k → k < W.heap.size → A.heap[k]? = W.heap[k]?) → Good A := by
  rcases o with ⟨hno, rfl⟩ | ⟨ok, pw, bn, bi, pc, At, ct, ss, cs, rfl, V, c, F, hpc⟩
  · have e : allH h = [] := if_neg hno
    rw [e]
    exact ⟨46, #[], fun _ => True, rfl, enters_of Tryz.func46 (by kernel_rfl) rfl, none46 n _, fun _ _ => trivial⟩
  · have e : allH h = allO (graphP h) (rise h.C) := if_pos ok
    rw [e]
    have hrn := rise_nodup_len ok.nd
    exact ⟨48, _, _, rfl, enters_of Tryz.func48 (by kernel_rfl) rfl, orders48 n (by rw [hrn]; exact ok.lc) (rise_nodup h.C) (fun d hd => ⟨(graph_ends ok d hd).1, (graph_ends ok d hd).2, (deps_ends ok (mem_graph.1 hd)).2.2⟩), fun A K => ⟨V.agree F K, (World.cell?_of_block (K pc hpc (World.block_lt_of_cell? _ _ c))).trans c⟩⟩
theorem below_grown {q : Nat} {A B : World} (h : A.grownBy B (some q)) (hq : q ≤ A.heap.size) : Below q A B := ⟨h.os, h.tape, h.output, h.size, fun k hk => h.block k (by omega) (fun e => by injection e with e; omega)⟩
/-- between two rounds: how many; nothing else that was there has turned -/
def OwI (q m : Nat) (w20 : World) (k : Nat) (W : World) : Prop := (W.cell? ⟨q, 0, none⟩ = some (.int .i64 (k : Int)) ∧ W.frozen? ⟨q, 0, none⟩ = false) ∧ k ≤ m ∧ w20.grownBy W (some q)
theorem OwI.step {q m b : Nat} {w20 : World} {k : Nat} {A B : World} (hb : w20.heap.size ≤ b) (h : OwI q m w20 k A) (t : Turns b A B ∨ Below b A B) (hq : q < b) : OwI q m w20 k B := by
  obtain ⟨⟨h1, h2⟩, h3, h4⟩ := h
  rcases t with t | t
  · refine ⟨⟨cells_turns t h1, frozen_turns t h1 h2⟩, h3, ?_⟩
    obtain ⟨l, o, o', hl, ho, hc, rfl⟩ := t
    exact grown_then h4 (grownBy_putObj' A l o') (fun b e => by cases e; exact .inr (by omega))
  · exact ⟨⟨(t.cell hq).trans h1, (t.frozen hq).trans h2⟩, h3, ⟨t.os.trans h4.os, t.tape.trans h4.tape, t.output.trans h4.output, Nat.le_trans h4.size t.size, fun i hi hne => (t.block i (by omega)).trans (h4.block i hi hne)⟩⟩
/-- the loop that writes over dependencies -/
def DsJ (w : World) (A : Option Addr) (n c : Nat) (vi : Value) (wr : World) : Prop := ∃ j : Nat, vi = .int .i64 (j : Int) ∧ j ≤ n ∧ w.grownBy wr (Value.slice A n c).ownBlock ∧ (0 < n → ∃ g cs, A = some ⟨g, 0, none⟩ ∧ wr.heap[g]? = some (.cells cs 37 (0, 0)) ∧ n * 3 ≤ cs.size)
theorem DsJ.start {w : World} {base n c : Nat} {A : Option Addr} {xs : List Dp} (h : RowD w base (.slice A n c) xs) (hn : n = xs.length) : DsJ w A n c (.int .i64 0) w := by
  refine ⟨0, rfl, Nat.zero_le _, grown_refl _ _, fun hp => ?_⟩
  obtain ⟨inner, ⟨hl, hr⟩, _⟩ := h
  rcases hr with ⟨_, h0⟩ | ⟨g, cap, cur, e, _, hc, hle, _, hsz, _⟩
  · omega
  · injection e with e1 e2 e3
    refine ⟨g, cur, e1, hc, ?_⟩
    have := Nat.mul_le_mul_right 3 hle
    rw [← hn] at this
    omega
theorem frozen_blk {W : World} {g o e : Nat} {cs : Array Value} (h : W.heap[g]? = some (.cells cs e (0, 0))) : W.frozen? ⟨g, o, none⟩ = false := by
  simp [World.frozen?, h]
theorem cell_blk {W : World} {g o e : Nat} {cs : Array Value} {fr : Nat × Nat} (h : W.heap[g]? = some (.cells cs e fr)) (ho : o < cs.size) : ∃ u, W.cell? ⟨g, o, none⟩ = some u :=
  ⟨cs[o], by rw [cell_of_row W g o cs e fr h]; exact Array.getElem?_eq_getElem ho⟩
theorem put3_blk {W : World} {g o e : Nat} {cs : Array Value} (h : W.heap[g]? = some (.cells cs e (0, 0))) (u1 u2 u3 : Value) : ∃ cs', (((W.setCell ⟨g, o, none⟩ u1).setCell ⟨g, o + 1, none⟩ u2).setCell ⟨g, o + 2, none⟩ u3).heap[g]? = some (.cells cs' e (0, 0)) ∧ cs'.size = cs.size := by
  refine ⟨_, blk_set (blk_set (blk_set h o u1) (o + 1) u2) (o + 2) u3, ?_⟩
  simp
attribute [local go_sem] Oper.semAt_some
theorem own_end7 (D4 b : Nat) (tmps : Array Value) (w W : World) (hB : Below w.heap.size w W) (c : W.cell? ⟨b, 0, none⟩ = some (.bool false)) (k4 : W.heap[D4]? = some (.deferred (some []))) (h4 : w.heap.size ≤ D4) (hb : w.heap.size ≤ b) (ht : tmps[4]? = some (.pointer (some ⟨b, 0, none⟩))) :
    bodyPostM Fence.wide 9 Tryz.prog Tryz.f7 (TruePost w) Exit.ret { tmps := tmps, defers := [{ target := .collected D4, args := #[] }] } (W.setCell ⟨b, 0, none⟩ (.bool true)) := by
  have c1 : (W.setCell ⟨b, 0, none⟩ (.bool true)).cell? ⟨b, 0, none⟩ = some (.bool true) := World.cell?_setCell_same' _ _ _ (by rw [c]; rfl)
  have q4 := (KeepsOthers.setCell W ⟨b, 0, none⟩ (.bool true)).same _ _ k4 rfl
  replace hB := hB.setCell (p := ⟨b, 0, none⟩) hb (.bool true)
  generalize W.setCell ⟨b, 0, none⟩ (.bool true) = V at *
  have t4 : Turns w.heap.size V (V.putObj D4 (.deferred none)) := ⟨_, _, _, h4, q4, rfl, rfl⟩
  have c2 := cells_turns t4 c1
  refine ⟨by simp, .inl ⟨_, _, rfl, run_takeDeferred q4, ?_⟩⟩
  refine ⟨.bool true, ?_, rfl, hB.trans (below_turns (Nat.le_refl _) t4)⟩
  simp [results, Tryz.f7, go_sem, c2, ht]
theorem one_end7 {b : Nat} {tmps : Array Value} {w W : World} (hB : Below w.heap.size w W) (c : W.cell? ⟨b, 0, none⟩ = some (.bool false)) (hb : w.heap.size ≤ b) (ht : tmps[4]? = some (.pointer (some ⟨b, 0, none⟩))) :
    bodyPostM Fence.wide 9 Tryz.prog Tryz.f7 (TruePost w) Exit.ret { tmps := tmps, defers := [] } (W.setCell ⟨b, 0, none⟩ (.bool true)) := by
  have c1 : (W.setCell ⟨b, 0, none⟩ (.bool true)).cell? ⟨b, 0, none⟩ = some (.bool true) := World.cell?_setCell_same' _ _ _ (by rw [c]; rfl)
  refine ⟨.bool true, ?_, rfl, hB.setCell (p := ⟨b, 0, none⟩) hb (.bool true)⟩
  simp [results, Tryz.f7, go_sem, c1, ht]
set_option maxHeartbeats 16000000 in
set_option maxRecDepth 100000 in
theorem Own7_calls (z : HV) (most : Int) (w : World) (hz : z.OK w) (hm0 : 0 ≤ most) (hm1 : most < 256) : Calls Tryz.prog 7 #[mkH z, .int .u8 most] w (TruePost w) := by
  obtain ⟨w1, hw1, B1, hz1, b0, b1⟩ := hv_box z w hz
  obtain ⟨bx, hbx⟩ : ∃ bx, bx = w.heap.size := ⟨_, rfl⟩
  obtain ⟨w4, hw4⟩ : ∃ w4, w4 = w1.alloc (.cells #[.bool false] 4) := ⟨_, rfl⟩
  have B4 : Below w1.heap.size w1 w4 := by rw [hw4]; exact (Below.refl _ w1).alloc (Nat.le_refl _) _
  have hz4 := hz1.below B4
  have RG := right_calls z w4 hz4
  have LV := fun W (B : Below w4.heap.size w4 W) => live_calls W
  have GR := fun W (B : Below w4.heap.size w4 W) => Graph_calls z W (hz4.below B)
  have OR := fun W (B : Below w4.heap.size w4 W) => Order_calls z W (hz4.below B)
  have RD := fun W (B : Below w4.heap.size w4 W) => Round_calls z W (hz4.below B)
  have PV := fun W (B : Below w4.heap.size w4 W) => Pivots_calls z W (hz4.below B)
  have CI := fun W (B : Below w4.heap.size w4 W) (ok : OkH z.h) => cloneC_calls z.A1 z.c1 z.h.C W (hz4.below B).c (by have := ok.lc; omega)
  have CA := fun W (B : Below w4.heap.size w4 W) (ok : OkH z.h) => cloneA_calls z.A2 z.c2 z.h.A W (hz4.below B).a (by have := ok.la; omega)
  have EC := fun W (B : Below w4.heap.size w4 W) A c (h : dI.C W A z.h.C.length z.h.C) => EqI_calls z.A1 A z.c1 c z.h.C W (hz4.below B).c h (by have := hz.lc; omega)
  have EA := fun W (B : Below w4.heap.size w4 W) A c (h : dA.C W A z.h.A.length z.h.A) => EqA_calls z.A2 A z.c2 c z.h.A W (hz4.below B).a h (by have := hz.la; omega)
  have RO := fun W (B : Below w4.heap.size w4 W) (ok : OkH z.h) => ROrder_calls z W (hz4.below B) ok.la ok.nd ok.lc ok.pos
  have RG2 := fun W (B : Below w4.heap.size w4 W) (ok : OkH z.h) => RGraph_calls z W (hz4.below B) ok.la
  have RS := fun W (B : Below w4.heap.size w4 W) (ok : OkH z.h) => ROrders_calls z (most.toNat + 1) (by omega) W (hz4.below B) ok
  have OS := fun W (B : Below w4.heap.size w4 W) => Orders_calls2 z W (hz4.below B)
  have b04 := (B4.cell (World.block_lt_of_cell? _ _ b0)).trans b0
  have b14 := (B4.cell (World.block_lt_of_cell? _ _ b1)).trans b1
  have s1 : w1.heap.size = bx + 1 := by rw [hw1, hbx]; simp
  have r3 : w4.cell? ⟨bx + 1, 0, none⟩ = some (.bool false) := by rw [hw4, ← s1]; simp [go_sem]
  have u3 : w4.frozen? ⟨bx + 1, 0, none⟩ = false := by rw [hw4, ← s1]; simp [go_sem]
  have q1 : w1.heap.size ≤ w4.heap.size := B4.size
  have BW : ∀ W, Below w1.heap.size w4 W → Below w.heap.size w W := fun W B => B1.trans ((B4.trans B).mono B1.size)
  have r4l := World.block_lt_of_cell? _ _ r3
  simp only at r4l
  obtain ⟨A1, c1, A2, c2, h⟩ := z
  dsimp only [mkH] at *
  have HELD : ∀ W, Below w4.heap.size w4 W → (W.cell? ⟨bx, 0, none⟩ = some (.slice A1 h.C.length c1) ∧ W.cell? ⟨bx, 1, none⟩ = some (.slice A2 h.A.length c2)) ∧ W.cell? ⟨bx + 1, 0, none⟩ = some (.bool false) ∧ W.frozen? ⟨bx + 1, 0, none⟩ = false := fun W B => by
    rw [hbx] at *
    exact ⟨⟨(B.cell (World.block_lt_of_cell? _ _ b04)).trans b04, (B.cell (World.block_lt_of_cell? _ _ b14)).trans b14⟩, (B.cell (World.block_lt_of_cell? _ _ r3)).trans r3, (B.frozen (World.block_lt_of_cell? _ _ r3)).trans u3⟩
  clear hz hz1 hz4 b0 b1 B4 B1 r3 u3 b04 b14
  replace LV := Aside0.mk LV
  replace GR := Aside0.mk GR
  replace OR := Aside0.mk OR
  replace RD := Aside0.mk RD
  replace PV := Aside0.mk PV
  replace CI := Aside0.mk CI
  replace CA := Aside0.mk CA
  replace EC := Aside0.mk EC
  replace EA := Aside0.mk EA
  replace RO := Aside0.mk RO
  replace RG2 := Aside0.mk RG2
  replace RS := Aside0.mk RS
  replace OS := Aside0.mk OS
  replace BW := Aside0.mk BW
  replace HELD := Aside0.mk HELD
  refine (callsIn_wide (n := 9)).1 ?_
  refine callsIn_of_wp_marks Tryz.func7 rfl trivial ?_ rfl
  refine wpIn_wide.2 ?_
  simp only [Tryz.ntmps7, List.size_toArray, List.length_cons, List.length_nil, Nat.reduceAdd, Nat.reduceSub, Array.replicate_succ, Array.replicate_zero, List.push_toArray, List.append_toArray, List.nil_append, List.cons_append]
  go_upto_region 1 with (fail)
  rw [← hw1, ← hw4, ← hbx]
  clear hw1 hw4
  replace hbx := Aside0.mk hbx
  obtain ⟨⟨b04, b14⟩, _⟩ := HELD.out w4 (Below.refl _ _)
  unfold RgPost at RG
  go_wp2_with fail
  refine RG.mono ?_
  rintro e w5 ⟨rfl, B5⟩
  clear RG b04 b14
  have L5 := LV.out w5 B5
  clear LV
  obtain ⟨⟨b05, b15⟩, _⟩ := HELD.out w5 B5
  by_cases hok : OkH h
  · rw [okB_yes hok]
    have e0 := chk_ok hok
    have hlc := hok.lc
    have hla := hok.la
    have hgl := graph_len h
    have hrn := rise_nodup_len hok.nd
    have egl : grL h = graphP h := if_pos hok
    have hpl := pivP_len (graphP h) (rise h.C)
    replace hok := Aside0.mk hok
    go_wp2_with fail
    refine L5.mono ?_
    rintro e w6 ⟨rfl, B6⟩
    have C6 := below_then B5 B5.size B6
    obtain ⟨⟨b06, b16⟩, _⟩ := HELD.out w6 C6
    clear L5 B5 B6 b05 b15
    have DB : Below w4.heap.size w4 w6.drew := C6.grown (drewG w6) C6.size (by simp)
    have CI6 := CI.out _ DB hok.out
    clear CI
    go_upto_region 4 with (fail)
    go_region_held3 (fun V => V.cell? ⟨bx, 0, none⟩ = some (.slice A1 h.C.length c1) ∧ V.cell? ⟨bx, 1, none⟩ = some (.slice A2 h.A.length c2))
      (first | exact ⟨b06, b16⟩ | exact ⟨b07, b17⟩ | exact ⟨b08, b18⟩)
      (first
        | (go_at_call 25; refine CI6.mono ?_; rintro e w7 ⟨v7, rfl, hR7, B7⟩; have C7 := below_then DB DB.size B7; obtain ⟨⟨b07, b17⟩, _⟩ := HELD.out w7 C7; have CA7 := CA.out w7 C7 hok.out)
        | (go_at_call 26; refine CA7.mono ?_; rintro e w8 ⟨v8, rfl, hR8, B8⟩; have C8 := below_then C7 C7.size B8; obtain ⟨⟨b08, b18⟩, _⟩ := HELD.out w8 C8))
    have G8 := GR.out w8 C8
    unfold GrPost at G8
    rw [e0, egl] at G8
    clear CI6 CA7 CA b06 b16 b07 b17 C6 DB
    go_wp2_with fail
    refine G8.mono ?_
    rintro e w9 ⟨vg, rfl, hRg, B9⟩
    have hRg := Lo.ofR hRg
    have C9 := below_then C8 C8.size B9
    obtain ⟨⟨b09, b19⟩, _⟩ := HELD.out w9 C9
    have O9 := OR.out w9 C9
    unfold OPost at O9
    rw [e0] at O9
    clear G8 b08 b18
    generalize (ordO h).isSome = bo at O9
    go_wp2_with fail
    refine O9.mono ?_
    rintro e w10 ⟨vo, rfl, hRo, B10⟩
    have C10 := below_then C9 C9.size B10
    obtain ⟨⟨b0a, b1a⟩, _⟩ := HELD.out w10 C10
    have R10 := RD.out w10 C10
    unfold RoPost at R10
    rw [e0] at R10
    clear O9 b09 b19 RD
    go_wp2_with fail
    refine R10.mono ?_
    rintro e w11 ⟨vr, Lr, rfl, hRr, B11, _, hround⟩
    have hlr := round_short (hround hok.out)
    have C11 := below_then C10 C10.size B11
    obtain ⟨⟨b0b, b1b⟩, _⟩ := HELD.out w11 C11
    have P11 := PV.out w11 C11
    unfold PvPost at P11
    rw [e0] at P11
    clear R10 b0a b1a PV hround
    go_wp2_with fail
    refine P11.mono ?_
    rintro e w12 ⟨vp, Lp, rfl, hRp, B12, _, hpiv⟩
    obtain rfl := hpiv hok.out
    have hRp := Lo.ofR hRp
    have C12 := below_then C11 C11.size B12
    have B811 := below_then B9 B9.size (below_then B10 B10.size B11)
    have B812 := below_then B811 B811.size B12
    have hRg12 := ((hRg.below B10).below B11).below B12
    have hRo12 := (hRo.below B11).below B12
    have hRr12 := hRr.below B12
    have og := fun k (e : vg.ownBlock = some k) => hRg.typed k e
    have oo := fun k (e : vo.ownBlock = some k) => hRo.typed k e
    have orr := fun k (e : vr.ownBlock = some k) => hRr.typed k e
    have op := fun k (e : vp.ownBlock = some k) => hRp.typed k e
    have s89 := B9.size
    have s910 := B10.size
    have s1011 := B11.size
    have s1112 := B12.size
    have hlo := ordO_len (h := h)
    clear P11 b0b b1b hpiv hRg hRo hRr
    clear B9 B10 B11 B12 B811 C9 C10 C11
    obtain ⟨Ag, cg, rfl, _, _⟩ := hRg12.slice
    have J12 := DsJ.start hRg12 rfl
    replace J12 := Aside0.mk J12
    replace og := Aside0.mk og
    replace oo := Aside0.mk oo
    replace orr := Aside0.mk orr
    replace op := Aside0.mk op
    replace hRo12 := Aside0.mk hRo12
    replace hRr12 := Aside0.mk hRr12
    replace hRp := Aside0.mk hRp
    replace hR7 := Aside0.mk hR7
    replace hR8 := Aside0.mk hR8
    replace B812 := Aside0.mk B812
    clear hRg12
    go_wp2_with fail
    go_loopw [77] (fun vi wr => DsJ w12 Ag (graphP h).length cg vi wr) (fun vi _ => (graphP h).length - (intOf vi).toNat)
    case atStart => exact J12.out
    case round =>
      clear J12
      obtain ⟨j, rfl, hj, hgr, hcs⟩ := hrel
      by_cases hjl : j < (graphP h).length
      · obtain ⟨g, cs, rfl, hb, hsz⟩ := hcs (by omega)
        obtain ⟨y0, hy0⟩ := cell_blk hb (o := j * 3) (by omega)
        obtain ⟨y1, hy1⟩ := cell_blk hb (o := j * 3 + 1) (by omega)
        obtain ⟨y2, hy2⟩ := cell_blk hb (o := j * 3 + 2) (by omega)
        have f0 := frozen_blk (o := j * 3) hb
        have f1 := frozen_blk (o := j * 3 + 1) hb
        have f2 := frozen_blk (o := j * 3 + 2) hb
        obtain ⟨cs', hb', hs'⟩ := put3_blk (o := j * 3) hb (.int .i64 (-9)) (.int .i64 0) (.int .i64 0)
        have fin : DsJ w12 (some ⟨g, 0, none⟩) (graphP h).length cg (.int .i64 ((j : Int) + 1)) (((wr.setCell ⟨g, j * 3, none⟩ (.int .i64 (-9))).setCell ⟨g, j * 3 + 1, none⟩ (.int .i64 0)).setCell ⟨g, j * 3 + 2, none⟩ (.int .i64 0)) :=
          ⟨j + 1, by simp, hjl, trans_grown (trans_grown (trans_grown hgr (grown_set wr g _ _)) (grown_set _ g _ _)) (grown_set _ g _ _), fun _ => ⟨g, cs', rfl, hb', by omega⟩⟩
        clear hgr hcs hb hb' hs' hsz
        have i0 : (0 : Int) ≤ (j : Int) := by omega
        have i1 : (j : Int) < ((graphP h).length : Int) := by omega
        replace fin := Aside0.mk fin
        go_wp2
        refine ⟨fin.out, ?_⟩
        simp [intOf]
        omega
      · obtain rfl : j = (graphP h).length := by omega
        clear hcs
        have s12r := hgr.size
        have B8r : Below w8.heap.size w8 wr := B812.out.grown hgr (by omega) (fun k e => (og.out k e).1)
        have hRor := hRo12.out.grown hgr (fun b e => by
          intro e2
          have h1 := (og.out b e).2.1
          have h2 := (oo.out b e2).1
          omega)
        have hRrr := hRr12.out.grown hgr (fun b e => by
          intro e2
          have h1 := (og.out b e).2.1
          have h2 := (orr.out b e2).1
          omega)
        have hRpr := hRp.out.grown hgr (fun b e => by
          intro e2
          have h1 := (og.out b e).2.1
          have h2 := (op.out b e2).1
          omega)
        have S1 := scribble_calls _ vo _ wr hRor (by omega) (by omega)
        clear hgr
        replace hRrr := Aside0.mk hRrr
        replace hRpr := Aside0.mk hRpr
        go_wp2_with fail
        refine S1.mono ?_
        rintro e w13 ⟨rfl, G13⟩
        have s13 := G13.size
        have B813 : Below w8.heap.size w8 w13 := B8r.grown G13 (by omega) (fun k e => by have := (oo.out k e).1; omega)
        have hRr13 := hRrr.out.grown G13 (fun b e => by
          intro e2
          have h1 := (oo.out b e).2.1
          have h2 := (orr.out b e2).1
          omega)
        have hRp13 := hRpr.out.grown G13 (fun b e => by
          intro e2
          have h1 := (oo.out b e).2.1
          have h2 := (op.out b e2).1
          omega)
        have S2 := scribble_calls _ vr _ w13 hRr13 (by omega) (by omega)
        clear S1 G13 B8r hRor
        replace hRp13 := Aside0.mk hRp13
        go_wp2_with fail
        refine S2.mono ?_
        rintro e w14 ⟨rfl, G14⟩
        have s14 := G14.size
        have B814 : Below w8.heap.size w8 w14 := B813.grown G14 (by omega) (fun k e => by have := (orr.out k e).1; omega)
        have hRp14 := hRp13.out.grown G14 (fun b e => by
          intro e2
          have h1 := (orr.out b e).2.1
          have h2 := (op.out b e2).1
          omega)
        have S3 := scribble_calls _ vp _ w14 hRp14 (by omega) (by omega)
        clear S2 G14 B813 hRr13
        go_wp2_with fail
        refine S3.mono ?_
        rintro e w15 ⟨rfl, G15⟩
        have s15 := G15.size
        have B815 : Below w8.heap.size w8 w15 := B814.grown G15 (by omega) (fun k e => by have := (op.out k e).1; omega)
        clear S3 G15 B814 hRp14 hRrr hRpr og oo orr op hRo12 hRr12 hRp
        have C15 := below_then C8 C8.size B815
        obtain ⟨⟨b0f, b1f⟩, _⟩ := HELD.out w15 C15
        have S15 := RS.out w15 C15 hok.out
        unfold OrdsPost at S15
        rw [wantL_of hok.out] at S15
        have em : ((most.toNat + 1 : Nat) : Int) = most + 1 := by omega
        rw [em] at S15
        have wm : IntKind.i64.wrap most = most := IntWalk.i64_in _ (by omega)
        have wm1 : IntKind.i64.wrap (most + 1) = most + 1 := IntWalk.i64_in _ (by omega)
        clear RS
        go_wp2_with fail
        refine S15.mono ?_
        rintro e w17 ⟨v17, rfl, hF17, B17⟩
        have C17 := below_then C15 C15.size B17
        have B817 := below_then B815 B815.size B17
        obtain ⟨Aw, cw, rfl⟩ := hF17.slice
        obtain ⟨w18, hw18⟩ : ∃ w, w = w17.alloc (.cells #[.slice Aw (wantL h (most.toNat + 1)).length cw] 46) := ⟨_, rfl⟩
        have B18 : Below w17.heap.size w17 w18 := by rw [hw18]; exact (Below.refl _ w17).alloc (Nat.le_refl _) _
        obtain ⟨qa, hqa⟩ : ∃ qa, qa = w17.heap.size := ⟨_, rfl⟩
        have cqa : w18.cell? ⟨qa, 0, none⟩ = some (.slice Aw (wantL h (most.toNat + 1)).length cw) := by rw [hw18, hqa]; exact cell_of_row _ _ 0 _ 46 (0, 0) (heap_alloc_new w17 _)
        have C18 := below_then C17 C17.size B18
        have B818 := below_then B817 B817.size B18
        have hF18 := hF17.below B18
        obtain ⟨w19, hw19⟩ : ∃ w, w = w18.alloc (.cells #[.int .i64 0] 3) := ⟨_, rfl⟩
        obtain ⟨q, hq⟩ : ∃ q, q = w18.heap.size := ⟨_, rfl⟩
        have B19 : Below w18.heap.size w18 w19 := by rw [hw19]; exact (Below.refl _ w18).alloc (Nat.le_refl _) _
        have cn : w19.cell? ⟨q, 0, none⟩ = some (.int .i64 0) := by rw [hw19, hq]; exact cell_of_row _ _ 0 _ 3 (0, 0) (heap_alloc_new w18 _)
        have fn : w19.frozen? ⟨q, 0, none⟩ = false := by rw [hw19, hq]; simp [go_sem]
        have s19 : w19.heap.size = w18.heap.size + 1 := by rw [hw19]; simp
        have lqa := World.block_lt_of_cell? _ _ cqa
        simp only at lqa
        have C19 := below_then C18 C18.size B19
        have lq1 : w18.heap.size ≤ q := by omega
        have lq2 : q < w19.heap.size := by omega
        obtain ⟨⟨b0h, b1h⟩, _⟩ := HELD.out w19 C19
        have S19 := OS.out w19 C19
        unfold OsPost2 at S19
        clear S15 OS C17 C15 B17 B815 b0f b1f hF17
        go_upto_region 18 with (fail)
        rw [← hw18, ← hqa]
        clear hw18
        replace hqa := Aside0.mk hqa
        go_upto_region 19 with (fail)
        rw [← hw19, ← hq]
        clear hw19 s19
        replace hq := Aside0.mk hq
        go_wp2_with fail
        refine S19.mono ?_
        rintro e w20 ⟨vf, rfl, OF, B20⟩
        have B1820 := below_then B19 B19.size B20
        have cn20 := (B20.cell (World.block_lt_of_cell? _ _ cn)).trans cn
        have fn20 := (B20.frozen (World.block_lt_of_cell? _ _ cn)).trans fn
        have s1920 := B20.size
        have C20 := below_then C19 C19.size B20
        obtain ⟨gf, lb, Good, rfl, eg, IT, HG⟩ := Os_iter2 OF 8
        have UP : ∀ A, w20.grownBy A (some q) → Below w18.heap.size w18 A := fun A g => B1820.trans ((below_grown g (by omega)).mono lq1)
        have c4818 := C18.size
        clear S19 b0h b1h OF B19 B20 cn fn C19
        go_wp2_with fail
        refine (wpIn_wide (n := 9)).1 ?_
        refine range_brk3 (n := 9) rfl eg rfl IT (fun n0 k x A B h t => h.turns t) (by omega) (OwI q (wantL h (most.toNat + 1)).length w20) 2
          (fun A => A.cell? ⟨q, 0, none⟩ = some (.int .i64 ((wantL h (most.toNat + 1)).length : Int)) ∧ w20.grownBy A (some q))
          ?hI ?hJ ?hSJ (fun k A h => HG A (fun k h1 h2 => h.2.2.block k h2 (fun e => by injection e with e; omega))) ⟨⟨cn20, fn20⟩, Nat.zero_le _, grown_refl _ _⟩ ?a1 ?assign ?body ?brk ?done
        case hI =>
          intro k A B h t
          exact h.step (Nat.le_refl _) t (by omega)
        case hJ =>
          rintro A B ⟨h1, h4⟩ t
          obtain ⟨l, o, o', hl, ho, hc, rfl⟩ := t
          exact ⟨cells_turns ⟨l, o, o', hl, ho, hc, rfl⟩ h1, grown_then h4 (grownBy_putObj' A l o') (fun b e => by cases e; exact .inr hl)⟩
        case hSJ =>
          rintro k A hk ⟨⟨h1, h2⟩, h3, h4⟩
          have : k = (wantL h (most.toNat + 1)).length := by
            rw [wantL_len] at h3 ⊢
            omega
          rw [this] at h1
          exact ⟨h1, h4⟩
        case brk =>
          intro a' W h
          refine wpIn_exit ?_
          rw [Exit.inBlock, if_pos rfl]
          exact h
        case assign =>
          intro lp x W K hK
          gi_wp2
          exact hK
        case body =>
          rintro lp k n0 x W hn0 ⟨⟨p1, p2⟩, hk, hg⟩ ⟨L, hL, hR⟩
          have BU := UP W hg
          have cqW := (BU.cell (World.block_lt_of_cell? _ _ cqa)).trans cqa
          by_cases hkl : k < (wantL h (most.toNat + 1)).length
          · have hl := RowI_len hR
            have hll := allH_len (List.mem_of_getElem? hL)
            obtain ⟨Ax, cx, rfl, hX⟩ := RowI_AC hR hl
            have hwk : (wantL h (most.toNat + 1))[k]? = some L := wantL_at hL (by rw [wantL_len] at hkl; omega)
            obtain ⟨g, cg, eg2, Ay, cy, hcy, hY⟩ := FoundR_at (hF18.below BU) hwk
            injection eg2 with eAw _ ecw
            subst eAw ecw
            have EQ := EqI_calls Ax Ay cx cy L W hX hY hl
            have hRl := hR.lower hn0
            have SC := fun W5 (B5 : Below W.heap.size W W5) => scribble_calls w20.heap.size _ L W5 (hRl.below B5) (by omega) (Nat.le_trans hg.size B5.size)
            have wk1 : IntKind.i64.wrap ((k : Int) + 1) = (k : Int) + 1 := IntWalk.i64_in _ (by rw [wantL_len] at hkl; omega)
            have ige2 : ¬ (((wantL h (most.toNat + 1)).length : Int) ≤ (k : Int)) := by omega
            have i0 : (0 : Int) ≤ (k : Int) := by omega
            have i1 : (k : Int) < ((wantL h (most.toNat + 1)).length : Int) := by omega
            have N : ∀ W5 W6, Below W.heap.size W W5 → W5.grownBy W6 (Value.slice Ax L.length cx).ownBlock → (W6.cell? ⟨q, 0, none⟩ = some (.int .i64 (k : Int)) ∧ W6.frozen? ⟨q, 0, none⟩ = false) ∧ ∀ a : Act, LeftAt3 n0 (.slice Ax L.length cx) (OwI q (wantL h (most.toNat + 1)).length w20 (k + 1)) (fun c A => c = .exit 2 ∧ A.cell? ⟨q, 0, none⟩ = some (.int .i64 ((wantL h (most.toNat + 1)).length : Int)) ∧ w20.grownBy A (some q)) W .normal a (W6.setCell ⟨q, 0, none⟩ (.int .i64 ((k : Int) + 1))) := by
              intro W5 W6 B5 G6
              have own : ∀ b, (Value.slice Ax L.length cx).ownBlock = some b → n0 ≤ b ∧ b < W.heap.size ∧ ∃ cells, W.heap[b]? = some (.cells cells 3 (0, 0)) := fun b e => hR.typed b e
              have lqW := World.block_lt_of_cell? _ _ p1
              simp only at lqW
              have G56 : W.grownBy W6 (Value.slice Ax L.length cx).ownBlock := grown_then (grown_of_below B5 _) G6 (fun b e => .inl e)
              have hq6 : W6.heap[q]? = W.heap[q]? := G56.block q lqW (fun e => by have := (own q e.symm).1; omega)
              have p16 : W6.cell? ⟨q, 0, none⟩ = some (.int .i64 (k : Int)) := (World.cell?_of_block (a := ⟨q, 0, none⟩) hq6).trans p1
              have p26 : W6.frozen? ⟨q, 0, none⟩ = false := (World.frozen?_of_block (a := ⟨q, 0, none⟩) hq6).trans p2
              have KO : KeepsOthers W W6 := .of_grownBy G56 (fun j o e ho => by
                obtain ⟨_, _, cells, hcl⟩ := own j e
                rw [hcl] at ho
                cases ho
                rfl)
              have K3 : Keeps3 n0 (.slice Ax L.length cx) W W6 := ⟨G56.size, fun b hb hv c e s hc => (G56.block b (Array.getElem?_eq_some_iff.1 hc).1 (fun e2 => hv e2.symm)).trans hc⟩
              have g6 : w20.grownBy W6 (some q) := grown_then hg G56 (fun b e => .inr (by have := (own b e).1; omega))
              exact ⟨⟨p16, p26⟩, fun _ => ⟨KO.trans (.setCell _ _ _), ⟨⟨World.cell?_setCell_same' _ _ _ (by rw [p16]; rfl), by rw [World.frozen?_setCell]; exact p26⟩, hkl, grown_then g6 (grownBy_setCell' W6 _ _) (fun b e => .inl e)⟩, K3.trans (Keeps3.set _ _ (by omega))⟩⟩
            clear hX hY hR hRl hL hwk BU hg hll IT HG UP C20 B818 B1820 C18 HELD BW EC EA RO RG2 OR hR7 hR8
            generalize wantL h (most.toNat + 1) = wl at *
            generalize allH h = al at *
            replace N := Aside0.mk N
            replace SC := Aside0.mk SC
            gi_wp2_with fail
            refine ⟨trivial, (CallsIn.inRound lp (callsIn_wide.2 EQ)).mono ?_⟩
            rintro e W5 ⟨rfl, B5⟩
            have S5 := SC.out W5 B5
            clear EQ SC p1 p2 cqW hcy
            gi_wp2_with fail
            refine ⟨trivial, (CallsIn.inRound lp (callsIn_wide.2 S5)).mono ?_⟩
            rintro e W6 ⟨rfl, G6⟩
            obtain ⟨⟨p1, p2⟩, N6⟩ := N.out W5 W6 B5 G6
            clear S5 N B5 G6
            replace N6 := Aside0.mk N6
            gi_wp2
            exact N6.out _
          · obtain rfl : k = (wantL h (most.toNat + 1)).length := by omega
            have K : KeepsOthers W W ∧ W.cell? ⟨q, 0, none⟩ = some (.int .i64 ((wantL h (most.toNat + 1)).length : Int)) ∧ w20.grownBy W (some q) := ⟨KeepsOthers.refl _, p1, hg⟩
            have hge : (((wantL h (most.toNat + 1)).length : Int) ≤ ((wantL h (most.toNat + 1)).length : Int)) := Int.le_refl _
            obtain ⟨Ax, cx, rfl, _⟩ := hR.slice
            clear hL hR BU hg IT HG UP C20 B818 B1820 C18 HELD BW EC EA RO RG2 OR hR7 hR8
            replace K := Aside0.mk K
            gi_wp2
            exact ⟨K.out.1, rfl, K.out.2⟩
        case done =>
          rintro D W hD ⟨n1, hg⟩ hK
          have BU := UP W hg
          have cqW := (BU.cell (World.block_lt_of_cell? _ _ cqa)).trans cqa
          have CW := below_then C18 C18.size BU
          have B8W := below_then B818 B818.size BU
          have hDw : w.heap.size ≤ D := by
            have := hbx.out
            have := B1820.size
            omega
          have hR7W := (hR7.out.below B8).below B8W
          have hR8W := hR8.out.below B8W
          obtain ⟨Ac, cc, rfl, hCc⟩ := RowI_AC hR7W (by omega)
          obtain ⟨Aa, ca, rfl, hAa⟩ := RowA_AC hR8W (by omega)
          clear IT HG UP C20 B1820 B818 C18 hF18 cqa cn20 fn20 hR7 hR8 hR7W hR8W B8W hg BU
          obtain ⟨⟨b0w, b1w⟩, _⟩ := HELD.out W CW
          have G := GR.out W CW
          unfold GrPost at G
          rw [e0, egl] at G
          go_wp2_with fail
          refine G.mono ?_
          rintro e x1 ⟨vg2, rfl, hRg2, X1⟩
          have CX1 := below_then CW CW.size X1
          obtain ⟨⟨b0x, b1x⟩, _⟩ := HELD.out x1 CX1
          have O := OR.out x1 CX1
          unfold OPost at O
          rw [e0] at O
          obtain ⟨Ag2, cg2, rfl, hDg2⟩ := RD_C hRg2
          clear G b0w b1w hRg2 GR
          have hol := ordO_len (h := h)
          have RB := fun W' (B : Below w4.heap.size w4 W') => (RO.out W' B hok.out).mono (fun e w' h => h.get)
          rw [ordO_of hok.out] at RB
          generalize ordO h = oo at *
          go_wp2_with fail
          refine O.mono ?_
          rintro e x2 ⟨vo2, rfl, hRo2, X2⟩
          have CX2 := below_then CX1 CX1.size X2
          obtain ⟨⟨b0y, b1y⟩, _⟩ := HELD.out x2 CX2
          have R := RB x2 CX2
          obtain ⟨Ao2, co2, rfl, hIo2⟩ := RowI_AC hRo2 (by omega)
          clear O b0x b1x hRo2 RB RO
          go_wp2_with fail
          refine R.mono ?_
          rintro e x3 ⟨vb, rfl, hRb, X3⟩
          have CX3 := below_then CX2 CX2.size X3
          have BX3 := below_then X1 X1.size (below_then X2 X2.size X3)
          obtain ⟨⟨b0z, b1z⟩, _⟩ := HELD.out x3 CX3
          obtain ⟨Ab, cb, rfl, hIb⟩ := RowI_AC hRb (by omega)
          have E1 := EC.out x3 CX3 Ac cc (Kd.C_below hCc BX3)
          clear R b0y b1y hRb
          generalize oo.getD [] = lo at *
          generalize oo.isSome = bo2 at *
          go_wp2_with fail
          refine E1.mono ?_
          rintro e x4 ⟨rfl, X4⟩
          have CX4 := below_then CX3 CX3.size X4
          have BX4 := below_then BX3 BX3.size X4
          obtain ⟨⟨b0u, b1u⟩, _⟩ := HELD.out x4 CX4
          have E2 := EA.out x4 CX4 Aa ca (Kd.C_below hAa BX4)
          clear E1 b0z b1z hCc BX3
          go_wp2_with fail
          refine E2.mono ?_
          rintro e x5 ⟨rfl, X5⟩
          have CX5 := below_then CX4 CX4.size X5
          have BX5 := below_then BX4 BX4.size X5
          obtain ⟨⟨b0v, b1v⟩, _⟩ := HELD.out x5 CX5
          have R5 := RG2.out x5 CX5 hok.out
          clear E2 b0u b1u hAa BX4
          go_wp2_with fail
          refine R5.mono ?_
          rintro e x6 ⟨vg3, rfl, hRg3, X6⟩
          have CX6 := below_then CX5 CX5.size X6
          have BX6 := below_then BX5 BX5.size X6
          have BX26 := below_then X3 X3.size (below_then X4 X4.size (below_then X5 X5.size X6))
          have BX16 := below_then X2 X2.size BX26
          obtain ⟨Ag3, cg3, rfl, hDg3⟩ := RowD_AC hRg3 (by omega)
          have E6 := EqD_calls Ag2 Ag3 cg2 cg3 _ x6 (Kd.C_below hDg2 BX16) hDg3 (by omega)
          clear R5 b0v b1v hRg3 hDg2 hDg3 BX16 BX5
          go_wp2_with fail
          refine E6.mono ?_
          rintro e x7 ⟨rfl, X7⟩
          have CX7 := below_then CX6 CX6.size X7
          have BX7 := below_then BX6 BX6.size X7
          have BX27 := below_then BX26 BX26.size X7
          have E7 := EqI_calls Ao2 Ab co2 cb lo x7 (Kd.C_below hIo2 BX27) (Kd.C_below hIb (below_then X4 X4.size (below_then X5 X5.size (below_then X6 X6.size X7)))) (by omega)
          clear E6 BX26 BX27 hIo2 hIb BX6
          go_wp2_with fail
          refine E7.mono ?_
          rintro e x8 ⟨rfl, X8⟩
          have CX8 := below_then CX7 CX7.size X8
          have BX8 := below_then BX7 BX7.size X8
          have n8 := (BX8.cell (World.block_lt_of_cell? _ _ n1)).trans n1
          have c8 := (BX8.cell (World.block_lt_of_cell? _ _ cqW)).trans cqW
          obtain ⟨_, t8, f8⟩ := HELD.out x8 CX8
          have k8 := (BX8.block D (Array.getElem?_eq_some_iff.1 hK).1).trans hK
          have eqq : (((wantL h (most.toNat + 1)).length : Int) == ((wantL h (most.toNat + 1)).length : Int)) = true := by simp
          have KE := fun tmps ht => own_end7 D (bx + 1) tmps w x8 (BW.out _ (CX8.mono q1)) t8 k8 hDw (by have := hbx.out; omega) ht
          clear E7 X8 BX7 BX8 CX8 n1 cqW hK k8 BW HELD
          replace KE := Aside0.mk KE
          go_wp2
          exact KE.out _ rfl
  · rw [okB_no hok]
    replace hok := Aside0.mk hok
    go_wp2_with fail
    refine L5.mono ?_
    rintro e w6 ⟨rfl, B6⟩
    have C6 := below_then B5 B5.size B6
    obtain ⟨_, t3, f3⟩ := HELD.out w6 C6
    have KE := fun tmps ht => one_end7 (b := bx + 1) (tmps := tmps) (BW.out _ (C6.mono q1)) t3 (by have := hbx.out; omega) ht
    clear L5 B5 B6 b05 b15 BW HELD C6
    replace KE := Aside0.mk KE
    go_wp2
    exact KE.out _ rfl
theorem SerialOwn_calls (z : HV) (most : Int) (w : World) (hz : z.OK w) (hm : (Lit.int .u8 most).wf = true) : Calls Tryz.prog 7 #[mkH z, .int .u8 most] w fun e w' => e = .returned (.bool true) ∧ Below w.heap.size w w' := by
  have := bounds_u8 hm
  exact Own7_calls z most w hz (by omega) (by omega)
end Go.Proofs.YtedcnpaomphffaaGreat
