import Derived.Test.YtbellkkheppofaaV
namespace Go.Proofs.Ytbellkkheppofaa
open Go.RowKit Go.Maps Go.Sort Go.Lib Go.Proofs.YtbellkkheppofaaW.PrintWords Go.Proofs.YtbellkkheppofaaW.PrintLast Go.Proofs.YtbellkkheppofaaW.PrintMore
set_option linter.unusedVariables false
set_option linter.unusedSimpArgs false
set_option linter.unusedSectionVars false
theorem Lo.lower {α : Type} {enc : α → List Value} {k e base base' : Nat} {w : World} {v : Value} {xs : List α} (h : Lo enc k e w base v xs) (hb : base' ≤ base) : Lo enc k e w base' v xs := by
  obtain ⟨inner, h1, h2⟩ := h
  exact ⟨inner, l_lower h1 hb, h2⟩
theorem RTake_more (L : List (Lk × Int)) (tx : Int) (a : Lk) (B bj : Nat) (vj : Value) (wj : World) (h : Lo encH 3 64 wj B vj L) (hb : wj.heap[bj]? = some (.cells #[.string a.1, .string a.2, .int .i64 tx] 64 (0, 0))) (hL : L.length ≤ 4096) (hB : B ≤ wj.heap.size) :
    ∃ A8 c8 w8, (Builtin.append_ #[41, 41] 41 #[vj, .slice (some ⟨bj, 0, none⟩) 1 1]).run Try.prog wj = .ok (.slice A8 (L.length + 1) c8) w8 ∧ Lo encH 3 64 w8 B (.slice A8 (L.length + 1) c8) (L ++ [(a, tx)]) ∧ wj.grownBy w8 vj.ownBlock := by
  have src : Src encH 3 wj (some ⟨bj, 0, none⟩) [(a, tx)] := ⟨encH (a, tx), rfl, by
    have := (Reps.none (fun (x : Lk × Int) cs => cs = encH x) 3).snoc (p := (a, tx)) rfl rfl
    simpa using this, fun _ => ⟨_, rfl, fun j u hu => by
      rw [add_plain, cell_of_row wj bj j _ 64 (0, 0) hb, ← hu]
      simp [encH]⟩⟩
  obtain ⟨v8, w8, hr, h8, hg⟩ := Lo.appS (P := Try.prog) h (fun _ => rfl) encH_one 41 41 (.agg #[.string ByteArray.empty, .string ByteArray.empty, .int .i64 0]) 40 Try.underlying41 info64 rfl (by omega) (by omega) _ 1 src (by simp; omega) hB
  obtain ⟨A8, c8, rfl, _⟩ := h8.slice
  rw [show (L ++ [(a, tx)]).length = L.length + 1 by simp] at hr h8
  exact ⟨A8, c8, w8, hr, h8, hg⟩
theorem grown_set (w : World) (g j : Nat) (u : Value) : w.grownBy (w.setCell ⟨g, j, none⟩ u) (some g) := ⟨rfl, rfl, rfl, by simp [World.setCell], fun i _ hne => Below.heap_setCell w ⟨g, j, none⟩ u i (fun e => hne (by rw [e]))⟩
theorem zero64 : (Value.agg #[.string ByteArray.empty, .string ByteArray.empty, .int .i64 0]).cells.size = 3 := rfl
set_option maxHeartbeats 8000000 in
set_option maxRecDepth 100000 in
theorem RTake_calls (base br : Nat) (most : Int) (L : List (Lk × Int)) (v : Value) (tx snap last : Int) (a : Lk) (w : World) (h : Rm w base br most L v) (hL : L.length ≤ 4096) (hbase : base ≤ w.heap.size) :
    Calls Try.prog 24 #[.pointer (some ⟨br, 0, none⟩), .int .i64 tx, .int .i64 snap, .int .i64 last, .agg #[.string a.1, .string a.2]] w fun e w' => e = .returned (.int .i64 (tk most L tx snap last a).2) ∧ (∃ v', Rm w' base br most (tk most L tx snap last a).1 v') ∧ w.grownBy w' (some br) := by
  obtain ⟨w1, hw1⟩ : ∃ w1, w1 = w.alloc (.cells #[.string a.1, .string a.2] 23) := ⟨_, rfl⟩
  have g1 : w.grownBy w1 none := by rw [hw1]; exact World.grownBy_alloc _ _ _
  have hc1 : w1.cell? ⟨w.heap.size, 0, none⟩ = some (.string a.1) := by rw [hw1]; simp [go_sem]
  have hc2 : w1.cell? ⟨w.heap.size, 1, none⟩ = some (.string a.2) := by rw [hw1]; simp [go_sem]
  have h1 := h.grown g1 (by simp) (by simp)
  have hbr := (Array.getElem?_eq_some_iff.1 h.obj).1
  have H := RHolder_calls base br most L v a w1 h1 hL
  have o0 := h1.c0
  go_enter Try.func24, Try.ntmps24
  go_upto_region 1 with (fail)
  rw [← hw1]
  clear hw1 h
  go_wp2_with fail
  refine H.mono ?_
  rintro e w2 ⟨rfl, B2⟩
  have h2 := h1.grown (grown_of_below B2 none) (by simp) (by simp)
  have g2 := trans_grown g1 (grown_of_below B2 none)
  have d1 := (B2.cell (World.block_lt_of_cell? _ _ hc1)).trans hc1
  have d2 := (B2.cell (World.block_lt_of_cell? _ _ hc2)).trans hc2
  clear h1 g1 hc1 hc2 H B2 o0
  by_cases hx : tx < 1 ∨ snap < 0 ∨ last < 0
  · have ht : tk most L tx snap last a = (L, 1) := by unfold tk; rw [if_pos hx]
    replace ht := Aside0.mk ht
    by_cases e1 : tx < 1
    · go_wp2
      go_ret
      rw [ht.out]
      exact ⟨rfl, ⟨v, h2⟩, grown_none g2⟩
    by_cases e2 : snap < 0
    · go_wp2
      go_ret
      rw [ht.out]
      exact ⟨rfl, ⟨v, h2⟩, grown_none g2⟩
    have e3 : last < 0 := by omega
    go_wp2
    go_ret
    rw [ht.out]
    exact ⟨rfl, ⟨v, h2⟩, grown_none g2⟩
  have ht0 : tk most L tx snap last a = match got L a with
    | some h => if h = tx then (L, 0) else (L, 80)
    | none => if snap < last then (L, 81) else if most ≤ L.length then (L, 4) else (L ++ [(a, tx)], 0) := by
    unfold tk
    rw [if_neg hx]
    cases got L a <;> rfl
  have e1 : ¬ tx < 1 := by omega
  have e2 : ¬ snap < 0 := by omega
  have e3 : ¬ last < 0 := by omega
  clear hx
  cases hg : got L a with
  | some hh =>
    rw [hg] at ht0
    dsimp only at ht0
    simp only [Option.getD_some, Option.isSome_some]
    by_cases e : hh = tx
    · subst e
      rw [if_pos rfl] at ht0
      replace ht := Aside0.mk ht0
      clear ht0 hg
      go_wp2
      go_ret
      rw [ht.out]
      exact ⟨rfl, ⟨v, h2⟩, grown_none g2⟩
    · rw [if_neg e] at ht0
      replace ht := Aside0.mk ht0
      clear ht0 hg
      have e' : (hh == tx) = false := by simpa using e
      go_wp2
      go_ret
      rw [ht.out]
      exact ⟨rfl, ⟨v, h2⟩, grown_none g2⟩
  | none =>
    rw [hg] at ht0
    dsimp only at ht0
    simp only [Option.getD_none, Option.isSome_none]
    clear hg
    by_cases e : snap < last
    · rw [if_pos e] at ht0
      replace ht := Aside0.mk ht0
      clear ht0
      go_wp2
      go_ret
      rw [ht.out]
      exact ⟨rfl, ⟨v, h2⟩, grown_none g2⟩
    · rw [if_neg e] at ht0
      have o1 := h2.c1
      have o2 := h2.c2
      obtain ⟨A, c, rfl, hlc, hA⟩ := h2.row.slice
      by_cases hf : most ≤ L.length
      · rw [if_pos hf] at ht0
        replace ht := Aside0.mk ht0
        clear ht0
        go_wp2_with fail
        go_region_held3 (fun W => W.cell? ⟨br, 1, none⟩ = some (.int .i64 most) ∧ W.cell? ⟨br, 2, none⟩ = some (.slice A L.length c)) (exact ⟨o1, o2⟩) (fail)
        go_wp2
        go_ret
        rw [ht.out]
        exact ⟨rfl, ⟨_, h2.grown (row := none) ⟨rfl, rfl, rfl, Nat.le_refl _, fun _ _ _ => rfl⟩ (by simp) (by simp)⟩, grown_none (trans_grown g2 ⟨rfl, rfl, rfl, Nat.le_refl _, fun _ _ _ => rfl⟩)⟩
      · rw [if_neg hf] at ht0
        replace ht := Aside0.mk ht0
        clear ht0
        have hf' : (L.length : Int) < most := by omega
        go_wp2_with fail
        go_region_held3 (fun W => W.cell? ⟨br, 1, none⟩ = some (.int .i64 most) ∧ W.cell? ⟨br, 2, none⟩ = some (.slice A L.length c)) (exact ⟨o1, o2⟩) (fail)
        have src := h2.row.src rfl
        have ob := h2.obj
        obtain ⟨v7, w7, hr7, L7, g7⟩ := Lo.appS (P := Try.prog) (Lo.nil (enc := encH) (k := 3) (e := 64) w2.drew.drew w2.heap.size) (fun _ => rfl) encH_one 41 41 _ 40 Try.underlying41 info64 zero64 (by omega) (by omega) A c src (by simp; omega) (Nat.le_refl _)
        rw [List.nil_append] at L7
        have b2 : w.heap.size < w2.heap.size := World.block_lt_of_cell? _ _ d1
        have hbr2 : br < w2.heap.size := by omega
        have q7 : w2.grownBy w7 none := ⟨g7.os, g7.tape, g7.output, g7.size, fun i hi _ => g7.block i hi (by simp [Value.ownBlock])⟩
        have q7a : w2.grownBy (w7.alloc (.cells #[.string a.1, .string a.2, .int .i64 tx] 64)) none := trans_grown q7 (World.grownBy_alloc _ _ _)
        have k7 : ∀ q j u, q < w2.heap.size → w2.cell? ⟨q, j, none⟩ = some u → w7.cell? ⟨q, j, none⟩ = some u := fun q j u hq hu => q7.cell hu (by simp)
        have k7a : ∀ o q j u, q < w2.heap.size → w2.cell? ⟨q, j, none⟩ = some u → (w7.alloc o).cell? ⟨q, j, none⟩ = some u := fun o q j u hq hu => (trans_grown q7 (World.grownBy_alloc w7 o none)).cell hu (by simp)
        have L7a : Lo encH 3 64 (w7.alloc (.cells #[.string a.1, .string a.2, .int .i64 tx] 64)) w2.heap.size v7 L := L7.grown (World.grownBy_alloc w7 _ none) (by simp)
        have n7a : (w7.alloc (.cells #[.string a.1, .string a.2, .int .i64 tx] 64)).heap[w7.heap.size]? = some (.cells #[.string a.1, .string a.2, .int .i64 tx] 64 (0, 0)) := heap_alloc_new w7 _
        have p7a : v7.ownBlock ≠ some w7.heap.size := fun e => by have := (L7.typed _ e).2.1; omega
        obtain ⟨w6, hw6⟩ : ∃ w6, w6 = w2.drew.drew.alloc (.cells #[.string a.1, .string a.2, .int .i64 tx] 64) := ⟨_, rfl⟩
        have q6 : w2.grownBy w6 none := by rw [hw6]; exact ⟨rfl, rfl, rfl, by simp, fun i hi _ => Below.heap_alloc w2.drew.drew _ i hi⟩
        have n6 : w6.heap[w2.heap.size]? = some (.cells #[.string a.1, .string a.2, .int .i64 tx] 64 (0, 0)) := by rw [hw6]; exact heap_alloc_new w2.drew.drew _
        have z6 : w6.heap.size = w2.heap.size + 1 := by rw [hw6]; simp
        obtain ⟨v7b, w7b, hr7b, L7b, g7b⟩ := Lo.appS (P := Try.prog) (Lo.nil (enc := encH) (k := 3) (e := 64) w6 w6.heap.size) (fun _ => rfl) encH_one 41 41 _ 40 Try.underlying41 info64 zero64 (by omega) (by omega) A c ((h2.row.grown q6 (by simp)).src rfl) (by simp; omega) (Nat.le_refl _)
        rw [List.nil_append] at L7b
        have p7b : v7b.ownBlock ≠ some w2.heap.size := fun e => by have := (L7b.typed _ e).1; omega
        have n7b : w7b.heap[w2.heap.size]? = some (.cells #[.string a.1, .string a.2, .int .i64 tx] 64 (0, 0)) := (g7b.block _ (by omega) (by simp [Value.ownBlock])).trans n6
        have q7b : w2.grownBy w7b none := trans_grown q6 ⟨g7b.os, g7b.tape, g7b.output, g7b.size, fun i hi _ => g7b.block i hi (by simp [Value.ownBlock])⟩
        replace L7b := L7b.lower (show w2.heap.size ≤ w6.heap.size by omega)
        have k7b : ∀ q j u, q < w2.heap.size → w2.cell? ⟨q, j, none⟩ = some u → w7b.cell? ⟨q, j, none⟩ = some u := fun q j u hq hu => q7b.cell hu (by simp)
        have k6a : ∀ q j u, q < w2.heap.size → w2.cell? ⟨q, j, none⟩ = some u → w6.cell? ⟨q, j, none⟩ = some u := fun q j u hq hu => q6.cell hu (by simp)
        subst hw6
        clear z6
        go_wp2_with fail
        refine start_ (n := 14) (S := fun w' => w'.cell? ⟨br, 2, none⟩ = some (.slice A L.length c) ∧ w'.cell? ⟨w.heap.size, 0, none⟩ = some (.string a.1) ∧ w'.cell? ⟨w.heap.size, 1, none⟩ = some (.string a.2)) (ds := [13]) #[false, false, false, false, false, false, false, false, false, false, false, false, false, false] (by kernel_rfl) rfl rfl ⟨o2, d1, d2⟩ (fun hHeld => ?_)
        refine pure_ (i := 0) (N := some 59) (v := ?_) (a' := ?_) #[true, false, false, false, false, false, false, false, false, false, false, false, false, false] rfl rfl (by kernel_rfl) (fun _ _ _ h => h) (Or.inl ⟨by rfl, ?_⟩) ?_ ?_
        rotate_left
        · intro w'
          go_simp
          with_reducible rfl
        rotate_left
        · simp only [Act.put, List.setIfInBounds_toArray, List.set_cons_zero, List.set_cons_succ, i64_w, i32_w]
          rfl
        refine pure_ (i := 1) (N := some 60) (v := ?_) (a' := ?_) #[true, true, false, false, false, false, false, false, false, false, false, false, false, false] rfl rfl (by kernel_rfl) (fun _ _ _ h => h) (Or.inl ⟨by rfl, ?_⟩) ?_ ?_
        rotate_left
        · intro w'
          go_simp
          with_reducible rfl
        rotate_left
        · simp only [Act.put, List.setIfInBounds_toArray, List.set_cons_zero, List.set_cons_succ, i64_w, i32_w]
          rfl
        refine pure_ (i := 2) (N := some 61) (v := ?_) (a' := ?_) #[true, true, true, false, false, false, false, false, false, false, false, false, false, false] rfl rfl (by kernel_rfl) (fun _ _ _ h => h) (Or.inl ⟨by rfl, ?_⟩) ?_ ?_
        rotate_left
        · intro w'
          go_simp
          with_reducible rfl
        rotate_left
        · simp only [Act.put, List.setIfInBounds_toArray, List.set_cons_zero, List.set_cons_succ, i64_w, i32_w]
          rfl
        refine pure_ (i := 3) (N := some 62) (v := ?_) (a' := ?_) #[true, true, true, true, false, false, false, false, false, false, false, false, false, false] rfl rfl (by kernel_rfl) (fun _ _ _ h => h) (Or.inl ⟨by rfl, ?_⟩) ?_ ?_
        rotate_left
        · intro w'
          go_simp
          with_reducible rfl
        rotate_left
        · simp only [Act.put, List.setIfInBounds_toArray, List.set_cons_zero, List.set_cons_succ, i64_w, i32_w]
          rfl
        refine pure_ (i := 7) (N := some 66) (v := ?_) (a' := ?_) #[true, true, true, true, false, false, false, true, false, false, false, false, false, false] rfl rfl (by kernel_rfl) (fun _ _ _ h => h) (Or.inl ⟨by rfl, ?_⟩) ?_ ?_
        rotate_left
        · intro w'
          go_simp
          with_reducible rfl
        rotate_left
        · simp only [Act.put, List.setIfInBounds_toArray, List.set_cons_zero, List.set_cons_succ, i64_w, i32_w]
          rfl
        refine take_ (i := 4) (N := some 63) (v := ?_) (a' := ?_) #[true, true, true, true, true, false, false, true, false, false, false, false, false, false] rfl rfl (by kernel_rfl) (fun _ _ _ h => h) (Or.inl ⟨by rfl, ?_⟩) hHeld ?_ ?_
        rotate_left
        · rintro w' ⟨s0, s1, s2⟩
          go_simp
          with_reducible rfl
        rotate_left
        · simp only [Act.put, List.setIfInBounds_toArray, List.set_cons_zero, List.set_cons_succ, i64_w, i32_w]
          rfl
        refine take_ (i := 6) (N := some 65) (v := ?_) (a' := ?_) #[true, true, true, true, true, false, true, true, false, false, false, false, false, false] rfl rfl (by kernel_rfl) (fun _ _ _ h => h) (Or.inl ⟨by rfl, ?_⟩) hHeld ?_ ?_
        rotate_left
        · rintro w' ⟨s0, s1, s2⟩
          go_simp
          with_reducible rfl
        rotate_left
        · simp only [Act.put, List.setIfInBounds_toArray, List.set_cons_zero, List.set_cons_succ, i64_w, i32_w]
          rfl
        refine pure_ (i := 8) (N := some 67) (v := ?_) (a' := ?_) #[true, true, true, true, true, false, true, true, true, false, false, false, false, false] rfl rfl (by kernel_rfl) (fun _ _ _ h => h) (Or.inl ⟨by rfl, ?_⟩) ?_ ?_
        rotate_left
        · intro w'
          go_simp
          with_reducible rfl
        rotate_left
        · simp only [Act.put, List.setIfInBounds_toArray, List.set_cons_zero, List.set_cons_succ, i64_w, i32_w]
          rfl
        refine join_ (σ := Value × Nat) 4 #[true, true, true, true, true, true, true, true, true, true, false, false, false, false] (fun s => [(64, s.1), (68, .slice (some ⟨s.2, 0, none⟩) 1 1)]) (fun s w' => Lo encH 3 64 w' w2.heap.size s.1 L ∧ w'.heap[s.2]? = some (.cells #[.string a.1, .string a.2, .int .i64 tx] 64 (0, 0)) ∧ s.1.ownBlock ≠ some s.2 ∧ w2.grownBy w' none) ?_ ?_
        rotate_left
        · intro hCont
          refine two_ (i := 5) (j := 9) (Ni := some 64) (Nj := some 68) #[true, true, true, true, true, true, true, true, true, false, false, false, false, false] #[true, true, true, true, true, false, true, true, true, true, false, false, false, false] rfl rfl rfl rfl (by kernel_rfl) (by decide) (by decide) (fun K hK => ?_) (fun K hK => ?_)
          · skip
            refine app_step (by rfl) (by rfl) (by rfl) (by rfl) hr7 ?_
            refine hK.out _ _ ⟨k7 _ _ _ hbr2 o2, k7 _ _ _ b2 d1, k7 _ _ _ b2 d2⟩ (fun hHeld => ?_)
            clear hK K
            refine norm_ (a' := ?_) ?_ ?_
            rotate_left
            · show Act.put _ (some 64) _ = _
              simp only [Act.put, List.setIfInBounds_toArray, List.set_cons_zero, List.set_cons_succ, i64_w, i32_w]
              rfl
            refine one_ (i := 9) (N := some 68) #[true, true, true, true, true, true, true, true, true, true, false, false, false, false] rfl rfl (by kernel_rfl) (by decide) (fun K hK => ?_)
            refine value_ (w1 := ?_) (v := ?_) (by rfl) rfl ?_ ?_
            rotate_left 2
            · go_simp
              constructor
              · rfl
              · rfl
            refine hK.out _ _ ⟨k7a _ _ _ _ hbr2 o2, k7a _ _ _ _ b2 d1, k7a _ _ _ _ b2 d2⟩ (fun hHeld => ?_)
            clear hK K
            refine norm_ (a' := ?_) ?_ ?_
            rotate_left
            · show Act.put _ (some 68) _ = _
              simp only [Act.put, List.setIfInBounds_toArray, List.set_cons_zero, List.set_cons_succ, i64_w, i32_w]
              rfl
            exact norm_ (by simp only [putAll, Act.put, List.setIfInBounds_toArray, List.set_cons_zero, List.set_cons_succ]) (hCont (v7, w7.heap.size) _ ⟨L7a, n7a, p7a, q7a⟩)
          · skip
            refine value_ (w1 := ?_) (v := ?_) (by rfl) rfl ?_ ?_
            rotate_left 2
            · go_simp
              constructor
              · rfl
              · rfl
            refine hK.out _ _ ⟨k6a _ _ _ hbr2 o2, k6a _ _ _ b2 d1, k6a _ _ _ b2 d2⟩ (fun hHeld => ?_)
            clear hK K
            refine norm_ (a' := ?_) ?_ ?_
            rotate_left
            · show Act.put _ (some 68) _ = _
              simp only [Act.put, List.setIfInBounds_toArray, List.set_cons_zero, List.set_cons_succ, i64_w, i32_w]
              rfl
            refine one_ (i := 5) (N := some 64) #[true, true, true, true, true, true, true, true, true, true, false, false, false, false] rfl rfl (by kernel_rfl) (by decide) (fun K hK => ?_)
            refine app_step (by rfl) (by rfl) (by rfl) (by rfl) hr7b ?_
            refine hK.out _ _ ⟨k7b _ _ _ hbr2 o2, k7b _ _ _ b2 d1, k7b _ _ _ b2 d2⟩ (fun hHeld => ?_)
            clear hK K
            refine norm_ (a' := ?_) ?_ ?_
            rotate_left
            · show Act.put _ (some 64) _ = _
              simp only [Act.put, List.setIfInBounds_toArray, List.set_cons_zero, List.set_cons_succ, i64_w, i32_w]
              rfl
            exact norm_ (by simp only [putAll, Act.put, List.setIfInBounds_toArray, List.set_cons_zero, List.set_cons_succ]) (hCont (v7b, w2.heap.size) _ ⟨L7b, n7b, p7b, q7b⟩)
        rintro ⟨vj, bj⟩ wj ⟨Lj, nj, pj, qj⟩
        dsimp only at Lj nj pj
        have hHeld : wj.cell? ⟨br, 2, none⟩ = some (.slice A L.length c) ∧ wj.cell? ⟨w.heap.size, 0, none⟩ = some (.string a.1) ∧ wj.cell? ⟨w.heap.size, 1, none⟩ = some (.string a.2) := ⟨qj.cell o2 (by simp), qj.cell d1 (by simp), qj.cell d2 (by simp)⟩
        refine norm_ (a' := ?_) ?_ ?_
        rotate_left
        · simp only [putAll, Act.put, List.setIfInBounds_toArray, List.set_cons_zero, List.set_cons_succ]
          rfl
        refine one_ (i := 10) (N := some 69) #[true, true, true, true, true, true, true, true, true, true, true, false, false, false] rfl rfl (by kernel_rfl) (by decide) (fun K hK => ?_)
        obtain ⟨A8, c8, w8, hr8, L8, g8⟩ := RTake_more L tx a w2.heap.size bj vj wj Lj nj hL qj.size
        have ob8 : w8.heap[br]? = some (.cells #[.bool true, .int .i64 most, .slice A L.length c] 43 (0, 0)) := (g8.block br (Nat.lt_of_lt_of_le hbr2 qj.size) (fun e => by have := (Lj.typed br e.symm).1; omega)).trans ((qj.block br hbr2 (by simp)).trans ob)
        have f8 : w8.frozen? ⟨br, 2, none⟩ = false := blk_frozen ob8 _
        have o8 : w8.cell? ⟨br, 2, none⟩ = some (.slice A L.length c) := cell_of_row w8 br 2 _ 43 (0, 0) ob8
        have e8 := g8.cell hHeld.2.1 (fun e => by have := (Lj.typed _ e.symm).1; simp at this; omega)
        have i8 := g8.cell hHeld.2.2 (fun e => by have := (Lj.typed _ e.symm).1; simp at this; omega)
        refine app_step (by rfl) (by rfl) (by rfl) (by rfl) hr8 ?_
        refine hK.out _ _ ⟨o8, e8, i8⟩ (fun hHeld => ?_)
        clear hK K
        refine norm_ (a' := ?_) ?_ ?_
        rotate_left
        · show Act.put _ (some 69) _ = _
          simp only [Act.put, List.setIfInBounds_toArray, List.set_cons_zero, List.set_cons_succ, i64_w, i32_w]
          rfl
        refine pure_ (i := 11) (N := some 70) (v := ?_) (a' := ?_) #[true, true, true, true, true, true, true, true, true, true, true, true, false, false] rfl rfl (by kernel_rfl) (fun _ _ _ h => h) (Or.inl ⟨by rfl, ?_⟩) ?_ ?_
        rotate_left
        · intro w'
          go_simp
          with_reducible rfl
        rotate_left
        · simp only [Act.put, List.setIfInBounds_toArray, List.set_cons_zero, List.set_cons_succ, i64_w, i32_w]
          rfl
        refine pure_ (i := 12) (N := some 71) (v := ?_) (a' := ?_) #[true, true, true, true, true, true, true, true, true, true, true, true, true, false] rfl rfl (by kernel_rfl) (fun _ _ _ h => h) (Or.inl ⟨by rfl, ?_⟩) ?_ ?_
        rotate_left
        · intro w'
          go_simp
          with_reducible rfl
        rotate_left
        · simp only [Act.put, List.setIfInBounds_toArray, List.set_cons_zero, List.set_cons_succ, i64_w, i32_w]
          rfl
        refine last_ (i := 13) (N := none) #[true, true, true, true, true, true, true, true, true, true, true, true, true, true] rfl rfl (by kernel_rfl) (by decide) (fun K hK => ?_)
        refine skip_ (w1 := ?_) (by rfl) rfl ?_ ?_
        rotate_left
        · go_simp
          rfl
        refine hK.out _ _ ?_
        clear hK K
        refine done_ (by kernel_rfl) ?_
        go_wp2_with fail
        go_ret
        rw [ht.out]
        have gs := grown_set w8 br 2 (.slice A8 (L.length + 1) c8)
        have g9 : w.grownBy (w8.setCell ⟨br, 2, none⟩ (.slice A8 (L.length + 1) c8)) (some br) := by
          have q8 : w.grownBy w8 none := by
            have q := trans_grown g2 qj
            exact ⟨g8.os.trans q.os, g8.tape.trans q.tape, g8.output.trans q.output, Nat.le_trans q.size g8.size, fun i hi hne => (g8.block i (Nat.lt_of_lt_of_le hi q.size) (fun e => by have := (Lj.typed i e.symm).1; omega)).trans (q.block i hi hne)⟩
          exact trans_grown (grown_none q8) gs
        refine ⟨rfl, ⟨.slice A8 (L.length + 1) c8, ⟨?_, ?_⟩⟩, g9⟩
        · rw [blk_set ob8]
          rfl
        · exact (L8.grown gs (fun b e e' => by injection e with e; subst e; have := (L8.typed _ e').1; omega)).lower (by omega)
end Go.Proofs.Ytbellkkheppofaa
