import Derived.Test.YtbellkkheppofaaY
namespace Go.Proofs.Ytbellkkheppofaa
open Go.RowKit Go.Maps Go.Sort Go.Lib Go.Proofs.YtbellkkheppofaaW.PrintWords Go.Proofs.YtbellkkheppofaaW.PrintLast Go.Proofs.YtbellkkheppofaaW.PrintMore
set_option linter.unusedVariables false
set_option linter.unusedSimpArgs false
set_option linter.unusedSectionVars false
def ltB (a b : Lk) : Bool := Op.bytesLess a.1.toList b.1.toList || ((a.1.toList == b.1.toList) && Op.bytesLess a.2.toList b.2.toList)
theorem ltB_iff (a b : Lk) : ltB a b = true ↔ ltL a b := by
  unfold ltB ltL
  rw [bytesLess_eq, bytesLess_eq]
  simp
set_option maxRecDepth 100000 in
theorem Less_calls (a b : Lk) (w : World) : Calls Try.prog 31 #[.agg #[.string a.1, .string a.2], .agg #[.string b.1, .string b.2]] w fun e w' => e = .returned (.bool (ltB a b)) ∧ Below w.heap.size w w' := by
  have hB : Below w.heap.size w ((w.alloc (.cells #[.string a.1, .string a.2] 23)).alloc (.cells #[.string b.1, .string b.2] 23)) := ((Below.refl _ w).alloc (Nat.le_refl _) _).alloc (by simp) _
  go_enter Try.func31, Try.ntmps31
  go_wp2
  all_goals
    go_ret
    exact ⟨by unfold ltB; simp_all, hB⟩
/-! ### a lock more in a list that rises -/
def SortedL (xs : List Lk) : Prop := xs.Pairwise (fun x y => ¬ ltL y x)
theorem srt_eq {xs ys : List Lk} (h : SortedL ys) (hp : ys.Perm xs) : ys = srt xs := by
  have e := srt_perm hp
  rw [← e]
  have h1 : (srt ys).Perm ys := List.mergeSort_perm ..
  refine (List.Perm.eq_of_pairwise (le := fun x y => ¬ ltL y x) (fun a b _ _ h1 h2 => ?_) h ?_ h1.symm)
  · rcases ltL_total a b with e | e | e
    · exact absurd e h2
    · exact e
    · exact absurd e h1
  · have := List.pairwise_mergeSort (le := fun x y => !(ltOf cmpL) y x) (fun a b c h k => by
      simp only [Bool.not_eq_true', ltOf_cmpL_false] at *
      intro e
      rcases ltL_total a b with f | f | f
      · exact k (ltL_trans e f)
      · subst f; exact k e
      · exact h f) (fun a b => by
      by_cases e : ltL b a
      · have : ltOf cmpL a b = false := (ltOf_cmpL_false _ _).2 (fun f => ltL_irrefl _ (ltL_trans e f))
        simp [this]
      · simp [(ltOf_cmpL_false _ _).2 e]) ys
    refine List.Pairwise.imp ?_ this
    intro a b hab
    simpa [ltOf_cmpL_false] using hab
theorem insert_sorted {xs : List Lk} (h : SortedL xs) (x : Lk) (i : Nat) (hi : i ≤ xs.length) (h1 : ∀ j (hj : j < xs.length), j < i → ltL xs[j] x) (h2 : ∀ hj : i < xs.length, ¬ ltL xs[i] x) : SortedL (xs.take i ++ [x] ++ xs.drop i) := by
  have hd : ∀ y ∈ xs.drop i, ¬ ltL y x := by
    intro y hy hlt
    obtain ⟨j, hj, rfl⟩ := List.mem_iff_getElem.1 hy
    rw [List.length_drop] at hj
    rw [List.getElem_drop] at hlt
    have hi' : i < xs.length := by omega
    have h3 : ltL xs[i + j] xs[i] ∨ j = 0 := by
      rcases ltL_total xs[i] x with e | e | e
      · exact absurd e (h2 hi')
      · exact .inl (e ▸ hlt)
      · exact .inl (ltL_trans hlt e)
    rcases h3 with h3 | h3
    · rcases Nat.eq_zero_or_pos j with h0 | h0
      · subst h0; exact ltL_irrefl _ h3
      · exact List.pairwise_iff_getElem.1 h i (i + j) hi' (by omega) (by omega) h3
    · subst h3; exact h2 hi' hlt
  have ht : ∀ y ∈ xs.take i, ltL y x := by
    intro y hy
    obtain ⟨j, hj, rfl⟩ := List.mem_iff_getElem.1 hy
    rw [List.length_take] at hj
    rw [List.getElem_take]
    exact h1 j (by omega) (by omega)
  have h3 : SortedL (xs.take i ++ xs.drop i) := by rw [List.take_append_drop]; exact h
  unfold SortedL at h3 ⊢
  rw [List.pairwise_append] at h3
  rw [List.append_assoc, List.pairwise_append]
  refine ⟨h3.1, ?_, ?_⟩
  · rw [List.singleton_append, List.pairwise_cons]
    exact ⟨fun y hy => hd y hy, h3.2.1⟩
  · intro y hy z hz
    rw [List.singleton_append] at hz
    rcases List.mem_cons.1 hz with rfl | hz
    · intro hlt
      exact ltL_irrefl _ (ltL_trans hlt (ht y hy))
    · exact h3.2.2 y hy z hz
theorem insert_perm (xs : List Lk) (x : Lk) (i : Nat) : (xs.take i ++ [x] ++ xs.drop i).Perm (xs ++ [x]) := by
  have e : xs ++ [x] = xs.take i ++ (xs.drop i ++ [x]) := by rw [← List.append_assoc, List.take_append_drop]
  rw [e, List.append_assoc]
  exact List.Perm.append_left _ List.perm_append_comm
theorem insert_length (xs : List Lk) (x : Lk) (i : Nat) : (xs.take i ++ [x] ++ xs.drop i).length = xs.length + 1 := by
  rw [(insert_perm xs x i).length_eq, List.length_append]; rfl
theorem cutTo {P : Program} (t e : TypeId) (ht : P.underlying t = some (.slice e)) {z : Option Value} {size bytes : Nat} (hinfo : (P.info? e).map (fun i => (i.zero, i.size, i.bytes)) = some (z, size, bytes)) (A : Option Addr) (n c k : Nat) (hk : k ≤ c) (W : World) :
    (Instr.slice t (.slice A n c) none (some (.int .i64 k)) none).run P W = .ok (.slice A k c) W := by
  obtain ⟨i, hi, _⟩ := Option.map_eq_some_iff.1 hinfo
  cases A <;> simp [Instr.slice, Instr.sliceBounds, Instr.sliceBound, run_underlying ht, sizeOf, typeInfo, hi, asIntOf, go_sem, hk, Addr.add]
theorem cutOff {P : Program} (t e : TypeId) (ht : P.underlying t = some (.slice e)) {z : Option Value} {size bytes : Nat} (hinfo : (P.info? e).map (fun i => (i.zero, i.size, i.bytes)) = some (z, size, bytes)) (A : Option Addr) (n c k : Nat) (hk : k ≤ n) (W : World) :
    (Instr.slice t (.slice A n c) (some (.int .i64 k)) none none).run P W = .ok (.slice (if c = k then A else A.map (·.add (k * size))) (n - k) (c - k)) W := by
  obtain ⟨i, hi, hz⟩ := Option.map_eq_some_iff.1 hinfo
  simp only [Prod.mk.injEq] at hz
  have := cut_from (P := P) t e .i64 ht hi size hz.2.1 A n c (k : Int) (by omega) (by omega) W
  rw [this, Int.toNat_natCast]
/-- the document's Held under way -/
def RH (w : World) (base br : Nat) (most : Int) (L : List (Lk × Int)) (v : Value) (tx : Int) (ov iv : Value) (wr : World) : Prop :=
  ∃ (j : Nat) (out : List Lk), j ≤ L.length ∧ iv = .int .i64 j ∧ Rm wr base br most L v ∧ Lo cellsL 2 23 wr w.heap.size ov out ∧ SortedL out ∧ out.Perm (((L.take j).filter (fun p => decide (p.2 = tx))).map (·.1)) ∧ Below w.heap.size w wr
/-- the place is sought -/
structure RP (w : World) (base br : Nat) (most : Int) (L : List (Lk × Int)) (v ov : Value) (out : List Lk) (x : Lk) (i : Nat) (wr : World) : Prop where
  le : i ≤ out.length
  lt : ∀ j (hj : j < out.length), j < i → ltL out[j] x
  rm : Rm wr base br most L v
  row : Lo cellsL 2 23 wr w.heap.size ov out
  bel : Below w.heap.size w wr
theorem RP.below {w wr w2 : World} {base br : Nat} {most : Int} {L : List (Lk × Int)} {v ov : Value} {out : List Lk} {x : Lk} {i : Nat} (h : RP w base br most L v ov out x i wr) (hb : Below wr.heap.size wr w2) : RP w base br most L v ov out x i w2 :=
  ⟨h.le, h.lt, h.rm.grown (grown_of_below hb none) (by simp) (by simp), h.row.grown (grown_of_below hb none) (by simp), below_then h.bel h.bel.size hb⟩
set_option maxHeartbeats 8000000 in
set_option maxRecDepth 100000 in
theorem RHeld_calls (base br : Nat) (most : Int) (L : List (Lk × Int)) (v : Value) (tx : Int) (w : World) (h : Rm w base br most L v) (hL : L.length ≤ 4096) (hbase : base ≤ w.heap.size) :
    Calls Try.prog 18 #[.pointer (some ⟨br, 0, none⟩), .int .i64 tx] w fun e w' => ∃ v', e = .returned v' ∧ Lo cellsL 2 23 w' w.heap.size v' (heldOf L tx) ∧ Below w.heap.size w w' := by
  obtain ⟨A, c, rfl, hlc, hA⟩ := h.row.slice
  go_enter Try.func18, Try.ntmps18
  go_wp2_with fail
  go_loopw [5, 6] (fun ov iv wr => RH w base br most L (.slice A L.length c) tx ov iv wr) (fun _ iv _ => L.length - (intOf iv).toNat)
  case atStart => exact ⟨0, [], Nat.zero_le _, rfl, h, Lo.nil _ _, List.Pairwise.nil, List.Perm.refl _, Below.refl _ _⟩
  case round =>
    clear h
    obtain ⟨j, out, hj, rfl, h1, hl, hso, hpe, hB⟩ := hrel
    have o2 := h1.c2
    by_cases hjl : j < L.length
    · obtain ⟨g, rfl, hgb⟩ := hA (by omega)
      have htf := take_filter (fun p => decide (p.2 = tx)) hjl
      obtain ⟨y, hy⟩ : ∃ y, y = L[j] := ⟨_, rfl⟩
      rw [← hy] at htf
      have Y : ∀ {W : World}, Rm W base br most L (.slice (some ⟨g, 0, none⟩) L.length c) → W.cell? ⟨g, j * 3, none⟩ = some (.string y.1.1) ∧ W.cell? ⟨g, j * 3 + 1, none⟩ = some (.string y.1.2) ∧ W.cell? ⟨g, j * 3 + 2, none⟩ = some (.int .i64 y.2) := by
        intro W hW
        have a0 := hW.row.cell (fun _ => rfl) rfl j L[j] (List.getElem?_eq_getElem hjl) 0 _ rfl
        have a1 := hW.row.cell (fun _ => rfl) rfl j L[j] (List.getElem?_eq_getElem hjl) 1 _ rfl
        have a2 := hW.row.cell (fun _ => rfl) rfl j L[j] (List.getElem?_eq_getElem hjl) 2 _ rfl
        rw [hy]
        exact ⟨by simpa using a0, by simpa using a1, by simpa using a2⟩
      obtain ⟨y0, y1, y2⟩ := Y h1
      replace hy := Aside0.mk hy
      by_cases he : y.2 = tx
      · have he' : (y.2 != tx) = false := by simpa using he
        rw [if_pos (by simpa using he)] at htf
        replace htf := Aside0.mk htf
        have hol : out.length ≤ 4096 := by
          rw [hpe.length_eq, List.length_map]
          have h1 := List.length_filter_le (fun p : Lk × Int => decide (p.2 = tx)) (L.take j)
          rw [List.length_take] at h1
          omega
        obtain ⟨B, cB, rfl, hlB, hBB⟩ := hl.slice
        have P0 : RP w base br most L (.slice (some ⟨g, 0, none⟩) L.length c) (.slice B out.length cB) out y.1 0 wr := ⟨Nat.zero_le _, fun _ _ h => by omega, h1, hl, hB⟩
        clear he
        go_upto_block 2 with (fail)
        go_cut [7] (fun pv wx => ∃ i, pv = .int .i64 (i : Nat) ∧ RP w base br most L (.slice (some ⟨g, 0, none⟩) L.length c) (.slice B out.length cB) out y.1 i wx ∧ (∀ hi : i < out.length, ¬ ltL out[i] y.1))
        case first =>
          go_wp2_with fail
          go_loopw [7] (fun pv wx => ∃ i : Nat, pv = .int .i64 i ∧ RP w base br most L (.slice (some ⟨g, 0, none⟩) L.length c) (.slice B out.length cB) out y.1 i wx) (fun pv _ => out.length - (intOf pv).toNat)
          case atStart => exact ⟨0, rfl, P0⟩
          case round =>
            clear P0 y0 y1 y2 o2 h1 hl hB
            obtain ⟨i, rfl, P1⟩ := hrel
            obtain ⟨y0, y1, y2⟩ := Y P1.rm
            have o2 := P1.rm.c2
            have hile := P1.le
            by_cases hi : i < out.length
            · obtain ⟨gb, rfl, hgb2⟩ := hBB (by omega)
              obtain ⟨z, hz⟩ : ∃ z, z = out[i] := ⟨_, rfl⟩
              have z0 : wr.cell? ⟨gb, i * 2, none⟩ = some (.string z.1) := by
                have := P1.row.cell (fun _ => rfl) rfl i out[i] (List.getElem?_eq_getElem hi) 0 _ rfl
                rw [hz]; simpa using this
              have z1 : wr.cell? ⟨gb, i * 2 + 1, none⟩ = some (.string z.2) := by
                have := P1.row.cell (fun _ => rfl) rfl i out[i] (List.getElem?_eq_getElem hi) 1 _ rfl
                rw [hz]; simpa using this
              replace hz := Aside0.mk hz
              have LC := fun W => Less_calls z y.1 W
              have PD := P1.below (w2 := wr.drew) ⟨rfl, rfl, rfl, Nat.le_refl _, fun _ _ => rfl⟩
              cases hlt : ltB z y.1 with
              | true =>
                rw [hlt] at LC
                go_wp2_with fail
                go_region_held3 (fun W => W.cell? ⟨br, 2, none⟩ = some (.slice (some ⟨g, 0, none⟩) L.length c) ∧ W.cell? ⟨gb, i * 2, none⟩ = some (.string z.1) ∧ W.cell? ⟨gb, i * 2 + 1, none⟩ = some (.string z.2) ∧ W.cell? ⟨g, j * 3, none⟩ = some (.string y.1.1) ∧ W.cell? ⟨g, j * 3 + 1, none⟩ = some (.string y.1.2))
                  (first | exact ⟨o2, z0, z1, y0, y1⟩ | exact ⟨k0, k1, k2, k3, k4⟩)
                  ((go_at_call 31; refine (LC _).mono ?_; rintro e w3 ⟨rfl, B3⟩; have k0 := pw_cell_below B3 o2; have k1 := pw_cell_below B3 z0; have k2 := pw_cell_below B3 z1; have k3 := pw_cell_below B3 y0; have k4 := pw_cell_below B3 y1))
                go_wp2
                go_roundw
                case rel => exact ⟨i + 1, by go_num, ⟨by omega, fun j' hj' hlt' => by
                  rcases Nat.lt_or_ge j' i with h5 | h5
                  · exact P1.lt j' hj' h5
                  · have e5 : j' = i := by omega
                    subst e5
                    rw [← hz.out]
                    exact (ltB_iff _ _).1 hlt, (PD.below B3).rm, (PD.below B3).row, (PD.below B3).bel⟩⟩
                case measure => simp [intOf]; omega
              | false =>
                rw [hlt] at LC
                go_wp2_with fail
                go_region_held3 (fun W => W.cell? ⟨br, 2, none⟩ = some (.slice (some ⟨g, 0, none⟩) L.length c) ∧ W.cell? ⟨gb, i * 2, none⟩ = some (.string z.1) ∧ W.cell? ⟨gb, i * 2 + 1, none⟩ = some (.string z.2) ∧ W.cell? ⟨g, j * 3, none⟩ = some (.string y.1.1) ∧ W.cell? ⟨g, j * 3 + 1, none⟩ = some (.string y.1.2))
                  (first | exact ⟨o2, z0, z1, y0, y1⟩ | exact ⟨k0, k1, k2, k3, k4⟩)
                  ((go_at_call 31; refine (LC _).mono ?_; rintro e w3 ⟨rfl, B3⟩; have k0 := pw_cell_below B3 o2; have k1 := pw_cell_below B3 z0; have k2 := pw_cell_below B3 z1; have k3 := pw_cell_below B3 y0; have k4 := pw_cell_below B3 y1))
                go_wp2
                go_meet
                exact ⟨i, rfl, PD.below B3, fun hi' h5 => by rw [← hz.out] at h5; rw [(ltB_iff _ _).2 h5] at hlt; cases hlt⟩
            · have PD := fun n => P1.below (w2 := wr.drewN n) (pw_below_drewN (Below.refl _ _) n)
              have hie : ¬ ((i : Int) < (out.length : Int)) := by omega
              go_wp2_with fail
              go_quiet (fail)
              go_wp2
              go_meet
              exact ⟨i, rfl, PD _, fun hi' => absurd hi' hi⟩
        case rest =>
          clear P0 y0 y1 y2 o2 h1 hl hB
          obtain ⟨i, rfl, P1, hno⟩ := hcut
          have hile := P1.le
          have hit : (out.take i).length = i := by rw [List.length_take]; omega
          have hid : (out.drop i).length = out.length - i := List.length_drop
          have oneL : ∀ x : Lk, ∀ u ∈ cellsL x, u.oneCell' = true := fun x u hu => by simp [cellsL] at hu; rcases hu with rfl | rfl <;> rfl
          obtain ⟨v7, w7, hr7, L7, g7⟩ := Lo.appS (P := Try.prog) (Lo.nil (enc := cellsL) (k := 2) (e := 23) wc wc.heap.size) (fun _ => rfl) oneL 35 35 _ 32 Try.underlying35 info23 rfl (by omega) (by omega) B cB (P1.row.srcTake rfl hile) (by simp only [List.length_nil, hit]; omega) (Nat.le_refl _)
          rw [List.nil_append] at L7
          rw [hit] at hr7
          have q7 : wc.grownBy w7 none := ⟨g7.os, g7.tape, g7.output, g7.size, fun i hi _ => g7.block i hi (by simp [Value.ownBlock])⟩
          obtain ⟨v8, w8, hr8, L8, g8⟩ := Lo.append (P := Try.prog) L7 (fun _ => rfl) oneL 35 35 _ 32 Try.underlying35 info23 rfl (by omega) (by omega) y.1 (by rw [hit]; omega) q7.size
          have q8 : wc.grownBy w8 none := ⟨g8.os.trans q7.os, g8.tape.trans q7.tape, g8.output.trans q7.output, Nat.le_trans q7.size g8.size, fun k hk hne => (g8.block k (Nat.lt_of_lt_of_le hk q7.size) (fun e => by have := (L7.typed k e.symm).1; omega)).trans (q7.block k hk hne)⟩
          have hl8 : (out.take i ++ [y.1]).length = i + 1 := by rw [List.length_append, hit]; rfl
          obtain ⟨v9, w9, hr9, L9, g9⟩ := Lo.appS (P := Try.prog) L8 (fun _ => rfl) oneL 35 35 _ 32 Try.underlying35 info23 rfl (by omega) (by omega) _ (cB - i) ((P1.row.grown q8 (by simp)).srcDrop rfl hile) (by rw [hl8, hid]; omega) q8.size
          rw [hid] at hr9
          have q9 : wc.grownBy w9 none := ⟨g9.os.trans q8.os, g9.tape.trans q8.tape, g9.output.trans q8.output, Nat.le_trans q8.size g9.size, fun k hk hne => (g9.block k (Nat.lt_of_lt_of_le hk q8.size) (fun e => by have := (L8.typed k e.symm).1; omega)).trans (q8.block k hk hne)⟩
          have R7 := P1.rm.grown q7 (by simp) (by simp)
          obtain ⟨y0, y1, _⟩ := Y R7
          have o7 := R7.c2
          have o0 := P1.rm.c2
          have R9 := P1.rm.grown q9 (by simp) (by simp)
          have B9 : Below w.heap.size w w9 := P1.bel.grown q9 P1.bel.size (by simp)
          have cut1 := cutTo (P := Try.prog) 35 23 Try.underlying35 info23 B out.length cB i (by omega)
          have cut2 := cutOff (P := Try.prog) 35 23 Try.underlying35 info23 B out.length cB i hile
          generalize (if cB = i then B else B.map (·.add (i * 2))) = A2 at hr9 cut2
          have hLow := L9.lower (show w.heap.size ≤ wc.heap.size from P1.bel.size)
          have hS := insert_sorted hso y.1 i hile P1.lt hno
          have hPm : (out.take i ++ [y.1] ++ out.drop i).Perm (((L.take (j + 1)).filter (fun p => decide (p.2 = tx))).map (·.1)) := by
            rw [htf.out, List.map_append]
            exact (insert_perm out y.1 i).trans (hpe.append_right _)
          clear hit hid hl8 P1 hno L7 L8 g7 g8 g9 q7 q8 q9 R7
          go_wp2_with (first | (at_builtin; refine app_list rfl rfl rfl rfl hr7 ?_) | (at_builtin; refine app_list rfl rfl rfl rfl hr8 ?_) | (at_builtin; refine app_list rfl rfl rfl rfl hr9 ?_))
          go_roundw
          case rel => exact ⟨j + 1, _, by omega, by go_num, R9, hLow, hS, hPm, B9⟩
          case measure => simp [intOf]; omega
      · have he' : (y.2 != tx) = true := by simpa using he
        rw [if_neg (by simpa using he), List.append_nil] at htf
        replace htf := Aside0.mk htf
        clear he
        go_wp2
        go_roundw
        case rel => exact ⟨j + 1, out, by omega, by go_num, h1, hl, hso, by rw [htf.out]; exact hpe, hB⟩
        case measure => simp [intOf]; omega
    · obtain rfl : j = L.length := by omega
      rw [List.take_length] at hpe
      go_wp2
      go_ret
      exact ⟨_, rfl, by unfold heldOf; rw [← srt_eq hso hpe]; exact hl, hB⟩
end Go.Proofs.Ytbellkkheppofaa
