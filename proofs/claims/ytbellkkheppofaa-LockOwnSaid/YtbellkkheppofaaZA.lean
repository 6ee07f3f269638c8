import Derived.Test.YtbellkkheppofaaZ
namespace Go.Proofs.Ytbellkkheppofaa
open Go.RowKit Go.Maps Go.Sort Go.Lib Go.Proofs.YtbellkkheppofaaW.PrintWords Go.Proofs.YtbellkkheppofaaW.PrintLast Go.Proofs.YtbellkkheppofaaW.PrintMore
set_option linter.unusedVariables false
set_option linter.unusedSimpArgs false
set_option linter.unusedSectionVars false
/-! ### lists compared, that are the same -/
theorem drewG (w : World) : w.grownBy w.drew none := ⟨rfl, rfl, rfl, Nat.le_refl _, fun _ _ _ => rfl⟩
set_option maxHeartbeats 4000000 in
set_option maxRecDepth 100000 in
theorem sameLocks_calls (b1 b2 : Nat) (v1 v2 : Value) (xs : List Lk) (w : World) (h1 : Lo cellsL 2 23 w b1 v1 xs) (h2 : Lo cellsL 2 23 w b2 v2 xs) (hl : xs.length ≤ 9223372036854775806) :
    Calls Try.prog 17 #[v1, v2] w fun e w' => e = .returned (.bool true) ∧ Below w.heap.size w w' := by
  obtain ⟨A, c, rfl, hc, hA⟩ := h1.slice
  obtain ⟨B, d, rfl, hd, hB⟩ := h2.slice
  go_enter Try.func17, Try.ntmps17
  go_wp2_with fail
  go_loopw [13] (fun iv wr => ∃ j : Nat, j ≤ xs.length ∧ iv = .int .i64 j ∧ Lo cellsL 2 23 wr b1 (.slice A xs.length c) xs ∧ Lo cellsL 2 23 wr b2 (.slice B xs.length d) xs ∧ Below w.heap.size w wr) (fun iv _ => xs.length - (intOf iv).toNat)
  case atStart => exact ⟨0, Nat.zero_le _, rfl, h1, h2, Below.refl _ _⟩
  case round =>
    clear h1 h2
    obtain ⟨j, hj, rfl, h1, h2, hb⟩ := hrel
    by_cases hjl : j < xs.length
    · obtain ⟨g, rfl, _⟩ := hA (by omega)
      obtain ⟨k, rfl, _⟩ := hB (by omega)
      have y0 : wr.cell? ⟨g, j * 2, none⟩ = some (.string xs[j].1) := by simpa using h1.cell (fun _ => rfl) rfl j xs[j] (List.getElem?_eq_getElem hjl) 0 _ rfl
      have y1 : wr.cell? ⟨g, j * 2 + 1, none⟩ = some (.string xs[j].2) := by simpa using h1.cell (fun _ => rfl) rfl j xs[j] (List.getElem?_eq_getElem hjl) 1 _ rfl
      have z0 : wr.cell? ⟨k, j * 2, none⟩ = some (.string xs[j].1) := by simpa using h2.cell (fun _ => rfl) rfl j xs[j] (List.getElem?_eq_getElem hjl) 0 _ rfl
      have z1 : wr.cell? ⟨k, j * 2 + 1, none⟩ = some (.string xs[j].2) := by simpa using h2.cell (fun _ => rfl) rfl j xs[j] (List.getElem?_eq_getElem hjl) 1 _ rfl
      generalize xs[j] = x at y0 y1 z0 z1
      have heq : ∀ W, _ := fun W => neLk x x W
      rw [show (!decide (x = x)) = false by simp] at heq
      have D1 := h1.grown (drewG wr) (by simp)
      have D2 := h2.grown (drewG wr) (by simp)
      have DB := hb.grown (drewG wr) hb.size (by simp)
      go_wp2_with fail
      go_region_held3 (fun W => W.cell? ⟨g, j * 2, none⟩ = some (.string x.1) ∧ W.cell? ⟨g, j * 2 + 1, none⟩ = some (.string x.2) ∧ W.cell? ⟨k, j * 2, none⟩ = some (.string x.1) ∧ W.cell? ⟨k, j * 2 + 1, none⟩ = some (.string x.2)) (exact ⟨y0, y1, z0, z1⟩) (fail)
      go_wp2
      go_roundw
      case rel => exact ⟨j + 1, by omega, by go_num, D1, D2, DB⟩
      case measure => simp [intOf]; omega
    · obtain rfl : j = xs.length := by omega
      go_wp2
      go_ret
      exact ⟨rfl, hb⟩
set_option maxHeartbeats 4000000 in
set_option maxRecDepth 100000 in
theorem sameNumbers_calls (b1 b2 : Nat) (v1 v2 : Value) (xs : List Int) (w : World) (h1 : Lo encI 1 2 w b1 v1 xs) (h2 : Lo encI 1 2 w b2 v2 xs) (hl : xs.length ≤ 9223372036854775806) :
    Calls Try.prog 20 #[v1, v2] w fun e w' => e = .returned (.bool true) ∧ Below w.heap.size w w' := by
  obtain ⟨A, c, rfl, hc, hA⟩ := h1.slice
  obtain ⟨B, d, rfl, hd, hB⟩ := h2.slice
  go_enter Try.func20, Try.ntmps20
  go_wp2_with fail
  go_loopw [13] (fun iv wr => ∃ j : Nat, j ≤ xs.length ∧ iv = .int .i64 j ∧ Lo encI 1 2 wr b1 (.slice A xs.length c) xs ∧ Lo encI 1 2 wr b2 (.slice B xs.length d) xs ∧ Below w.heap.size w wr) (fun iv _ => xs.length - (intOf iv).toNat)
  case atStart => exact ⟨0, Nat.zero_le _, rfl, h1, h2, Below.refl _ _⟩
  case round =>
    clear h1 h2
    obtain ⟨j, hj, rfl, h1, h2, hb⟩ := hrel
    by_cases hjl : j < xs.length
    · obtain ⟨g, rfl, _⟩ := hA (by omega)
      obtain ⟨k, rfl, _⟩ := hB (by omega)
      have y0 : wr.cell? ⟨g, j, none⟩ = some (.int .i64 xs[j]) := by simpa using h1.cell (fun _ => rfl) rfl j xs[j] (List.getElem?_eq_getElem hjl) 0 _ rfl
      have z0 : wr.cell? ⟨k, j, none⟩ = some (.int .i64 xs[j]) := by simpa using h2.cell (fun _ => rfl) rfl j xs[j] (List.getElem?_eq_getElem hjl) 0 _ rfl
      generalize xs[j] = x at y0 z0
      have D1 := h1.grown (drewG wr) (by simp)
      have D2 := h2.grown (drewG wr) (by simp)
      have DB := hb.grown (drewG wr) hb.size (by simp)
      go_wp2_with fail
      go_region_held3 (fun W => W.cell? ⟨g, j, none⟩ = some (.int .i64 x) ∧ W.cell? ⟨k, j, none⟩ = some (.int .i64 x)) (exact ⟨y0, z0⟩) (fail)
      go_wp2
      go_roundw
      case rel => exact ⟨j + 1, by omega, by go_num, D1, D2, DB⟩
      case measure => simp [intOf]; omega
    · obtain rfl : j = xs.length := by omega
      go_wp2
      go_ret
      exact ⟨rfl, hb⟩
set_option maxRecDepth 100000 in
theorem Within_calls (k f u : ByteArray) (w : World) : Calls Try.prog 35 #[.string k, .string f, .string u] w fun e w' => e = .returned (.bool (!Op.bytesLess k.toList f.toList && (u.toList.isEmpty || Op.bytesLess k.toList u.toList))) ∧ w = w' := by
  go_enter Try.func35, Try.ntmps35
  go_wp2
  all_goals
    go_ret
    exact ⟨by simp_all, rfl⟩
/-! ### a number more in a list that rises, each once -/
theorem insert_rises {xs : List Int} (h : xs.Pairwise (· < ·)) (x : Int) (i : Nat) (hi : i ≤ xs.length) (h1 : ∀ j (hj : j < xs.length), j < i → xs[j] < x) (h2 : ∀ hj : i < xs.length, x < xs[i]) : (xs.take i ++ [x] ++ xs.drop i).Pairwise (· < ·) := by
  have hd : ∀ y ∈ xs.drop i, x < y := by
    intro y hy
    obtain ⟨j, hj, rfl⟩ := List.mem_iff_getElem.1 hy
    rw [List.length_drop] at hj
    rw [List.getElem_drop]
    have h3 := h2 (by omega)
    rcases Nat.eq_zero_or_pos j with h0 | h0
    · subst h0; exact h3
    · have := List.pairwise_iff_getElem.1 h i (i + j) (by omega) (by omega) (by omega)
      omega
  have ht : ∀ y ∈ xs.take i, y < x := by
    intro y hy
    obtain ⟨j, hj, rfl⟩ := List.mem_iff_getElem.1 hy
    rw [List.length_take] at hj
    rw [List.getElem_take]
    exact h1 j (by omega) (by omega)
  have h3 : (xs.take i ++ xs.drop i).Pairwise (· < ·) := by rw [List.take_append_drop]; exact h
  rw [List.pairwise_append] at h3
  rw [List.append_assoc, List.pairwise_append]
  refine ⟨h3.1, ?_, ?_⟩
  · rw [List.singleton_append, List.pairwise_cons]
    exact ⟨hd, h3.2.1⟩
  · intro y hy z hz
    rw [List.singleton_append] at hz
    rcases List.mem_cons.1 hz with rfl | hz
    · exact ht y hy
    · exact h3.2.2 y hy z hz
theorem insert_mem (xs : List Int) (x : Int) (i : Nat) : ∀ z, z ∈ xs.take i ++ [x] ++ xs.drop i ↔ z ∈ xs ∨ z = x := by
  intro z
  have e : z ∈ xs ↔ z ∈ xs.take i ∨ z ∈ xs.drop i := by
    rw [← List.mem_append, List.take_append_drop]
  rw [e]
  simp only [List.mem_append, List.mem_singleton]
  constructor
  · rintro ((h | h) | h)
    · exact .inl (.inl h)
    · exact .inr h
    · exact .inl (.inr h)
  · rintro ((h | h) | h)
    · exact .inl (.inl h)
    · exact .inr h
    · exact .inl (.inr h)
theorem ins_int (W : World) (b : Nat) (B : Option Addr) (cB : Nat) (out : List Int) (h : Lo encI 1 2 W b (.slice B out.length cB) out) (x : Int) (i : Nat) (hile : i ≤ out.length) (hl : out.length ≤ 8192) (A2 : Option Addr) (hA2 : A2 = if cB = i then B else B.map (·.add (i * 1))) :
    ∃ v7 w7 v8 w8 v9 w9, (Builtin.append_ #[36, 36] 36 #[.slice none 0 0, .slice B i cB]).run Try.prog W = .ok v7 w7 ∧ (Builtin.append_ #[36, 36] 36 #[v7, .slice (some ⟨w7.heap.size, 0, none⟩) 1 1]).run Try.prog (w7.alloc (.cells #[.int .i64 x] 2)) = .ok v8 w8 ∧
      (Builtin.append_ #[36, 36] 36 #[v8, .slice A2 (out.length - i) (cB - i)]).run Try.prog w8 = .ok v9 w9 ∧ W.grownBy w7 none ∧ Lo encI 1 2 w9 W.heap.size v9 (out.take i ++ [x] ++ out.drop i) ∧ W.grownBy w9 none := by
  subst hA2
  have hit : (out.take i).length = i := by rw [List.length_take]; omega
  have hid : (out.drop i).length = out.length - i := List.length_drop
  obtain ⟨v7, w7, hr7, L7, g7⟩ := Lo.appS (P := Try.prog) (Lo.nil (enc := encI) (k := 1) (e := 2) W W.heap.size) (fun _ => rfl) encI_one 36 36 _ 8 Try.underlying36 info2 rfl (by omega) (by omega) B cB (h.srcTake rfl hile) (by simp only [List.length_nil, hit]; omega) (Nat.le_refl _)
  rw [List.nil_append] at L7
  rw [hit] at hr7
  have q7 : W.grownBy w7 none := ⟨g7.os, g7.tape, g7.output, g7.size, fun i hi _ => g7.block i hi (by simp [Value.ownBlock])⟩
  obtain ⟨v8, w8, hr8, L8, g8⟩ := Lo.append (P := Try.prog) L7 (fun _ => rfl) encI_one 36 36 _ 8 Try.underlying36 info2 rfl (by omega) (by omega) x (by rw [hit]; omega) q7.size
  have q8 : W.grownBy w8 none := ⟨g8.os.trans q7.os, g8.tape.trans q7.tape, g8.output.trans q7.output, Nat.le_trans q7.size g8.size, fun k hk hne => (g8.block k (Nat.lt_of_lt_of_le hk q7.size) (fun e => by have := (L7.typed k e.symm).1; omega)).trans (q7.block k hk hne)⟩
  have hl8 : (out.take i ++ [x]).length = i + 1 := by rw [List.length_append, hit]; rfl
  obtain ⟨v9, w9, hr9, L9, g9⟩ := Lo.appS (P := Try.prog) L8 (fun _ => rfl) encI_one 36 36 _ 8 Try.underlying36 info2 rfl (by omega) (by omega) _ (cB - i) ((h.grown q8 (by simp)).srcDrop rfl hile) (by rw [hl8, hid]; omega) q8.size
  rw [hid] at hr9
  have q9 : W.grownBy w9 none := ⟨g9.os.trans q8.os, g9.tape.trans q8.tape, g9.output.trans q8.output, Nat.le_trans q8.size g9.size, fun k hk hne => (g9.block k (Nat.lt_of_lt_of_le hk q8.size) (fun e => by have := (L8.typed k e.symm).1; omega)).trans (q8.block k hk hne)⟩
  exact ⟨v7, w7, v8, w8, v9, w9, hr7, hr8, hr9, q7, L9, q9⟩
structure RI2 (w : World) (b : Nat) (xs out : List Int) (v ov : Value) (wr : World) : Prop where
  src : Lo encI 1 2 wr b v xs
  row : Lo encI 1 2 wr w.heap.size ov out
  bel : Below w.heap.size w wr
theorem RI2.grown {w wr w2 : World} {b : Nat} {xs out : List Int} {v ov : Value} (h : RI2 w b xs out v ov wr) (hg : wr.grownBy w2 none) : RI2 w b xs out v ov w2 :=
  ⟨h.src.grown hg (by simp), h.row.grown hg (by simp), h.bel.grown hg h.bel.size (by simp)⟩
theorem take_mem {xs : List Int} {j : Nat} (hj : j < xs.length) : ∀ z, z ∈ xs.take (j + 1) ↔ z ∈ xs.take j ∨ z = xs[j] := by
  intro z
  rw [List.take_succ_eq_append_getElem hj, List.mem_append, List.mem_singleton]
theorem drewNG (w : World) (n : Nat) : w.grownBy (w.drewN n) none := ⟨rfl, rfl, rfl, Nat.le_refl _, fun _ _ _ => rfl⟩
set_option maxHeartbeats 8000000 in
set_option maxRecDepth 100000 in
theorem Rise_calls (b : Nat) (v : Value) (xs : List Int) (w : World) (h : Lo encI 1 2 w b v xs) (hl : xs.length ≤ 4096) :
    Calls Try.prog 36 #[v] w fun e w' => ∃ v', e = .returned v' ∧ Lo encI 1 2 w' w.heap.size v' (rise xs) ∧ Below w.heap.size w w' := by
  obtain ⟨A, c, rfl, hlc, hA⟩ := h.slice
  go_enter Try.func36, Try.ntmps36
  go_wp2_with fail
  go_loopw [3, 4] (fun ov iv wr => ∃ (j : Nat) (out : List Int), j ≤ xs.length ∧ out.length ≤ j ∧ iv = .int .i64 j ∧ RI2 w b xs out (.slice A xs.length c) ov wr ∧ out.Pairwise (· < ·) ∧ (∀ z, z ∈ out ↔ z ∈ xs.take j)) (fun _ iv _ => xs.length - (intOf iv).toNat)
  case atStart => exact ⟨0, [], Nat.zero_le _, Nat.le_refl _, rfl, ⟨h, Lo.nil _ _, Below.refl _ _⟩, List.Pairwise.nil, by simp⟩
  case round =>
    clear h
    obtain ⟨j, out, hj, hoj, rfl, R, hpw, hmem⟩ := hrel
    by_cases hjl : j < xs.length
    · obtain ⟨g, rfl, hgb⟩ := hA (by omega)
      have htm := take_mem hjl
      obtain ⟨x, hx⟩ : ∃ x, x = xs[j] := ⟨_, rfl⟩
      rw [← hx] at htm
      have Y : ∀ {W : World}, Lo encI 1 2 W b (.slice (some ⟨g, 0, none⟩) xs.length c) xs → W.cell? ⟨g, j, none⟩ = some (.int .i64 x) := by
        intro W hW
        rw [hx]
        simpa using hW.cell (fun _ => rfl) rfl j xs[j] (List.getElem?_eq_getElem hjl) 0 _ rfl
      obtain ⟨B, cB, rfl, hlB, hBB⟩ := R.row.slice
      have C : ∀ {W : World} {gb : Nat} {i : Nat} (hi : i < out.length), Lo encI 1 2 W w.heap.size (.slice (some ⟨gb, 0, none⟩) out.length cB) out → W.cell? ⟨gb, i, none⟩ = some (.int .i64 out[i]) := by
        intro W gb i hi hW
        simpa using hW.cell (fun _ => rfl) rfl i out[i] (List.getElem?_eq_getElem hi) 0 _ rfl
      replace hx := Aside0.mk hx
      replace htm := Aside0.mk htm
      replace hmem := Aside0.mk hmem
      go_upto_block 2 with (fail)
      go_cut [5] (fun pv wx => ∃ i, pv = .int .i64 (i : Nat) ∧ i ≤ out.length ∧ RI2 w b xs out (.slice (some ⟨g, 0, none⟩) xs.length c) (.slice B out.length cB) wx ∧ (∀ k (hk : k < out.length), k < i → out[k] < x) ∧ (∀ hi : i < out.length, x ≤ out[i]))
      case first =>
        go_wp2_with fail
        go_loopw [5] (fun pv wx => ∃ i : Nat, pv = .int .i64 i ∧ i ≤ out.length ∧ RI2 w b xs out (.slice (some ⟨g, 0, none⟩) xs.length c) (.slice B out.length cB) wx ∧ (∀ k (hk : k < out.length), k < i → out[k] < x)) (fun pv _ => out.length - (intOf pv).toNat)
        case atStart => exact ⟨0, rfl, Nat.zero_le _, R, fun _ _ h => by omega⟩
        case round =>
          clear R
          obtain ⟨i, rfl, hile, R, hlt⟩ := hrel
          replace hlt := Aside0.mk hlt
          have y0 := Y R.src
          have RD := R.grown (drewG wr)
          have RN := fun n => R.grown (drewNG wr n)
          by_cases hi : i < out.length
          · obtain ⟨gb, rfl, hgb2⟩ := hBB (by omega)
            have z0 := C hi R.row
            obtain ⟨z, hz⟩ : ∃ z, z = out[i] := ⟨_, rfl⟩
            rw [← hz] at z0
            replace hz := Aside0.mk hz
            by_cases hzx : z < x
            · go_wp2_with fail
              go_region_held3 (fun W => W.cell? ⟨gb, i, none⟩ = some (.int .i64 z) ∧ W.cell? ⟨g, j, none⟩ = some (.int .i64 x)) (exact ⟨z0, y0⟩) (fail)
              go_wp2
              go_roundw
              case rel => exact ⟨i + 1, by go_num, by omega, RD, fun k hk hk' => by
                rcases Nat.lt_or_ge k i with h5 | h5
                · exact hlt.out k hk h5
                · have e5 : k = i := by omega
                  subst e5
                  rw [← hz.out]; exact hzx⟩
              case measure => simp [intOf]; omega
            · have hzx' : x ≤ z := by omega
              go_wp2_with fail
              go_region_held3 (fun W => W.cell? ⟨gb, i, none⟩ = some (.int .i64 z) ∧ W.cell? ⟨g, j, none⟩ = some (.int .i64 x)) (exact ⟨z0, y0⟩) (fail)
              go_wp2
              go_meet
              exact ⟨i, rfl, hile, RD, hlt.out, fun _ => by rw [← hz.out]; exact hzx'⟩
          · have hie : ¬ ((i : Int) < (out.length : Int)) := by omega
            go_wp2_with fail
            go_quiet (fail)
            go_wp2
            go_meet
            exact ⟨i, rfl, hile, RN _, hlt.out, fun h => absurd h hi⟩
      case rest =>
        clear R
        obtain ⟨i, rfl, hile, R, hlt, hge⟩ := hcut
        replace hlt := Aside0.mk hlt
        replace hge := Aside0.mk hge
        have y0 := Y R.src
        have cut1 := cutTo (P := Try.prog) 36 2 Try.underlying36 info2 B out.length cB i (by omega)
        have cut2 := cutOff (P := Try.prog) 36 2 Try.underlying36 info2 B out.length cB i hile
        obtain ⟨A2, hA2⟩ : ∃ A2, A2 = (if cB = i then B else B.map (·.add (i * 1))) := ⟨_, rfl⟩
        rw [← hA2] at cut2
        have INS := fun W (hW : Lo encI 1 2 W w.heap.size (.slice B out.length cB) out) => ins_int W w.heap.size B cB out hW x i hile (by omega) A2 hA2
        clear hA2
        replace INS := Aside0.mk INS
        have fin : ∀ v9 w9, Lo encI 1 2 w9 w.heap.size v9 (out.take i ++ [x] ++ out.drop i) → (∀ hi : i < out.length, out[i] ≠ x) → RI2 w b xs out (.slice (some ⟨g, 0, none⟩) xs.length c) (.slice B out.length cB) w9 →
            ∃ (j' : Nat) (out' : List Int), j' ≤ xs.length ∧ out'.length ≤ j' ∧ Value.int .i64 ((j : Int) + 1) = .int .i64 j' ∧ RI2 w b xs out' (.slice (some ⟨g, 0, none⟩) xs.length c) v9 w9 ∧ out'.Pairwise (· < ·) ∧ (∀ z, z ∈ out' ↔ z ∈ xs.take j') := by
          intro v9 w9 hL hne hR
          refine ⟨j + 1, _, by omega, ?_, by go_num, ⟨hR.src, hL, hR.bel⟩, insert_rises hpw x i hile hlt.out (fun hi => by have := hge.out hi; have := hne hi; omega), fun z => ?_⟩
          · simp only [List.length_append, List.length_take, List.length_drop, List.length_singleton]; omega
          · rw [insert_mem, htm.out, hmem.out]
        by_cases hi : i < out.length
        · obtain ⟨gb, rfl, hgb2⟩ := hBB (by omega)
          have z0 := C hi R.row
          obtain ⟨z, hz⟩ : ∃ z, z = out[i] := ⟨_, rfl⟩
          rw [← hz] at z0
          replace hz := Aside0.mk hz
          by_cases hzx : z = x
          · have RD := R.grown (drewG wc)
            subst hzx
            clear fin cut1 cut2 INS
            go_wp2_with fail
            go_region_held3 (fun W => W.cell? ⟨gb, i, none⟩ = some (.int .i64 z) ∧ W.cell? ⟨g, j, none⟩ = some (.int .i64 z)) (exact ⟨z0, y0⟩) (fail)
            go_wp2
            go_roundw
            case rel => exact ⟨j + 1, out, by omega, by omega, by go_num, RD, hpw, fun t => by
              rw [htm.out, hmem.out]
              constructor
              · exact .inl
              · rintro (h | rfl)
                · exact h
                · rw [← hmem.out, hz.out]; exact List.getElem_mem hi⟩
            case measure => simp [intOf]; omega
          · have hzx' : (z == x) = false := by simpa using hzx
            have RD := R.grown (drewG wc)
            obtain ⟨v7, w7, v8, w8, v9, w9, hr7, hr8, hr9, q7, L9, q9⟩ := INS.out wc.drew RD.row
            have y7 := Y (RD.grown q7).src
            have F := fin v9 w9 (L9.lower RD.bel.size) (fun hi' => by rw [← hz.out]; exact hzx) (RD.grown q9)
            clear fin L9 q9 q7 INS
            replace F := Aside0.mk F
            go_wp2_with fail
            go_region_held3 (fun W => W.cell? ⟨gb, i, none⟩ = some (.int .i64 z) ∧ W.cell? ⟨g, j, none⟩ = some (.int .i64 x)) (exact ⟨z0, y0⟩) (fail)
            go_wp2_with (first | (at_builtin; refine app_list rfl rfl rfl rfl hr7 ?_) | (at_builtin; refine app_list rfl rfl rfl rfl hr8 ?_) | (at_builtin; refine app_list rfl rfl rfl rfl hr9 ?_))
            go_roundw
            case rel => exact F.out
            case measure => simp [intOf]; omega
        · have hie : ¬ ((i : Int) < (out.length : Int)) := by omega
          have RN := fun n => R.grown (drewNG wc n)
          go_wp2_with fail
          go_quiet (fail)
          rename_i nq
          obtain ⟨v7, w7, v8, w8, v9, w9, hr7, hr8, hr9, q7, L9, q9⟩ := INS.out (wc.drewN nq) (RN nq).row
          have y7 := Y ((RN nq).grown q7).src
          have F := fin v9 w9 (L9.lower (RN nq).bel.size) (fun hi' => absurd hi' hi) ((RN nq).grown q9)
          clear fin L9 q9 q7 INS
          replace F := Aside0.mk F
          go_wp2_with (first | (at_builtin; refine app_list rfl rfl rfl rfl hr7 ?_) | (at_builtin; refine app_list rfl rfl rfl rfl hr8 ?_) | (at_builtin; refine app_list rfl rfl rfl rfl hr9 ?_))
          go_roundw
          case rel => exact F.out
          case measure => simp [intOf]; omega
    · obtain rfl : j = xs.length := by omega
      rw [List.take_length] at hmem
      have e := rise_eq hpw hmem
      go_wp2
      go_ret
      exact ⟨_, rfl, by rw [← e]; exact R.row, R.bel⟩
end Go.Proofs.Ytbellkkheppofaa
