/- Cut by a program out of the seat's texts (VF): what the theorem needs, one behind the other. -/
import Derived.Test.YthaoedfalkebbaaGreatPCM
import Derived.Test.YthaoedfalkebbaaGreatPCS
namespace Go.Proofs.YthaoedfalkebbaaGreat
open Go.RowKit Go.Maps Go.Sort Go.Lib Go.Shelf Go.Proofs.YthaoedfalkebbaaGreatW.PrintWords Go.Proofs.YthaoedfalkebbaaGreatW.PrintLast Go.Proofs.YthaoedfalkebbaaGreatW.PrintMore
set_option linter.unusedVariables false
set_option linter.unusedSimpArgs false
set_option linter.unusedSectionVars false
structure Wq (w : World) (base q p : Nat) (U : Nat → Prop) (W : Wld St) (rv vv lv : Value) (xs : List Rx) : Prop where
  cells : w.heap[q]? = some (wCells p rv vv lv W.bad)
  size : base ≤ w.heap.size
  vers : RowV w base vv W.vers
  list : RowX w base lv xs
  fst : xs.map (·.1) = W.list
  rd : ∀ x ∈ xs, RowS w base x.2.1 x.1.reads
  wr : ∀ x ∈ xs, RowL w base x.2.2 x.1.writes
  qU : U q
  vU : ∀ b, vv.ownBlock = some b → U b
  lU : ∀ b, lv.ownBlock = some b → U b
  rdU : ∀ x ∈ xs, ∀ b, x.2.1.ownBlock = some b → U b
  wrU : ∀ x ∈ xs, ∀ b, x.2.2.ownBlock = some b → U b
section
variable {w w' : World} {base q p : Nat} {F U : Nat → Prop} {W : Wld St} {rv vv lv : Value} {xs : List Rx}
theorem Wm.toQ (h : Wm w base q p F U W rv vv lv xs) : Wq w base q p U W rv vv lv xs := ⟨h.cells, h.m.size, h.vers, h.list, h.fst, h.rd, h.wr, h.qU, h.vU, h.lU, h.rdU, h.wrU⟩
theorem Wq.cell (h : Wq w base q p U W rv vv lv xs) : w.cell? ⟨q, 0, none⟩ = some (ptr p) ∧ w.cell? ⟨q, 1, none⟩ = some rv ∧ w.cell? ⟨q, 2, none⟩ = some vv ∧ w.cell? ⟨q, 3, none⟩ = some lv ∧ w.cell? ⟨q, 4, none⟩ = some (.bool W.bad) :=
  ⟨cell_of_row w q 0 _ 50 (0, 0) h.cells, cell_of_row w q 1 _ 50 (0, 0) h.cells, cell_of_row w q 2 _ 50 (0, 0) h.cells, cell_of_row w q 3 _ 50 (0, 0) h.cells, cell_of_row w q 4 _ 50 (0, 0) h.cells⟩
/-- others' blocks change -/
theorem Wq.frame (h : Wq w base q p U W rv vv lv xs) {O : Nat → Prop} (f : Fr O w w') (hO : ∀ k, O k → k < w.heap.size → ¬ U k) : Wq w' base q p U W rv vv lv xs := by
  have lt : ∀ {α : Type} {enc : α → List Value} {m e : Nat} {v : Value} {l : List α}, Lo enc m e w base v l → (∀ b, v.ownBlock = some b → U b) → Lo enc m e w' base v l := fun hl hU => hl.move fun b hb => by
    obtain ⟨_, hlt, cs, hc⟩ := hl.typed b hb
    exact (f.block b _ (fun ho => hO b ho hlt (hU b hb)) hc).trans hc.symm
  exact ⟨f.block q _ (fun ho => hO q ho (Array.getElem?_eq_some_iff.1 h.cells).1 h.qU) h.cells, Nat.le_trans h.size f.size, lt h.vers h.vU, lt h.list h.lU, h.fst, fun x hx => lt (h.rd x hx) (h.rdU x hx), fun x hx => lt (h.wr x hx) (h.wrU x hx), h.qU, h.vU, h.lU, h.rdU, h.wrU⟩
theorem Wq.below (h : Wq w base q p U W rv vv lv xs) (B : Below w.heap.size w w') : Wq w' base q p U W rv vv lv xs := h.frame (O := fun _ => False) (Fr.ofBelow B) (fun _ ho => ho.elim)
theorem Wq.list_at (h : Wq w base q p U W rv vv lv xs) {i : Nat} {x : Rx} (hx : xs[i]? = some x) : W.list[i]? = some x.1 := by rw [← h.fst, List.getElem?_map, hx]; rfl
theorem Wq.lens (h : Wq w base q p U W rv vv lv xs) : ∃ A c, w.cell? ⟨q, 3, none⟩ = some (.slice A W.list.length c) := by
  obtain ⟨A, c, e, _⟩ := h.list.slice
  have := h.cell.2.2.2.1
  rw [e] at this
  rw [← h.fst, List.length_map]
  exact ⟨A, c, this⟩
end
section
variable {w : World} {base q p : Nat} {U : Nat → Prop} {W : Wld St} {rv vv lv : Value} {xs : List Rx}
set_option maxHeartbeats 64000000 in
set_option maxRecDepth 100000 in
theorem depsQ_calls (h : Wq w base q p U W rv vv lv xs) (hsaw : ∀ x ∈ W.list, ∀ r ∈ x.reads, 0 ≤ r.saw → r.saw.toNat < W.vers.length) (hnext : ∀ v ∈ W.vers, 0 ≤ v.next → v.next.toNat < W.vers.length) (hlen : 2 * (W.list.map (fun x => x.reads.length)).sum + W.vers.length ≤ 4000000000000) (hxl : W.list.length ≤ 2000000000000) :
    Calls Tryz.prog 21 #[ptr q] w fun e w' => ∃ v, e = .returned v ∧ RowD w' w.heap.size v (depsW W.vers W.list) ∧ Below w.heap.size w w' := by
  have hxs : xs.length = W.list.length := by rw [← h.fst, List.length_map]
  obtain ⟨A, c, hlv, hlc, hA⟩ := h.list.slice
  obtain ⟨Av, cv, hvv, _, hAv⟩ := h.vers.slice
  have H0 := Aside0.mk h
  have c3 := h.cell.2.2.2.1
  rw [hlv] at c3
  have hxl' : xs.length ≤ 2000000000000 := by omega
  have hvl' : W.vers.length ≤ 4000000000000 := by omega
  have VC : ∀ V, Below w.heap.size w V → V.cell? ⟨q, 2, none⟩ = some (.slice Av W.vers.length cv) ∧ RowV V base (.slice Av W.vers.length cv) W.vers := fun V B => by
    have HV := h.below B
    have e2 := HV.cell.2.2.1
    have e3 := HV.vers
    rw [hvv] at e2 e3
    exact ⟨e2, e3⟩
  replace VC := Aside0.mk VC
  replace hsaw := Aside0.mk hsaw
  replace hnext := Aside0.mk hnext
  replace hlen := Aside0.mk hlen
  replace hlv := Aside0.mk hlv
  replace hvv := Aside0.mk hvv
  replace hxs := Aside0.mk hxs
  clear h hxl
  go_enter Tryz.func21, Tryz.ntmps21
  go_wp2_with fail
  go_loopw [3, 16] (fun dv iv wr => ∃ j : Nat, j ≤ xs.length ∧ iv = .int .i64 j ∧ RowD wr w.heap.size dv (depsN W.vers W.list j) ∧ Below w.heap.size w wr) (fun _ iv _ => xs.length - (intOf iv).toNat)
  case atStart => exact ⟨0, Nat.zero_le _, rfl, Lo.nil _ _, Below.refl _ _⟩
  case round =>
    clear c3
    obtain ⟨j, hj, rfl, hD, hB⟩ := hrel
    by_cases hjl : j < xs.length
    · have H := H0.out.below hB
      obtain ⟨g, rfl, _⟩ := hA (by omega)
      have hl := H.list
      rw [hlv.out] at hl
      obtain ⟨y0, y1, y2, y3, y4, y5, y6, y7⟩ := RowX.at hl j xs[j] (List.getElem?_eq_getElem hjl)
      have hmx := List.getElem_mem hjl
      obtain ⟨Ar, cr, er, _, hAr⟩ := (H.rd _ hmx).slice
      obtain ⟨Aw, cw, ew, _, _⟩ := (H.wr _ hmx).slice
      have hlx : W.list[j]? = some xs[j].1 := H.list_at (List.getElem?_eq_getElem hjl)
      generalize xs[j] = x at y0 y1 y2 y3 y4 y5 y6 y7 er ew hmx hlx hAr
      obtain ⟨x, rv', wv'⟩ := x
      dsimp only at y0 y1 y2 y3 y4 y5 y6 y7 er ew hmx hlx hAr
      subst er ew
      obtain ⟨W4, hW4⟩ : ∃ W4, W4 = wr.alloc (boxX (x, .slice Ar x.reads.length cr, .slice Aw x.writes.length cw)) := ⟨_, rfl⟩
      unfold boxX at hW4
      dsimp only at hW4
      have B4 : Below wr.heap.size wr W4 := by rw [hW4]; exact allocB wr _
      obtain ⟨x0, x1, x2, x3, x4, x5, x6, x7⟩ := run_cells (x := (x, .slice Ar x.reads.length cr, .slice Aw x.writes.length cw)) (by rw [hW4]; exact heap_alloc_new wr _ : W4.heap[wr.heap.size]? = some (boxX (x, .slice Ar x.reads.length cr, .slice Aw x.writes.length cw)))
      dsimp only at x0 x1 x2 x3 x4 x5 x6 x7
      have hD4 := hD.grown (grown_of_below B4 none) (by simp)
      have hB4 := below_then hB hB.size B4
      have hdn := depsN_succ W.vers W.list j x hlx
      have hdl : (depsN W.vers W.list j).length + 2 * x.reads.length ≤ 4000000000000 := by
        have e1 := depsN_len W.vers W.list j
        have e2 := sum_take (fun x : Run => x.reads.length) W.list j x hlx
        have e3 := hlen.out
        omega
      have hsx : ∀ r ∈ x.reads, 0 ≤ r.saw → r.saw.toNat < W.vers.length := hsaw.out x (List.mem_of_getElem? hlx)
      generalize depsN W.vers W.list j = D at hD4 hdn hdl
      have NEXT : ∀ V v, RowD V w.heap.size v (D ++ depsX W.vers j x) → Below w.heap.size w V → ∃ j' : Nat, j' ≤ xs.length ∧ Value.int .i64 ((j : Int) + 1) = .int .i64 j' ∧ RowD V w.heap.size v (depsN W.vers W.list j') ∧ Below w.heap.size w V := fun V v h1 h2 => ⟨j + 1, hjl, by push_cast; rfl, by rw [hdn]; exact h1, h2⟩
      replace NEXT := Aside0.mk NEXT
      have hxr : x.reads.length ≤ 2000000000000 := by omega
      replace hdl := Aside0.mk hdl
      replace hsx := Aside0.mk hsx
      replace hmx := Aside0.mk hmx
      clear hD hB B4 hdn hlx hl H
      go_upto_region 5 with (fail)
      rw [← hW4]
      clear hW4 y0 y1 y2 y3 y4 y5 y6 y7 x0 x1 x2 x3 x5 x7
      cases hc : x.committed with
      | false =>
        rw [hc] at x4
        have hX : depsX W.vers j x = [] := by unfold depsX; rw [hc]; rfl
        have N1 := NEXT.out W4 _ (by rw [hX, List.append_nil]; exact hD4) hB4
        replace N1 := Aside0.mk N1
        clear hD4 hB4 hX
        go_wp2
        exact ⟨N1.out, by simp [intOf]; omega⟩
      | true =>
        rw [hc] at x4
        have hX : depsX W.vers j x = depsK W.vers j x x.reads.length := by unfold depsX depsK; rw [hc, List.take_length]; rfl
        replace hX := Aside0.mk hX
        go_wp2_with fail
        go_loopw [3, 27] (fun dv iv wr => ∃ k : Nat, k ≤ x.reads.length ∧ iv = .int .i64 k ∧ RowD wr w.heap.size dv (D ++ depsK W.vers j x k) ∧ Below w.heap.size w wr) (fun _ iv _ => x.reads.length - (intOf iv).toNat)
        case atStart => exact ⟨0, Nat.zero_le _, rfl, by show RowD W4 w.heap.size _ (D ++ []); rw [List.append_nil]; exact hD4, hB4⟩
        case round =>
          clear hD4 hB4 x4 x6
          obtain ⟨k, hk, rfl, hD, hB⟩ := hrel
          by_cases hkl : k < x.reads.length
          · have H := H0.out.below hB
            have hrd := H.rd _ hmx.out
            obtain ⟨gr, rfl, _⟩ := hAr (by omega)
            obtain ⟨z0, z1, z2⟩ := RowS.at hrd k x.reads[k] (List.getElem?_eq_getElem hkl)
            have hks := depsK_succ W.vers j x k _ (List.getElem?_eq_getElem hkl)
            have hrs := hsx.out _ (List.getElem_mem hkl)
            generalize x.reads[k] = r at z0 z1 z2 hks hrs
            obtain ⟨W6, hW6⟩ : ∃ W6, W6 = wr.alloc (.cells #[.string r.at_.1, .string r.at_.2, .int .i64 r.saw] 130) := ⟨_, rfl⟩
            have B6 : Below wr.heap.size wr W6 := by rw [hW6]; exact allocB wr _
            have ob6 : W6.heap[wr.heap.size]? = some (.cells #[.string r.at_.1, .string r.at_.2, .int .i64 r.saw] 130 (0, 0)) := by rw [hW6]; exact heap_alloc_new wr _
            obtain ⟨b0, b1, b2⟩ := sw_cells ob6
            have ob6d : W6.drew.heap[wr.heap.size]? = some (.cells #[.string r.at_.1, .string r.at_.2, .int .i64 r.saw] 130 (0, 0)) := ((drewB1 W6).block _ (Array.getElem?_eq_some_iff.1 ob6).1).trans ob6
            clear ob6
            have hD6 := hD.grown (grown_of_below B6 none) (by simp)
            have hB6 := below_then hB hB.size B6
            have hl1 : (D ++ depsK W.vers j x k).length + 2 ≤ 4000000000000 := by
              have e1 := depsK_len W.vers j x k
              have e2 := hdl.out
              rw [List.length_append]
              omega
            rw [show D ++ depsK W.vers j x k = D ++ depsK W.vers j x k from rfl] at hD6
            generalize hD1 : D ++ depsK W.vers j x k = D1 at hD6 hl1
            have NEXT2 : ∀ V v, RowD V w.heap.size v (D1 ++ depsR W.vers j r) → Below w.heap.size w V → ∃ k' : Nat, k' ≤ x.reads.length ∧ Value.int .i64 ((k : Int) + 1) = .int .i64 k' ∧ RowD V w.heap.size v (D ++ depsK W.vers j x k') ∧ Below w.heap.size w V := fun V v h1 h2 => ⟨k + 1, hkl, by push_cast; rfl, by rw [hks, ← List.append_assoc, hD1]; exact h1, h2⟩
            replace NEXT2 := Aside0.mk NEXT2
            replace hD1 := Aside0.mk hD1
            replace hks := Aside0.mk hks
            replace hrs := Aside0.mk hrs
            replace hl1 := Aside0.mk hl1
            clear hD hB B6 hrd H
            go_upto_region 9 with (fail)
            rw [← hW6]
            clear hW6 z0 z1 z2
            by_cases hs : 0 ≤ r.saw
            · obtain ⟨m, hm⟩ : ∃ m : Nat, r.saw = (m : Int) := ⟨r.saw.toNat, by omega⟩
              have hml : m < W.vers.length := by have := hrs.out hs; omega
              have hge := depsR_ge (i := j) hm (List.getElem?_eq_getElem hml)
              have hmu : W.vers[m]? = some W.vers[m] := List.getElem?_eq_getElem hml
              obtain ⟨gv, rfl, _⟩ := hAv (by omega)
              have hnu := hnext.out _ (List.getElem_mem hml)
              generalize W.vers[m] = u at hge hmu hnu
              have Bd1 : Below w.heap.size w W6.drew := below_then hB6 hB6.size (drewB1 W6)
              obtain ⟨v2, hV⟩ := VC.out _ Bd1
              obtain ⟨_, _, _, u3, _⟩ := RowV.at hV m u hmu
              have x2 := below_cell (drewB1 W6) b2
              rw [hm] at x2 b2
              have hDd := hD6.grown (drewG W6) (by simp)
              obtain ⟨A5, n5, c5, w5, hrun, L5, B5, CK⟩ := addD hDd Bd1 (by have := hl1.out; omega) (u.by_, j)
              obtain ⟨f2, hV5⟩ := VC.out _ B5
              obtain ⟨_, _, _, f4, _⟩ := RowV.at hV5 m u hmu
              have f3 := CK _ _ x2 (lo_kind hDd ob6d (by decide))
              have Bd2 : Below w.heap.size w w5.drew := below_then B5 B5.size (drewB1 w5)
              have L6 := L5.grown (drewG w5) (by simp)
              obtain ⟨v2', hV6⟩ := VC.out _ Bd2
              obtain ⟨_, _, _, _, u4⟩ := RowV.at hV6 m u hmu
              have x2' := below_cell (drewB1 w5) f3
              replace L6 := Aside0.mk L6
              replace Bd2 := Aside0.mk Bd2
              replace hge := Aside0.mk hge
              replace hmu := Aside0.mk hmu
              replace hm := Aside0.mk hm
              replace v2' := Aside0.mk v2'
              replace x2' := Aside0.mk x2'
              replace u4 := Aside0.mk u4
              clear hDd hD6 hV hV5 L5 B5 CK Bd1 b0 b1 ob6d hB6 hs
              go_wp2_with fail
              refine start_ (n := 15) (S := fun w' => w'.cell? ⟨q, 2, none⟩ = some (.slice (some ⟨gv, 0, none⟩) W.vers.length cv) ∧ w'.cell? ⟨wr.heap.size, 2, none⟩ = some (.int .i64 (m : Int)) ∧ w'.cell? ⟨gv, m * 5 + 3, none⟩ = some (.int .i64 u.by_)) (ds := []) #[false, false, false, false, false, false, false, false, false, false, false, false, false, false, false] (by kernel_rfl) rfl rfl ⟨v2, x2, u3⟩ (fun hHeld => ?_)
              refine pure_ (i := 0) (N := some 34) (v := ?_) (a' := ?_) #[true, false, false, false, false, false, false, false, false, false, false, false, false, false, false] rfl rfl (by kernel_rfl) (fun _ _ _ h => h) (Or.inl ⟨by rfl, ?_⟩) ?_ ?_
              rotate_left
              · intro w'
                go_simp
                with_reducible rfl
              rotate_left
              · simp only [Act.put, List.setIfInBounds_toArray, List.set_cons_zero, List.set_cons_succ, i64_w, i32_w]
                rfl
              refine pure_ (i := 1) (N := some 35) (v := ?_) (a' := ?_) #[true, true, false, false, false, false, false, false, false, false, false, false, false, false, false] rfl rfl (by kernel_rfl) (fun _ _ _ h => h) (Or.inl ⟨by rfl, ?_⟩) ?_ ?_
              rotate_left
              · intro w'
                go_simp
                with_reducible rfl
              rotate_left
              · simp only [Act.put, List.setIfInBounds_toArray, List.set_cons_zero, List.set_cons_succ, i64_w, i32_w]
                rfl
              refine pure_ (i := 2) (N := some 36) (v := ?_) (a' := ?_) #[true, true, true, false, false, false, false, false, false, false, false, false, false, false, false] rfl rfl (by kernel_rfl) (fun _ _ _ h => h) (Or.inl ⟨by rfl, ?_⟩) ?_ ?_
              rotate_left
              · intro w'
                go_simp
                with_reducible rfl
              rotate_left
              · simp only [Act.put, List.setIfInBounds_toArray, List.set_cons_zero, List.set_cons_succ, i64_w, i32_w]
                rfl
              refine pure_ (i := 3) (N := some 37) (v := ?_) (a' := ?_) #[true, true, true, true, false, false, false, false, false, false, false, false, false, false, false] rfl rfl (by kernel_rfl) (fun _ _ _ h => h) (Or.inl ⟨by rfl, ?_⟩) ?_ ?_
              rotate_left
              · intro w'
                go_simp
                with_reducible rfl
              rotate_left
              · simp only [Act.put, List.setIfInBounds_toArray, List.set_cons_zero, List.set_cons_succ, i64_w, i32_w]
                rfl
              refine pure_ (i := 5) (N := some 39) (v := ?_) (a' := ?_) #[true, true, true, true, false, true, false, false, false, false, false, false, false, false, false] rfl rfl (by kernel_rfl) (fun _ _ _ h => h) (Or.inl ⟨by rfl, ?_⟩) ?_ ?_
              rotate_left
              · intro w'
                go_simp
                with_reducible rfl
              rotate_left
              · simp only [Act.put, List.setIfInBounds_toArray, List.set_cons_zero, List.set_cons_succ, i64_w, i32_w]
                rfl
              refine pure_ (i := 10) (N := some 44) (v := ?_) (a' := ?_) #[true, true, true, true, false, true, false, false, false, false, true, false, false, false, false] rfl rfl (by kernel_rfl) (fun _ _ _ h => h) (Or.inl ⟨by rfl, ?_⟩) ?_ ?_
              rotate_left
              · intro w'
                go_simp
                with_reducible rfl
              rotate_left
              · simp only [Act.put, List.setIfInBounds_toArray, List.set_cons_zero, List.set_cons_succ, i64_w, i32_w]
                rfl
              refine take_ (i := 4) (N := some 38) (v := ?_) (a' := ?_) #[true, true, true, true, true, true, false, false, false, false, true, false, false, false, false] rfl rfl (by kernel_rfl) (fun _ _ _ h => h) (Or.inl ⟨by rfl, ?_⟩) hHeld ?_ ?_
              rotate_left
              · rintro w' ⟨s0, s1, s2⟩
                go_simp
                with_reducible rfl
              rotate_left
              · simp only [Act.put, List.setIfInBounds_toArray, List.set_cons_zero, List.set_cons_succ, i64_w, i32_w]
                rfl
              refine take_ (i := 6) (N := some 40) (v := ?_) (a' := ?_) #[true, true, true, true, true, true, true, false, false, false, true, false, false, false, false] rfl rfl (by kernel_rfl) (fun _ _ _ h => h) (Or.inl ⟨by rfl, ?_⟩) hHeld ?_ ?_
              rotate_left
              · rintro w' ⟨s0, s1, s2⟩
                go_simp
                with_reducible rfl
              rotate_left
              · simp only [Act.put, List.setIfInBounds_toArray, List.set_cons_zero, List.set_cons_succ, i64_w, i32_w]
                rfl
              refine pure_ (i := 7) (N := some 41) (v := ?_) (a' := ?_) #[true, true, true, true, true, true, true, true, false, false, true, false, false, false, false] rfl rfl (by kernel_rfl) (fun _ _ _ h => h) (Or.inl ⟨by rfl, ?_⟩) ?_ ?_
              rotate_left
              · intro w'
                go_simp
                with_reducible rfl
              rotate_left
              · simp only [Act.put, List.setIfInBounds_toArray, List.set_cons_zero, List.set_cons_succ, i64_w, i32_w]
                rfl
              refine pure_ (i := 8) (N := some 42) (v := ?_) (a' := ?_) #[true, true, true, true, true, true, true, true, true, false, true, false, false, false, false] rfl rfl (by kernel_rfl) (fun _ _ _ h => h) (Or.inl ⟨by rfl, ?_⟩) ?_ ?_
              rotate_left
              · intro w'
                go_simp
                with_reducible rfl
              rotate_left
              · simp only [Act.put, List.setIfInBounds_toArray, List.set_cons_zero, List.set_cons_succ, i64_w, i32_w]
                rfl
              refine take_ (i := 9) (N := some 43) (v := ?_) (a' := ?_) #[true, true, true, true, true, true, true, true, true, true, true, false, false, false, false] rfl rfl (by kernel_rfl) (fun _ _ _ h => h) (Or.inl ⟨by rfl, ?_⟩) hHeld ?_ ?_
              rotate_left
              · rintro w' ⟨s0, s1, s2⟩
                go_simp
                with_reducible rfl
              rotate_left
              · simp only [Act.put, List.setIfInBounds_toArray, List.set_cons_zero, List.set_cons_succ, i64_w, i32_w]
                rfl
              refine pure_ (i := 11) (N := some 45) (v := ?_) (a' := ?_) #[true, true, true, true, true, true, true, true, true, true, true, true, false, false, false] rfl rfl (by kernel_rfl) (fun _ _ _ h => h) (Or.inl ⟨by rfl, ?_⟩) ?_ ?_
              rotate_left
              · intro w'
                go_simp
                with_reducible rfl
              rotate_left
              · simp only [Act.put, List.setIfInBounds_toArray, List.set_cons_zero, List.set_cons_succ, i64_w, i32_w]
                rfl
              refine one_ (i := 12) (N := some 46) #[true, true, true, true, true, true, true, true, true, true, true, true, true, false, false] rfl rfl (by kernel_rfl) (by decide) (fun K hK => ?_)
              refine value_ (w1 := ?_) (v := ?_) (by rfl) rfl ?_ ?_
              rotate_left 2
              · go_simp
                constructor
                · rfl
                · rfl
              refine hK.out _ _ ⟨below_cell (allocB _ _) v2, below_cell (allocB _ _) x2, below_cell (allocB _ _) u3⟩ (fun hHeld => ?_)
              clear hK K
              refine norm_ (a' := ?_) ?_ ?_
              rotate_left
              · show Act.put _ (some 46) _ = _
                simp only [Act.put, List.setIfInBounds_toArray, List.set_cons_zero, List.set_cons_succ, i64_w, i32_w]
                rfl
              refine one_ (i := 13) (N := some 47) #[true, true, true, true, true, true, true, true, true, true, true, true, true, true, false] rfl rfl (by kernel_rfl) (by decide) (fun K hK => ?_)
              refine app_step (by rfl) (by rfl) (by rfl) (by rfl) hrun ?_
              refine hK.out _ _ ⟨f2, f3, f4⟩ (fun hHeld => ?_)
              clear hK K
              refine norm_ (a' := ?_) ?_ ?_
              rotate_left
              · show Act.put _ (some 47) _ = _
                simp only [Act.put, List.setIfInBounds_toArray, List.set_cons_zero, List.set_cons_succ, i64_w, i32_w]
                rfl
              refine pure_ (i := 14) (N := some 3) (v := ?_) (a' := ?_) #[true, true, true, true, true, true, true, true, true, true, true, true, true, true, true] rfl rfl (by kernel_rfl) (fun _ _ _ h => h) (Or.inl ⟨by rfl, ?_⟩) ?_ ?_
              rotate_left
              · intro w'
                go_simp
                with_reducible rfl
              rotate_left
              · simp only [Act.put, List.setIfInBounds_toArray, List.set_cons_zero, List.set_cons_succ, i64_w, i32_w]
                rfl
              refine done_ (by kernel_rfl) ?_

              clear hrun f2 f3 f4 v2 x2 u3 b2
              replace v2 := v2'.out
              replace x2 := x2'.out
              replace u4 := u4.out
              clear v2' x2'
              replace hge := hge.out
              generalize u.next = nx at hge u4 hnu
              replace hge := Aside0.mk hge
              go_wp2_with fail
              refine start_ (n := 10) (S := fun w' => w'.cell? ⟨q, 2, none⟩ = some (.slice (some ⟨gv, 0, none⟩) W.vers.length cv) ∧ w'.cell? ⟨wr.heap.size, 2, none⟩ = some (.int .i64 (m : Int)) ∧ w'.cell? ⟨gv, m * 5 + 4, none⟩ = some (.int .i64 nx)) (ds := []) #[false, false, false, false, false, false, false, false, false, false] (by kernel_rfl) rfl rfl ⟨v2, x2, u4⟩ (fun hHeld => ?_)
              refine pure_ (i := 0) (N := some 48) (v := ?_) (a' := ?_) #[true, false, false, false, false, false, false, false, false, false] rfl rfl (by kernel_rfl) (fun _ _ _ h => h) (Or.inl ⟨by rfl, ?_⟩) ?_ ?_
              rotate_left
              · intro w'
                go_simp
                with_reducible rfl
              rotate_left
              · simp only [Act.put, List.setIfInBounds_toArray, List.set_cons_zero, List.set_cons_succ, i64_w, i32_w]
                rfl
              refine pure_ (i := 1) (N := some 49) (v := ?_) (a' := ?_) #[true, true, false, false, false, false, false, false, false, false] rfl rfl (by kernel_rfl) (fun _ _ _ h => h) (Or.inl ⟨by rfl, ?_⟩) ?_ ?_
              rotate_left
              · intro w'
                go_simp
                with_reducible rfl
              rotate_left
              · simp only [Act.put, List.setIfInBounds_toArray, List.set_cons_zero, List.set_cons_succ, i64_w, i32_w]
                rfl
              refine pure_ (i := 2) (N := some 50) (v := ?_) (a' := ?_) #[true, true, true, false, false, false, false, false, false, false] rfl rfl (by kernel_rfl) (fun _ _ _ h => h) (Or.inl ⟨by rfl, ?_⟩) ?_ ?_
              rotate_left
              · intro w'
                go_simp
                with_reducible rfl
              rotate_left
              · simp only [Act.put, List.setIfInBounds_toArray, List.set_cons_zero, List.set_cons_succ, i64_w, i32_w]
                rfl
              refine pure_ (i := 4) (N := some 52) (v := ?_) (a' := ?_) #[true, true, true, false, true, false, false, false, false, false] rfl rfl (by kernel_rfl) (fun _ _ _ h => h) (Or.inl ⟨by rfl, ?_⟩) ?_ ?_
              rotate_left
              · intro w'
                go_simp
                with_reducible rfl
              rotate_left
              · simp only [Act.put, List.setIfInBounds_toArray, List.set_cons_zero, List.set_cons_succ, i64_w, i32_w]
                rfl
              refine take_ (i := 3) (N := some 51) (v := ?_) (a' := ?_) #[true, true, true, true, true, false, false, false, false, false] rfl rfl (by kernel_rfl) (fun _ _ _ h => h) (Or.inl ⟨by rfl, ?_⟩) hHeld ?_ ?_
              rotate_left
              · rintro w' ⟨s0, s1, s2⟩
                go_simp
                with_reducible rfl
              rotate_left
              · simp only [Act.put, List.setIfInBounds_toArray, List.set_cons_zero, List.set_cons_succ, i64_w, i32_w]
                rfl
              refine take_ (i := 5) (N := some 53) (v := ?_) (a' := ?_) #[true, true, true, true, true, true, false, false, false, false] rfl rfl (by kernel_rfl) (fun _ _ _ h => h) (Or.inl ⟨by rfl, ?_⟩) hHeld ?_ ?_
              rotate_left
              · rintro w' ⟨s0, s1, s2⟩
                go_simp
                with_reducible rfl
              rotate_left
              · simp only [Act.put, List.setIfInBounds_toArray, List.set_cons_zero, List.set_cons_succ, i64_w, i32_w]
                rfl
              refine pure_ (i := 6) (N := some 54) (v := ?_) (a' := ?_) #[true, true, true, true, true, true, true, false, false, false] rfl rfl (by kernel_rfl) (fun _ _ _ h => h) (Or.inl ⟨by rfl, ?_⟩) ?_ ?_
              rotate_left
              · intro w'
                go_simp
                with_reducible rfl
              rotate_left
              · simp only [Act.put, List.setIfInBounds_toArray, List.set_cons_zero, List.set_cons_succ, i64_w, i32_w]
                rfl
              refine pure_ (i := 7) (N := some 55) (v := ?_) (a' := ?_) #[true, true, true, true, true, true, true, true, false, false] rfl rfl (by kernel_rfl) (fun _ _ _ h => h) (Or.inl ⟨by rfl, ?_⟩) ?_ ?_
              rotate_left
              · intro w'
                go_simp
                with_reducible rfl
              rotate_left
              · simp only [Act.put, List.setIfInBounds_toArray, List.set_cons_zero, List.set_cons_succ, i64_w, i32_w]
                rfl
              refine take_ (i := 8) (N := some 56) (v := ?_) (a' := ?_) #[true, true, true, true, true, true, true, true, true, false] rfl rfl (by kernel_rfl) (fun _ _ _ h => h) (Or.inl ⟨by rfl, ?_⟩) hHeld ?_ ?_
              rotate_left
              · rintro w' ⟨s0, s1, s2⟩
                go_simp
                with_reducible rfl
              rotate_left
              · simp only [Act.put, List.setIfInBounds_toArray, List.set_cons_zero, List.set_cons_succ, i64_w, i32_w]
                rfl
              refine pure_ (i := 9) (N := some 8) (v := ?_) (a' := ?_) #[true, true, true, true, true, true, true, true, true, true] rfl rfl (by kernel_rfl) (fun _ _ _ h => h) (Or.inl ⟨by rfl, ?_⟩) ?_ ?_
              rotate_left
              · intro w'
                go_simp
                with_reducible rfl
              rotate_left
              · simp only [Act.put, List.setIfInBounds_toArray, List.set_cons_zero, List.set_cons_succ, i64_w, i32_w]
                rfl
              refine done_ (by kernel_rfl) ?_

              clear v2 x2 u4
              by_cases hn : 0 ≤ nx
              · obtain ⟨m2, rfl⟩ : ∃ m2 : Nat, nx = (m2 : Int) := ⟨nx.toNat, by omega⟩
                have hml2 : m2 < W.vers.length := by have := hnu hn; omega
                have ht := List.getElem?_eq_getElem hml2
                generalize W.vers[m2] = t at ht
                obtain ⟨v2, hV6⟩ := VC.out _ Bd2.out
                obtain ⟨_, _, _, t3, _⟩ := RowV.at hV6 m2 t ht
                obtain ⟨A7, n7, c7, w7, hrun7, L7, B7, _⟩ := addD L6.out Bd2.out (by rw [List.length_append]; have := hl1.out; simp only [List.length_cons, List.length_nil]; omega) (j, t.by_)
                have N1 := NEXT2.out w7 _ (by rw [hge.out, if_by j rfl ht, ← List.append_assoc]; exact L7) B7
                replace N1 := Aside0.mk N1
                clear L7 B7 hnu hn ht hV6
                go_wp2_with (at_builtin; refine app_list rfl rfl rfl rfl hrun7 ?_)
                exact ⟨N1.out, by simp [intOf]; omega⟩
              · have N1 := NEXT2.out _ _ (by rw [hge.out, if_neg hn, List.append_nil]; exact L6.out) Bd2.out
                replace N1 := Aside0.mk N1
                clear hnu
                go_wp2
                exact ⟨N1.out, by simp [intOf]; omega⟩
            · have hlt := depsR_lt (vs := W.vers) (i := j) hs
              obtain ⟨v2, hV⟩ := VC.out _ hB6
              have FC := first_calls base q (.slice Av W.vers.length cv) W.vers r.at_ W6 v2 hV (by omega)
              replace hV := Aside0.mk hV
              rcases firstV_cases W.vers r.at_ with hf | ⟨m2, t, hf, ht, _⟩
              · rw [hf] at FC hlt
                have hD6' := Aside0.mk hD6
                have hB6' := Aside0.mk hB6
                replace hlt := Aside0.mk hlt
                clear hf hD6 hB6
                go_wp2_with (go_at_call 60; refine FC.mono ?_; rintro e w7 ⟨rfl, B7⟩; have N1 := Aside0.mk (NEXT2.out w7 _ (by rw [hlt.out, if_neg (by omega), List.append_nil]; exact hD6'.out.grown (grown_of_below B7 none) (by simp)) (below_then hB6'.out hB6'.out.size B7)))
                exact ⟨N1.out, by simp [intOf]; omega⟩
              · have hml2 := (List.getElem?_eq_some_iff.1 ht).1
                obtain ⟨gv, rfl, _⟩ := hAv (by omega)
                rw [hf] at FC
                have hD6' := Aside0.mk hD6
                have hB6' := Aside0.mk hB6
                replace hlt := Aside0.mk hlt
                replace hf := Aside0.mk hf
                replace ht := Aside0.mk ht
                clear hD6 hB6
                go_wp2_with (first | (go_at_call 60; refine FC.mono ?_; rintro e w7 ⟨rfl, B7⟩; have hB7 := below_then hB6'.out hB6'.out.size B7; have hD7 := hD6'.out.grown (grown_of_below B7 none) (by simp); clear v2; obtain ⟨v2, hV7⟩ := VC.out _ hB7; obtain ⟨_, _, _, t3, _⟩ := RowV.at hV7 m2 t ht.out; obtain ⟨A8, n8, c8, w8, hrun8, L8, B8, _⟩ := addD hD7 hB7 (by have := hl1.out; omega) (j, t.by_); have N1 := Aside0.mk (NEXT2.out w8 _ (by rw [hlt.out, if_by j hf.out ht.out]; exact L8) B8); clear L8 B8 hD7 hB7 B7 hV7) | (at_builtin; refine app_list rfl rfl rfl rfl hrun8 ?_))
                exact ⟨N1.out, by simp [intOf]; omega⟩
          · obtain rfl : k = x.reads.length := by omega
            have N1 := NEXT.out wr _ (by rw [hX.out]; exact hD) hB
            replace N1 := Aside0.mk N1
            clear hD hB
            go_wp2
            exact ⟨N1.out, by simp [intOf]; omega⟩
    · obtain rfl : j = xs.length := by omega
      obtain ⟨v2, _⟩ := VC.out _ hB
      rw [hxs.out] at hD
      have hdl : (depsN W.vers W.list W.list.length).length + W.vers.length ≤ 4000000000000 := by
        have e1 := depsN_len W.vers W.list W.list.length
        rw [List.take_length] at e1
        have e3 := hlen.out
        omega
      have hW : depsW W.vers W.list = depsN W.vers W.list W.list.length ++ depsM W.vers W.vers.length := by
        unfold depsW depsN depsM
        rw [List.take_length, List.take_length]
      generalize depsN W.vers W.list W.list.length = D at hD hdl hW
      replace hdl := Aside0.mk hdl
      replace hW := Aside0.mk hW
      go_wp2_with fail
      go_loopw [3, 83] (fun dv iv wr => ∃ k : Nat, k ≤ W.vers.length ∧ iv = .int .i64 k ∧ RowD wr w.heap.size dv (D ++ depsM W.vers k) ∧ Below w.heap.size w wr) (fun _ iv _ => W.vers.length - (intOf iv).toNat)
      case atStart => exact ⟨0, Nat.zero_le _, rfl, by show RowD _ w.heap.size _ (D ++ []); rw [List.append_nil]; exact hD, hB⟩
      case round =>
        clear hD hB v2
        obtain ⟨k, hk, rfl, hD, hB⟩ := hrel
        by_cases hkl : k < W.vers.length
        · obtain ⟨v2, hV⟩ := VC.out _ hB
          obtain ⟨gv, rfl, _⟩ := hAv (by omega)
          obtain ⟨y0, y1, y2, y3, y4⟩ := RowV.at hV k W.vers[k] (List.getElem?_eq_getElem hkl)
          have hms := depsM_succ W.vers k _ (List.getElem?_eq_getElem hkl)
          have hnv := hnext.out _ (List.getElem_mem hkl)
          generalize W.vers[k] = u at y0 y1 y2 y3 y4 hms hnv
          obtain ⟨W6, hW6⟩ : ∃ W6, W6 = wr.alloc (.cells #[.string u.at_.1, .string u.at_.2, .int .i64 u.num, .int .i64 u.by_, .int .i64 u.next] 125) := ⟨_, rfl⟩
          have B6 : Below wr.heap.size wr W6 := by rw [hW6]; exact allocB wr _
          have ob6 : W6.heap[wr.heap.size]? = some (.cells #[.string u.at_.1, .string u.at_.2, .int .i64 u.num, .int .i64 u.by_, .int .i64 u.next] 125 (0, 0)) := by rw [hW6]; exact heap_alloc_new wr _
          obtain ⟨b0, b1, b2, b3, b4⟩ := ver_cells ob6
          have ob6d : W6.drew.heap[wr.heap.size]? = some (.cells #[.string u.at_.1, .string u.at_.2, .int .i64 u.num, .int .i64 u.by_, .int .i64 u.next] 125 (0, 0)) := ((drewB1 W6).block _ (Array.getElem?_eq_some_iff.1 ob6).1).trans ob6
          have hD6 := hD.grown (grown_of_below B6 none) (by simp)
          have hB6 := below_then hB hB.size B6
          have hl1 : (D ++ depsM W.vers k).length ≤ 4000000000000 := by
            have e1 := depsM_len W.vers k
            have e2 := hdl.out
            rw [List.length_append]
            omega
          generalize hD1 : D ++ depsM W.vers k = D1 at hD6 hl1
          have NEXT2 : ∀ V v, RowD V w.heap.size v (D1 ++ depsV W.vers u) → Below w.heap.size w V → ∃ k' : Nat, k' ≤ W.vers.length ∧ Value.int .i64 ((k : Int) + 1) = .int .i64 k' ∧ RowD V w.heap.size v (D ++ depsM W.vers k') ∧ Below w.heap.size w V := fun V v h1 h2 => ⟨k + 1, hkl, by push_cast; rfl, by rw [hms, ← List.append_assoc, hD1]; exact h1, h2⟩
          replace NEXT2 := Aside0.mk NEXT2
          replace hD1 := Aside0.mk hD1
          replace hms := Aside0.mk hms
          replace hl1 := Aside0.mk hl1
          clear hD hB B6 hV ob6
          go_upto_region 21 with (fail)
          rw [← hW6]
          clear hW6 y0 y1 y2 y3 y4 v2
          by_cases hn : 0 ≤ u.next
          · obtain ⟨m, hm⟩ : ∃ m : Nat, u.next = (m : Int) := ⟨u.next.toNat, by omega⟩
            have hml : m < W.vers.length := by have := hnv hn; omega
            have ht := List.getElem?_eq_getElem hml
            generalize W.vers[m] = t at ht
            have hdv : depsV W.vers u = [(u.by_, t.by_)] := by
              unfold depsV
              rw [if_pos hn, hm, Int.toNat_natCast, ht]
              rfl
            have Bd1 : Below w.heap.size w W6.drew := below_then hB6 hB6.size (drewB1 W6)
            obtain ⟨v2, hV⟩ := VC.out _ Bd1
            obtain ⟨_, _, _, u3, _⟩ := RowV.at hV m t ht
            have x3 := below_cell (drewB1 W6) b3
            have x4 := below_cell (drewB1 W6) b4
            have hDd := hD6.grown (drewG W6) (by simp)
            obtain ⟨A5, n5, c5, w5, hrun, L5, B5, CK⟩ := addD hDd Bd1 (by have := hl1.out; omega) (u.by_, t.by_)
            have hne := lo_kind hDd ob6d (by decide)
            obtain ⟨f2, hV5⟩ := VC.out _ B5
            obtain ⟨_, _, _, f5, _⟩ := RowV.at hV5 m t ht
            have f3 := CK _ _ x3 hne
            have f4 := CK _ _ x4 hne
            rw [hm] at x4 f4 b4
            have N1 := NEXT2.out w5 _ (by rw [hdv]; exact L5) B5
            replace N1 := Aside0.mk N1
            clear hDd hD6 hV hV5 L5 B5 CK Bd1 b0 b1 b2 ob6d hB6 hne hdv ht b3 hm hn hnv
            go_wp2_with fail
            refine start_ (n := 16) (S := fun w' => w'.cell? ⟨q, 2, none⟩ = some (.slice (some ⟨gv, 0, none⟩) W.vers.length cv) ∧ w'.cell? ⟨wr.heap.size, 3, none⟩ = some (.int .i64 u.by_) ∧ w'.cell? ⟨wr.heap.size, 4, none⟩ = some (.int .i64 (m : Int)) ∧ w'.cell? ⟨gv, m * 5 + 3, none⟩ = some (.int .i64 t.by_)) (ds := []) #[false, false, false, false, false, false, false, false, false, false, false, false, false, false, false, false] (by kernel_rfl) rfl rfl ⟨v2, x3, x4, u3⟩ (fun hHeld => ?_)
            refine pure_ (i := 0) (N := some 90) (v := ?_) (a' := ?_) #[true, false, false, false, false, false, false, false, false, false, false, false, false, false, false, false] rfl rfl (by kernel_rfl) (fun _ _ _ h => h) (Or.inl ⟨by rfl, ?_⟩) ?_ ?_
            rotate_left
            · intro w'
              go_simp
              with_reducible rfl
            rotate_left
            · simp only [Act.put, List.setIfInBounds_toArray, List.set_cons_zero, List.set_cons_succ, i64_w, i32_w]
              rfl
            refine pure_ (i := 1) (N := some 91) (v := ?_) (a' := ?_) #[true, true, false, false, false, false, false, false, false, false, false, false, false, false, false, false] rfl rfl (by kernel_rfl) (fun _ _ _ h => h) (Or.inl ⟨by rfl, ?_⟩) ?_ ?_
            rotate_left
            · intro w'
              go_simp
              with_reducible rfl
            rotate_left
            · simp only [Act.put, List.setIfInBounds_toArray, List.set_cons_zero, List.set_cons_succ, i64_w, i32_w]
              rfl
            refine pure_ (i := 3) (N := some 93) (v := ?_) (a' := ?_) #[true, true, false, true, false, false, false, false, false, false, false, false, false, false, false, false] rfl rfl (by kernel_rfl) (fun _ _ _ h => h) (Or.inl ⟨by rfl, ?_⟩) ?_ ?_
            rotate_left
            · intro w'
              go_simp
              with_reducible rfl
            rotate_left
            · simp only [Act.put, List.setIfInBounds_toArray, List.set_cons_zero, List.set_cons_succ, i64_w, i32_w]
              rfl
            refine pure_ (i := 4) (N := some 94) (v := ?_) (a' := ?_) #[true, true, false, true, true, false, false, false, false, false, false, false, false, false, false, false] rfl rfl (by kernel_rfl) (fun _ _ _ h => h) (Or.inl ⟨by rfl, ?_⟩) ?_ ?_
            rotate_left
            · intro w'
              go_simp
              with_reducible rfl
            rotate_left
            · simp only [Act.put, List.setIfInBounds_toArray, List.set_cons_zero, List.set_cons_succ, i64_w, i32_w]
              rfl
            refine pure_ (i := 5) (N := some 95) (v := ?_) (a' := ?_) #[true, true, false, true, true, true, false, false, false, false, false, false, false, false, false, false] rfl rfl (by kernel_rfl) (fun _ _ _ h => h) (Or.inl ⟨by rfl, ?_⟩) ?_ ?_
            rotate_left
            · intro w'
              go_simp
              with_reducible rfl
            rotate_left
            · simp only [Act.put, List.setIfInBounds_toArray, List.set_cons_zero, List.set_cons_succ, i64_w, i32_w]
              rfl
            refine pure_ (i := 7) (N := some 97) (v := ?_) (a' := ?_) #[true, true, false, true, true, true, false, true, false, false, false, false, false, false, false, false] rfl rfl (by kernel_rfl) (fun _ _ _ h => h) (Or.inl ⟨by rfl, ?_⟩) ?_ ?_
            rotate_left
            · intro w'
              go_simp
              with_reducible rfl
            rotate_left
            · simp only [Act.put, List.setIfInBounds_toArray, List.set_cons_zero, List.set_cons_succ, i64_w, i32_w]
              rfl
            refine take_ (i := 2) (N := some 92) (v := ?_) (a' := ?_) #[true, true, true, true, true, true, false, true, false, false, false, false, false, false, false, false] rfl rfl (by kernel_rfl) (fun _ _ _ h => h) (Or.inl ⟨by rfl, ?_⟩) hHeld ?_ ?_
            rotate_left
            · rintro w' ⟨s0, s1, s2, s3⟩
              go_simp
              with_reducible rfl
            rotate_left
            · simp only [Act.put, List.setIfInBounds_toArray, List.set_cons_zero, List.set_cons_succ, i64_w, i32_w]
              rfl
            refine take_ (i := 6) (N := some 96) (v := ?_) (a' := ?_) #[true, true, true, true, true, true, true, true, false, false, false, false, false, false, false, false] rfl rfl (by kernel_rfl) (fun _ _ _ h => h) (Or.inl ⟨by rfl, ?_⟩) hHeld ?_ ?_
            rotate_left
            · rintro w' ⟨s0, s1, s2, s3⟩
              go_simp
              with_reducible rfl
            rotate_left
            · simp only [Act.put, List.setIfInBounds_toArray, List.set_cons_zero, List.set_cons_succ, i64_w, i32_w]
              rfl
            refine take_ (i := 8) (N := some 98) (v := ?_) (a' := ?_) #[true, true, true, true, true, true, true, true, true, false, false, false, false, false, false, false] rfl rfl (by kernel_rfl) (fun _ _ _ h => h) (Or.inl ⟨by rfl, ?_⟩) hHeld ?_ ?_
            rotate_left
            · rintro w' ⟨s0, s1, s2, s3⟩
              go_simp
              with_reducible rfl
            rotate_left
            · simp only [Act.put, List.setIfInBounds_toArray, List.set_cons_zero, List.set_cons_succ, i64_w, i32_w]
              rfl
            refine pure_ (i := 9) (N := some 99) (v := ?_) (a' := ?_) #[true, true, true, true, true, true, true, true, true, true, false, false, false, false, false, false] rfl rfl (by kernel_rfl) (fun _ _ _ h => h) (Or.inl ⟨by rfl, ?_⟩) ?_ ?_
            rotate_left
            · intro w'
              go_simp
              with_reducible rfl
            rotate_left
            · simp only [Act.put, List.setIfInBounds_toArray, List.set_cons_zero, List.set_cons_succ, i64_w, i32_w]
              rfl
            refine pure_ (i := 10) (N := some 100) (v := ?_) (a' := ?_) #[true, true, true, true, true, true, true, true, true, true, true, false, false, false, false, false] rfl rfl (by kernel_rfl) (fun _ _ _ h => h) (Or.inl ⟨by rfl, ?_⟩) ?_ ?_
            rotate_left
            · intro w'
              go_simp
              with_reducible rfl
            rotate_left
            · simp only [Act.put, List.setIfInBounds_toArray, List.set_cons_zero, List.set_cons_succ, i64_w, i32_w]
              rfl
            refine take_ (i := 11) (N := some 101) (v := ?_) (a' := ?_) #[true, true, true, true, true, true, true, true, true, true, true, true, false, false, false, false] rfl rfl (by kernel_rfl) (fun _ _ _ h => h) (Or.inl ⟨by rfl, ?_⟩) hHeld ?_ ?_
            rotate_left
            · rintro w' ⟨s0, s1, s2, s3⟩
              go_simp
              with_reducible rfl
            rotate_left
            · simp only [Act.put, List.setIfInBounds_toArray, List.set_cons_zero, List.set_cons_succ, i64_w, i32_w]
              rfl
            refine pure_ (i := 12) (N := some 102) (v := ?_) (a' := ?_) #[true, true, true, true, true, true, true, true, true, true, true, true, true, false, false, false] rfl rfl (by kernel_rfl) (fun _ _ _ h => h) (Or.inl ⟨by rfl, ?_⟩) ?_ ?_
            rotate_left
            · intro w'
              go_simp
              with_reducible rfl
            rotate_left
            · simp only [Act.put, List.setIfInBounds_toArray, List.set_cons_zero, List.set_cons_succ, i64_w, i32_w]
              rfl
            refine one_ (i := 13) (N := some 103) #[true, true, true, true, true, true, true, true, true, true, true, true, true, true, false, false] rfl rfl (by kernel_rfl) (by decide) (fun K hK => ?_)
            refine value_ (w1 := ?_) (v := ?_) (by rfl) rfl ?_ ?_
            rotate_left 2
            · go_simp
              constructor
              · rfl
              · rfl
            refine hK.out _ _ ⟨below_cell (allocB _ _) v2, below_cell (allocB _ _) x3, below_cell (allocB _ _) x4, below_cell (allocB _ _) u3⟩ (fun hHeld => ?_)
            clear hK K
            refine norm_ (a' := ?_) ?_ ?_
            rotate_left
            · show Act.put _ (some 103) _ = _
              simp only [Act.put, List.setIfInBounds_toArray, List.set_cons_zero, List.set_cons_succ, i64_w, i32_w]
              rfl
            refine one_ (i := 14) (N := some 104) #[true, true, true, true, true, true, true, true, true, true, true, true, true, true, true, false] rfl rfl (by kernel_rfl) (by decide) (fun K hK => ?_)
            refine app_step (by rfl) (by rfl) (by rfl) (by rfl) hrun ?_
            refine hK.out _ _ ⟨f2, f3, f4, f5⟩ (fun hHeld => ?_)
            clear hK K
            refine norm_ (a' := ?_) ?_ ?_
            rotate_left
            · show Act.put _ (some 104) _ = _
              simp only [Act.put, List.setIfInBounds_toArray, List.set_cons_zero, List.set_cons_succ, i64_w, i32_w]
              rfl
            refine pure_ (i := 15) (N := some 3) (v := ?_) (a' := ?_) #[true, true, true, true, true, true, true, true, true, true, true, true, true, true, true, true] rfl rfl (by kernel_rfl) (fun _ _ _ h => h) (Or.inl ⟨by rfl, ?_⟩) ?_ ?_
            rotate_left
            · intro w'
              go_simp
              with_reducible rfl
            rotate_left
            · simp only [Act.put, List.setIfInBounds_toArray, List.set_cons_zero, List.set_cons_succ, i64_w, i32_w]
              rfl
            refine done_ (by kernel_rfl) ?_

            clear hrun f2 f3 f4 f5 v2 x3 x4 u3
            go_wp2
            exact ⟨N1.out, by simp [intOf]; omega⟩
          · have hdv : depsV W.vers u = [] := by
              unfold depsV
              rw [if_neg hn]
            have N1 := NEXT2.out W6 _ (by rw [hdv, List.append_nil]; exact hD6) hB6
            replace N1 := Aside0.mk N1
            clear hD6 hB6 hnv hdv ob6d
            go_wp2
            exact ⟨N1.out, by simp [intOf]; omega⟩
        · obtain rfl : k = W.vers.length := by omega
          rw [← hW.out] at hD
          go_wp2
          go_ret
          exact ⟨_, rfl, hD, hB⟩
end
theorem Wq.deps {wr : World} {base q p : Nat} {U : Nat → Prop} {W : Wld St} {rv vv lv : Value} {xs : List Rx} (H : Wq wr base q p U W rv vv lv xs) {G : List Gh} (s : SI W.list G W.vers W.m.now) {k R : Nat} (hB : Bd W k R) (hk : k ≤ 1048576) (hR : R ≤ 1048576) :
    Calls Tryz.prog 21 #[ptr q] wr fun e w' => ∃ v, e = .returned v ∧ RowD w' wr.heap.size v (depsW W.vers W.list) ∧ Below wr.heap.size wr w' := by
  obtain ⟨s1, s2⟩ := sq_bound hk hR
  have h1 := hB.reads
  have h2 := hB.vers
  have h3 := hB.list
  exact depsQ_calls H (si_saw s) (si_next s) (by omega) (by omega)
/-- what lies ahead of the manager's first block changes, and what is new -/
theorem MrS.frB {w w' : World} {base p b : Nat} {most : Int} {S : St} {O : Nat → Prop} (h : MrS w base p b most S) (f : Fr O w w') (hO : ∀ k, O k → k < w.heap.size → k < base) : MrS w' base p b most S := by
  obtain ⟨⟨L, M, hk, hbb⟩, r1, r2, r3, r4⟩ := h
  obtain ⟨es, cl, hm⟩ := M.tab.isMap
  have hp : ¬ O p := fun ho => by
    have := hO p ho (Array.getElem?_eq_some_iff.1 M.cells).1
    have := M.low
    omega
  have hb : ¬ O b := fun ho => by
    have := hO b ho (Array.getElem?_eq_some_iff.1 hm).1
    omega
  refine ⟨⟨L, ⟨f.block p _ hp M.cells, M.tab.fr f hb, M.low, fun e he => ?_, M.off, M.good⟩, hk, hbb⟩, r1, r2, r3, r4⟩
  refine (M.rows e he).move fun g hg => ?_
  obtain ⟨h1, h2, cells, hc⟩ := (M.rows e he).typed g hg
  exact (f.block g _ (fun ho => by have := hO g ho h2; omega) hc).trans hc.symm
theorem Pm.frB {w w' : World} {base : Nat} {l : Loc} {S : Sm St} {O : Nat → Prop} (h : Pm w base l S) (f : Fr O w w') (hO : ∀ k, O k → k < w.heap.size → k < base) : Pm w' base l S := by
  have no : ∀ k, l.own S.txs k → ¬ O k := fun k hk ho => by
    have := hO k ho (h.lts k hk)
    have := h.ownLow k hk
    omega
  have hlp : ¬ O l.lp := fun ho => by
    obtain ⟨c, s, hc⟩ := h.lkind
    have := hO _ ho (Array.getElem?_eq_some_iff.1 hc).1
    have := h.low.2.2.1
    omega
  constructor
  · exact f.block _ _ (no _ (.inl rfl)) h.head
  · exact h.tab.fr f (no _ (.inr (.inl rfl)))
  · intro t ht
    obtain ⟨v, h1, ws, h2, h3⟩ := h.tx t ht
    refine ⟨v, f.block _ _ (no _ (.inr (.inr (.inr (.inr (.inr ⟨t, ht, rfl⟩)))))) h1, ws, h2.move fun g hg => ?_, h3⟩
    obtain ⟨k1, k2, cells, hc⟩ := h2.typed g hg
    exact (f.block g _ (fun ho => by have := hO g ho k2; omega) hc).trans hc.symm
  · exact h.qinj
  · exact h.locks.fr f hlp (no _ (.inr (.inr (.inl rfl))))
  · obtain ⟨c, s, hc⟩ := h.lkind
    exact ⟨c, s, f.block _ _ hlp hc⟩
  · exact h.reads.frB f hO
  · exact h.dist
  · exact h.nums
  · exact h.few
  · exact h.ne1
  · exact h.ne2
  · exact h.ne3
  · exact h.low
section
variable {w w' : World} {base q p : Nat} {F U U' : Nat → Prop} {W : Wld St} {rv vv lv : Value} {xs : List Rx}
/-- a world that only others' operations have passed; its blocks are of another set now -/
theorem Wm.beside (h : Wm w base q p F U W rv vv lv xs) {O : Nat → Prop} (f : Fr O w w') (hO : ∀ k, O k → k < w.heap.size → k < base) (hU : ∀ k, U k → k < w.heap.size → U' k) (hT : Top U' w') : Wm w' base q p F U' W rv vv lv xs := by
  have lt : ∀ {α : Type} {enc : α → List Value} {m e : Nat} {v : Value} {l : List α}, Lo enc m e w base v l → Lo enc m e w' base v l := fun hl => hl.move fun b hb => by
    obtain ⟨hge, hlt, cs, hc⟩ := hl.typed b hb
    exact (f.block b _ (fun ho => by have := hO b ho hlt; omega) hc).trans hc.symm
  have uu : ∀ {α : Type} {enc : α → List Value} {m e : Nat} {v : Value} {l : List α}, Lo enc m e w base v l → (∀ b, v.ownBlock = some b → U b) → ∀ b, v.ownBlock = some b → U' b := fun hl hu b hb => hU b (hu b hb) (hl.typed b hb).2.1
  have qlt := (Array.getElem?_eq_some_iff.1 h.cells).1
  obtain ⟨l, hl1, hl2, hl3, P⟩ := h.m
  exact ⟨f.block q _ (fun ho => by have := hO q ho qlt; have := h.low; omega) h.cells, h.low, ⟨l, hl1, hl2, fun k hk => hU k (hl3 k hk) (P.lts k hk), P.frB f hO⟩, lt h.rows, lt h.vers, lt h.list, h.fst, fun x hx => lt (h.rd x hx), fun x hx => lt (h.wr x hx), h.rdd, h.wrd, h.wF, h.rF, fun b hb => Nat.lt_of_lt_of_le (h.Flt b hb) f.size, hU q h.qU qlt, uu h.vers h.vU, uu h.list h.lU, fun x hx => uu (h.rd x hx) (h.rdU x hx), fun x hx => uu (h.wr x hx) (h.wrU x hx), hT⟩
end
end Go.Proofs.YthaoedfalkebbaaGreat
