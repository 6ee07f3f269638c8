import Derived.Test.YteikmnokmcnmcaaSH
namespace Go.Proofs.Yteikmnokmcnmcaa
open Go.RowKit Go.Maps Go.Sort Go.Lib Go.Proofs.YteikmnokmcnmcaaW.PrintWords Go.Proofs.YteikmnokmcnmcaaW.PrintLast Go.Proofs.YteikmnokmcnmcaaW.PrintMore
set_option linter.unusedVariables false
set_option linter.unusedSimpArgs false
set_option linter.unusedSectionVars false
/-! ### DeleteFunc over a row of notes -/
instance : Inhabited Rd := ⟨⟨⟨#[]⟩, 0, ⟨#[]⟩, ⟨#[]⟩⟩⟩
theorem idx_cases (p : Rd → Bool) (xs : List Rd) : (xs.filter (fun y => !p y) = xs ∧ idxP p xs = -1) ∨ (∃ k, k < xs.length ∧ idxP p xs = (k : Int) ∧ p xs[k]! = true ∧ ∀ j, j < k → p xs[j]! = false) := by
  by_cases h : xs.findIdx p < xs.length
  · refine .inr ⟨xs.findIdx p, h, by rw [idxP, if_pos h], ?_, fun j hj => ?_⟩
    · rw [getElem!_pos xs _ h]
      exact List.findIdx_getElem
    · rw [getElem!_pos xs j (by omega)]
      have := List.not_of_lt_findIdx hj
      simpa using this
  · refine .inl ⟨?_, by rw [idxP, if_neg h]⟩
    rw [List.filter_eq_self]
    intro y hy
    have : xs.findIdx p = xs.length := Nat.le_antisymm List.findIdx_le_length (by omega)
    rw [List.findIdx_eq_length] at this
    rw [this y hy]; rfl
/-- what holds in the loop -/
structure DI (w : World) (base g c bx : Nat) (o : Obj) (p : Rd → Bool) (xs : List Rd) (j i : Nat) (ys : List Rd) (wr : World) : Prop where
  row : RowR wr base (.slice (some ⟨g, 0, none⟩) xs.length c) ys
  chg : w.grownBy wr (some g)
  kept : KeptInv (fun j => !p xs.toArray[j]!) xs.toArray j i ys.toArray
  box : wr.heap[bx]? = some o
theorem DI.len {w : World} {base g c bx : Nat} {o : Obj} {p : Rd → Bool} {xs : List Rd} {j i : Nat} {ys : List Rd} {wr : World} (h : DI w base g c bx o p xs j i ys wr) : ys.length = xs.length := by simpa using h.kept.size
theorem RowR.frozen {w : World} {base g n c : Nat} {xs : List Rd} (h : RowR w base (.slice (some ⟨g, 0, none⟩) n c) xs) (j : Nat) : w.frozen? ⟨g, j, none⟩ = false := by
  obtain ⟨_, _, cells, hc⟩ := h.typed g rfl
  exact blk_frozen hc j
set_option maxHeartbeats 8000000 in
set_option maxRecDepth 100000 in
theorem DeleteFunc_calls (base : Nat) (v : Value) (xs : List Rd) (p : Rd → Bool) (g : Nat) (bx : Nat) (o : Obj) (eg : ∀ args w, (callFunc g args).run Try.prog w = .ok (.enter g args) w) (w : World) (h : RowR w base v xs) (hl : xs.length ≤ 9223372036854775806) (hbx : w.heap[bx]? = some o) (hne : v.ownBlock ≠ some bx) (hp : PredB bx o g p xs) :
    Calls Try.prog 30 #[v, .func (.func g) #[] #[.pointer (some ⟨bx, 0, none⟩)]] w fun e w' => ∃ v', e = .returned v' ∧ RowR w' base v' (xs.filter fun y => !p y) ∧ w.grownBy w' v.ownBlock ∧ v'.ownBlock = v.ownBlock := by
  have C := IndexFunc_calls base v xs p g _ eg w h hl (hp.preds hbx)
  rcases idx_cases p xs with ⟨hf, hi⟩ | ⟨k0, hk0, hi, hp1, hp0⟩
  · rw [hi] at C
    rw [hf]
    go_enter Try.func30, Try.ntmps30
    go_wp2_with (go_at_call 48; refine C.mono ?_; rintro e w' ⟨rfl, hb⟩)
    go_ret
    exact ⟨_, rfl, h.grown (grown_of_below hb none) (by simp), grown_of_below hb _, rfl⟩
  · rw [hi] at C
    obtain ⟨A, c, rfl, hlc, hA⟩ := h.slice
    obtain ⟨gg, rfl, hgb⟩ := hA (by omega)
    have hgne : gg ≠ bx := fun e => hne (by rw [← e]; rfl)
    have hk0' : ¬ (k0 : Int) = -1 := by omega
    have hne1 : ((k0 : Int) == -1) = false := beq_eq_false_iff_ne.2 hk0'
    replace hp0 := Aside0.mk hp0
    go_enter Try.func30, Try.ntmps30
    go_wp2_with (go_at_call 48; refine C.mono ?_; rintro e w' ⟨rfl, hb⟩)
    go_loopw [5, 6, 7] (fun iv jv _ wr => ∃ (i j : Nat) (ys : List Rd), iv = .int .i64 i ∧ jv = .int .i64 j ∧ j ≤ xs.length ∧ DI w base gg c bx o p xs j i ys wr) (fun _ jv _ _ => xs.length - (intOf jv).toNat)
    case atStart =>
      refine ⟨k0, k0 + 1, xs, rfl, by go_num, by omega, h.grown (grown_of_below hb none) (by simp), grown_of_below hb _, KeptInv.start (fun j hj => ?_) ?_, (hb.block bx (Array.getElem?_eq_some_iff.1 hbx).1).trans hbx⟩
      · have := hp0.out j hj
        simpa using this
      · simpa using hp1
    case round =>
      clear C h hbx
      obtain ⟨i, j, ys, rfl, rfl, hj, I⟩ := hrel
      have hyl := I.len
      by_cases hjl : j < xs.length
      · have hjz : (j : Int) < (xs.length : Int) := by omega
        have hij := I.kept.lt
        obtain ⟨x, hx⟩ : ∃ x, x = xs[j] := ⟨_, rfl⟩
        have hyj : ys[j]? = some x := by
          have := I.kept.high j (by omega)
          rw [List.getElem?_eq_getElem (by omega), hx]
          have e1 : ys.toArray[j]! = ys[j]'(by omega) := by rw [getElem!_pos ys.toArray j (by simpa using (by omega : j < ys.length))]; simp
          have e2 : xs.toArray[j]! = xs[j] := by rw [getElem!_pos xs.toArray j (by simpa using hjl)]; simp
          rw [e1, e2] at this
          rw [this]
        obtain ⟨y0, y1, y2, y3⟩ := RowR.at I.row j x hyj
        obtain ⟨w1, hw1⟩ : ∃ w1, w1 = wr.alloc (.cells #[.string x.t, .int .i64 x.k, .string x.f, .string x.u] 23) := ⟨_, rfl⟩
        have B1 : Below wr.heap.size wr w1 := by rw [hw1]; exact boxed wr x
        have ob : w1.heap[wr.heap.size]? = some (boxR x) := by rw [hw1]; exact heap_alloc_new wr _
        have hcall := hp w1 x (by rw [hx]; exact List.getElem_mem hjl) ((B1.block bx (Array.getElem?_eq_some_iff.1 I.box).1).trans I.box)
        replace hx := Aside0.mk hx
        go_wp2_with fail
        rw [← hw1]
        clear hw1
        obtain ⟨b0, b1, b2, b3⟩ := rd_cells ob
        cases hq : p x with
        | true =>
          rw [hq] at hcall
          go_wp2_with fail
          refine hcall.mono ?_
          rintro e w2 ⟨rfl, hb'⟩
          have B2 := below_then B1 B1.size hb'
          go_wp2_with fail
          go_roundw
          case rel =>
            refine ⟨i, j + 1, ys, rfl, by go_num, by omega, I.row.grown (grown_of_below B2 none) (by simp), trans_grown I.chg (grown_of_below B2 _), I.kept.skip ?_, (B2.block bx (Array.getElem?_eq_some_iff.1 I.box).1).trans I.box⟩
            simp only [List.getElem!_toArray]
            rw [getElem!_pos xs j hjl, ← hx.out, hq]
            rfl
          case measure => simp [intOf]; omega
        | false =>
          rw [hq] at hcall
          go_wp2_with fail
          refine hcall.mono ?_
          rintro e w2 ⟨rfl, hb'⟩
          have B2 := below_then B1 B1.size hb'
          have R2 := I.row.grown (grown_of_below B2 none) (by simp)
          obtain ⟨z0, z1, z2, z3⟩ := RowR.at R2 i (ys[i]'(by omega)) (List.getElem?_eq_getElem (by omega))
          have fz := RowR.frozen R2
          obtain ⟨b0, b1, b2, b3⟩ := rd_cells ((hb'.block _ (Array.getElem?_eq_some_iff.1 ob).1).trans ob)
          have hin : i < xs.length := by omega
          have hinz : (i : Int) < (xs.length : Int) := by omega
          go_wp2_with fail
          go_roundw
          case rel =>
            refine ⟨i + 1, j + 1, ys.set i x, by go_num, by go_num, by omega, RowR.put R2 i (by omega) x, trans_grown (trans_grown I.chg (grown_of_below B2 _)) (put4_grown w2 gg i x), ?_, ?_⟩
            · have := I.kept.keep (by simpa using hjl) (by
                simp only [List.getElem!_toArray]
                rw [getElem!_pos xs j hjl, ← hx.out, hq]
                rfl)
              simp only [List.getElem!_toArray] at this
              rw [getElem!_pos xs j hjl, ← hx.out] at this
              simpa using this
            · show (put4 w2 gg i x).heap[bx]? = some o
              rw [(put4_grown w2 gg i x).block bx (Array.getElem?_eq_some_iff.1 ((B2.block bx (Array.getElem?_eq_some_iff.1 I.box).1).trans I.box)).1 (by simp; exact fun e => hgne e.symm)]
              exact (B2.block bx (Array.getElem?_eq_some_iff.1 I.box).1).trans I.box
          case measure => simp [intOf]; omega
      · obtain rfl : j = xs.length := by omega
        have hjz : ¬ (xs.length : Int) < (xs.length : Int) := by omega
        have hij := I.kept.lt
        have hci : ¬ c = i := by omega
        have hin : i ≤ xs.length := by omega
        obtain ⟨w3, hrun, R3, G3⟩ := clear_row I.row i hij 0
        have hfin : xs.filter (fun y => !p y) = ys.take i := by
          have h1 := keptUpTo_filter (fun y => !p y) xs.toArray
          have h2 := I.kept
          simp only [List.size_toArray] at h1
          have h3 : (keptUpTo (fun j => !p xs.toArray[j]!) xs.toArray xs.length).length = i := h2.len
          rw [show xs.filter (fun y => !p y) = keptUpTo (fun j => !p xs.toArray[j]!) xs.toArray xs.length from h1.symm]
          apply List.ext_getElem?
          intro t
          by_cases ht : t < i
          · rw [h2.low t ht, List.getElem?_take, if_pos ht, List.getElem!_toArray, getElem!_pos ys t (by omega), List.getElem?_eq_getElem]
          · rw [List.getElem?_eq_none (by omega), List.getElem?_eq_none (by simp; omega)]
        go_wp2
        go_ret
        exact ⟨_, rfl, R3, trans_grown I.chg G3, rfl⟩
end Go.Proofs.Yteikmnokmcnmcaa
