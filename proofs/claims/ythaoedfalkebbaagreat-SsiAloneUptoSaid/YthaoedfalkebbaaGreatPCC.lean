/- Cut by a program out of the seat's texts (SH SI K0 SJ SK SL SO SP K1 SU SV SW SX): what the theorem needs, one behind the other. -/
import Derived.Test.YthaoedfalkebbaaGreatPCB
import Derived.Lib.SlKept
import Derived.Shelf.SlGeneric
import Derived.Shelf.SortM.Plain
import Derived.Shelf.SortM.SortNone
import Derived.Shelf.SlicesE.Clone
import Derived.Shelf.SlicesE.Compact
import Derived.Shelf.SlMaps.Clone
import Derived.Ground.SlgnProg
import Derived.Ground.SlgmProg
import Derived.Ground.SlmcProg
import Derived.Test.YthaoedfalkebbaaGreatProg
import Derived.Shelf.SlSortCmp.NoneTotal
import Derived.Ground.SlsfProg
namespace Go.Proofs.YthaoedfalkebbaaGreat
open Go.RowKit Go.Maps Go.Sort Go.Lib Go.Proofs.YthaoedfalkebbaaGreatW.PrintWords Go.Proofs.YthaoedfalkebbaaGreatW.PrintLast Go.Proofs.YthaoedfalkebbaaGreatW.PrintMore
set_option linter.unusedVariables false
set_option linter.unusedSimpArgs false
set_option linter.unusedSectionVars false
def set4 (l : List Value) (i : Nat) (x : Rd) : List Value := (((l.set (i * 4) (.string x.t)).set (i * 4 + 1) (.int .i64 x.k)).set (i * 4 + 2) (.string x.f)).set (i * 4 + 3) (.string x.u)
theorem reps_set4 {xs : List Rd} {inner : List Value} (h : Reps (fun x cs => cs = cellsR x) 4 xs inner) (i : Nat) (hi : i < xs.length) (x : Rd) : Reps (fun x cs => cs = cellsR x) 4 (xs.set i x) (set4 inner i x) := by
  refine ⟨by simp [set4, h.1], fun j y hy => ?_⟩
  have hlen := h.1
  rw [List.getElem?_set] at hy
  by_cases e : i = j
  · subst e
    rw [if_pos rfl, if_pos hi] at hy
    injection hy with hy
    subst hy
    apply List.ext_getElem?
    intro t
    rw [List.getElem?_take, List.getElem?_drop]
    unfold set4 cellsR
    simp only [List.getElem?_set, List.length_set]
    match t with
    | 0 => rw [if_pos (by omega), if_neg (by omega), if_neg (by omega), if_neg (by omega), if_pos (by omega), if_pos (by omega)]; rfl
    | 1 => rw [if_pos (by omega), if_neg (by omega), if_neg (by omega), if_pos (by omega), if_pos (by omega)]; rfl
    | 2 => rw [if_pos (by omega), if_neg (by omega), if_pos (by omega), if_pos (by omega)]; rfl
    | 3 => rw [if_pos (by omega), if_pos (by omega), if_pos (by omega)]; rfl
    | t + 4 => rw [if_neg (by omega)]; rfl
  · rw [if_neg e] at hy
    have h2 : (inner.drop (j * 4)).take 4 = cellsR y := h.2 j y hy
    show ((set4 inner i x).drop (j * 4)).take 4 = cellsR y
    rw [← h2]
    apply List.ext_getElem?
    intro t
    rw [List.getElem?_take, List.getElem?_take, List.getElem?_drop, List.getElem?_drop]
    unfold set4
    simp only [List.getElem?_set, List.length_set]
    by_cases ht : t < 4
    · rw [if_pos ht, if_pos ht, if_neg (by omega), if_neg (by omega), if_neg (by omega), if_neg (by omega)]
    · rw [if_neg ht, if_neg ht]
def put4 (w : World) (g i : Nat) (x : Rd) : World := (((w.setCell ⟨g, i * 4, none⟩ (.string x.t)).setCell ⟨g, i * 4 + 1, none⟩ (.int .i64 x.k)).setCell ⟨g, i * 4 + 2, none⟩ (.string x.f)).setCell ⟨g, i * 4 + 3, none⟩ (.string x.u)
theorem put4_grown (w : World) (g i : Nat) (x : Rd) : w.grownBy (put4 w g i x) (some g) := trans_grown (trans_grown (trans_grown (grown_set w g _ _) (grown_set _ g _ _)) (grown_set _ g _ _)) (grown_set _ g _ _)
theorem RowR.put {w : World} {base g n c : Nat} {xs : List Rd} (h : RowR w base (.slice (some ⟨g, 0, none⟩) n c) xs) (i : Nat) (hi : i < xs.length) (x : Rd) : RowR (put4 w g i x) base (.slice (some ⟨g, 0, none⟩) n c) (xs.set i x) := by
  obtain ⟨inner, ⟨hl, hr⟩, hp⟩ := h
  refine ⟨set4 inner i x, ⟨by simp [set4, hl], ?_⟩, reps_set4 hp i hi x⟩
  rcases hr with ⟨h1, _⟩ | ⟨g', cap, cur, hv, hb, hh, hnc, hcm, hcs, ht⟩
  · cases h1
  · injection hv with e1 e2 e3
    injection e1 with e1
    injection e1 with e1
    subst e1
    subst e3
    refine .inr ⟨g, c, _, by rw [List.length_set, e2], hb, blk_set (blk_set (blk_set (blk_set hh _ _) _ _) _ _) _ _, by rw [List.length_set]; exact hnc, hcm, by simpa using hcs, ?_⟩
    rw [← ht, List.length_set]
    simp only [set4, Array.toList_setIfInBounds, List.take_set]
theorem zeros_len (z : Array Value) (n : Nat) : (Builtin.zeroCells z n).toList.length = n * z.size := by simp [Builtin.zeroCells]
theorem clear_row {w : World} {base g n c : Nat} {xs : List Rd} (h : RowR w base (.slice (some ⟨g, 0, none⟩) n c) xs) (i : Nat) (hi : i < n) (ty : TypeId) :
    ∃ w', (Builtin.clear_ #[118] ty #[.slice (some ⟨g, i * 4, none⟩) (n - i) (c - i)]).run Tryz.prog w = .ok (.tuple #[]) w' ∧ RowR w' base (.slice (some ⟨g, 0, none⟩) i c) (xs.take i) ∧ w.grownBy w' (some g) := by
  obtain ⟨inner, ⟨hl, hr⟩, hp⟩ := h
  rcases hr with ⟨h1, _⟩ | ⟨g', cap, cur, hv, hb, hh, hnc, hcm, hcs, ht⟩
  · cases h1
  · injection hv with e1 e2 e3
    injection e1 with e1
    injection e1 with e1
    subst e1
    subst e3
    subst e2
    obtain ⟨m, hm⟩ : ∃ m, xs.length - i = m + 1 := ⟨xs.length - i - 1, by omega⟩
    have hz := Tryz.zeroValue108
    obtain ⟨Z, hZ⟩ : ∃ Z, Z = (Builtin.zeroCells #[.string ⟨#[]⟩, .int .i64 0, .string ⟨#[]⟩, .string ⟨#[]⟩] (m + 1)).toList := ⟨_, rfl⟩
    have hZl : Z.length = (m + 1) * 4 := by rw [hZ, zeros_len]; rfl
    have hZ1 : ∀ v ∈ Z, v.oneCell' = true := by
      intro v hv
      rw [hZ] at hv
      simp only [Builtin.zeroCells, Array.mem_toList_iff, Array.mem_map] at hv
      obtain ⟨a, _, rfl⟩ := hv
      have : a % 4 < 4 := Nat.mod_lt _ (by omega)
      show (#[Value.string ⟨#[]⟩, .int .i64 0, .string ⟨#[]⟩, .string ⟨#[]⟩][a % 4]!).oneCell' = true
      generalize a % 4 = b at this
      match b, this with
      | 0, _ => rfl
      | 1, _ => rfl
      | 2, _ => rfl
      | 3, _ => rfl
    have hst := run_storeCells_at Tryz.prog g (i * 4) 108 Z 0 cur w hh (by omega) hZ1
    refine ⟨w.setRow g (cur.toList.take (i * 4 + 0) ++ Z ++ cur.toList.drop (i * 4 + 0 + Z.length)).toArray, ?_, ?_, ?_⟩
    · rw [hm]
      simp only [Builtin.clear_]
      simp only [List.getElem?_toArray, Nat.add_zero, List.append_assoc] at hst
      simp [run_underlying Tryz.underlying118, hz]
      rw [show (Value.agg #[Value.string ⟨#[]⟩, .int .i64 0, .string ⟨#[]⟩, .string ⟨#[]⟩]).cells = #[Value.string ⟨#[]⟩, .int .i64 0, .string ⟨#[]⟩, .string ⟨#[]⟩] from rfl, ← hZ, hst]
      rfl
    · refine ⟨inner.take (i * 4), ⟨by simp [hl] <;> omega, 
        .inr ⟨g, c, _, by rw [List.length_take, Nat.min_eq_left (by omega)], hb, setRow_heap w g cur _ 108 (0, 0) hh, by simp; omega, hcm, ?_, ?_⟩⟩, Kd.reps_take hp (by omega)⟩
      · simp [hZl]; omega
      · rw [← ht]
        simp only [List.length_take]
        rw [show min i xs.length = i by omega, Nat.add_zero, List.append_assoc, List.take_append_of_le_length (by simp; omega), List.take_take, List.take_take, show min (i * 4) (i * 4) = i * 4 by omega, show min (i * 4) (xs.length * 4) = i * 4 by omega]
    · exact ⟨rfl, rfl, rfl, by simp [World.setRow], fun j hj hne => by
        simp only [World.setRow]
        rw [Array.getElem?_modify, if_neg (fun e => hne (by rw [e]))]⟩
end Go.Proofs.YthaoedfalkebbaaGreat
namespace Go.Proofs.YthaoedfalkebbaaGreat
open Go.RowKit Go.Maps Go.Sort Go.Lib Go.Proofs.YthaoedfalkebbaaGreatW.PrintWords Go.Proofs.YthaoedfalkebbaaGreatW.PrintLast Go.Proofs.YthaoedfalkebbaaGreatW.PrintMore
set_option linter.unusedVariables false
set_option linter.unusedSimpArgs false
set_option linter.unusedSectionVars false
instance : Inhabited Rd := ⟨⟨⟨#[]⟩, 0, ⟨#[]⟩, ⟨#[]⟩⟩⟩
theorem idx_cases (p : Rd → Bool) (xs : List Rd) : (xs.filter (fun y => !p y) = xs ∧ idxP p xs = -1) ∨ (∃ k, k < xs.length ∧ idxP p xs = (k : Int) ∧ p xs[k]! = true ∧ ∀ j, j < k → p xs[j]! = false) := by
  by_cases h : xs.findIdx p < xs.length
  · refine .inr ⟨xs.findIdx p, h, by rw [idxP, if_pos h], ?_, fun j hj => ?_⟩
    · rw [getElem!_pos xs _ h]
      exact List.findIdx_getElem
    · rw [getElem!_pos xs j (by omega)]
      have := List.not_of_lt_findIdx hj
      simpa using this
  · refine .inl ⟨?_, by rw [idxP, if_neg h]⟩
    rw [List.filter_eq_self]
    intro y hy
    have : xs.findIdx p = xs.length := Nat.le_antisymm List.findIdx_le_length (by omega)
    rw [List.findIdx_eq_length] at this
    rw [this y hy]; rfl
/-- what holds in the loop -/
structure DI (w : World) (base g c bx : Nat) (o : Obj) (p : Rd → Bool) (xs : List Rd) (j i : Nat) (ys : List Rd) (wr : World) : Prop where
  row : RowR wr base (.slice (some ⟨g, 0, none⟩) xs.length c) ys
  chg : w.grownBy wr (some g)
  kept : KeptInv (fun j => !p xs.toArray[j]!) xs.toArray j i ys.toArray
  box : wr.heap[bx]? = some o
theorem DI.len {w : World} {base g c bx : Nat} {o : Obj} {p : Rd → Bool} {xs : List Rd} {j i : Nat} {ys : List Rd} {wr : World} (h : DI w base g c bx o p xs j i ys wr) : ys.length = xs.length := by simpa using h.kept.size
theorem RowR.frozen {w : World} {base g n c : Nat} {xs : List Rd} (h : RowR w base (.slice (some ⟨g, 0, none⟩) n c) xs) (j : Nat) : w.frozen? ⟨g, j, none⟩ = false := by
  obtain ⟨_, _, cells, hc⟩ := h.typed g rfl
  exact blk_frozen hc j
set_option maxHeartbeats 8000000 in
set_option maxRecDepth 100000 in
theorem DeleteFunc_calls (base : Nat) (v : Value) (xs : List Rd) (p : Rd → Bool) (g : Nat) (bx : Nat) (o : Obj) (eg : ∀ args w, (callFunc g args).run Tryz.prog w = .ok (.enter g args) w) (w : World) (h : RowR w base v xs) (hl : xs.length ≤ 9223372036854775806) (hbx : w.heap[bx]? = some o) (hne : v.ownBlock ≠ some bx) (hp : PredB bx o g p xs) :
    Calls Tryz.prog 111 #[v, .func (.func g) #[] #[.pointer (some ⟨bx, 0, none⟩)]] w fun e w' => ∃ v', e = .returned v' ∧ RowR w' base v' (xs.filter fun y => !p y) ∧ w.grownBy w' v.ownBlock ∧ v'.ownBlock = v.ownBlock := by
  have C := IndexFunc_calls base v xs p g _ eg w h hl (hp.preds hbx)
  rcases idx_cases p xs with ⟨hf, hi⟩ | ⟨k0, hk0, hi, hp1, hp0⟩
  · rw [hi] at C
    rw [hf]
    go_enter Tryz.func111, Tryz.ntmps111
    go_wp2_with (go_at_call 135; refine C.mono ?_; rintro e w' ⟨rfl, hb⟩)
    go_ret
    exact ⟨_, rfl, h.grown (grown_of_below hb none) (by simp), grown_of_below hb _, rfl⟩
  · rw [hi] at C
    obtain ⟨A, c, rfl, hlc, hA⟩ := h.slice
    obtain ⟨gg, rfl, hgb⟩ := hA (by omega)
    have hgne : gg ≠ bx := fun e => hne (by rw [← e]; rfl)
    have hk0' : ¬ (k0 : Int) = -1 := by omega
    have hne1 : ((k0 : Int) == -1) = false := beq_eq_false_iff_ne.2 hk0'
    replace hp0 := Aside0.mk hp0
    go_enter Tryz.func111, Tryz.ntmps111
    go_wp2_with (go_at_call 135; refine C.mono ?_; rintro e w' ⟨rfl, hb⟩)
    go_loopw [5, 6, 7] (fun iv jv _ wr => ∃ (i j : Nat) (ys : List Rd), iv = .int .i64 i ∧ jv = .int .i64 j ∧ j ≤ xs.length ∧ DI w base gg c bx o p xs j i ys wr) (fun _ jv _ _ => xs.length - (intOf jv).toNat)
    case atStart =>
      refine ⟨k0, k0 + 1, xs, rfl, by go_num, by omega, h.grown (grown_of_below hb none) (by simp), grown_of_below hb _, KeptInv.start (fun j hj => ?_) ?_, (hb.block bx (Array.getElem?_eq_some_iff.1 hbx).1).trans hbx⟩
      · have := hp0.out j hj
        simpa using this
      · simpa using hp1
    case round =>
      clear C h hbx
      obtain ⟨i, j, ys, rfl, rfl, hj, I⟩ := hrel
      have hyl := I.len
      by_cases hjl : j < xs.length
      · have hjz : (j : Int) < (xs.length : Int) := by omega
        have hij := I.kept.lt
        obtain ⟨x, hx⟩ : ∃ x, x = xs[j] := ⟨_, rfl⟩
        have hyj : ys[j]? = some x := by
          have := I.kept.high j (by omega)
          rw [List.getElem?_eq_getElem (by omega), hx]
          have e1 : ys.toArray[j]! = ys[j]'(by omega) := by rw [getElem!_pos ys.toArray j (by simpa using (by omega : j < ys.length))]; simp
          have e2 : xs.toArray[j]! = xs[j] := by rw [getElem!_pos xs.toArray j (by simpa using hjl)]; simp
          rw [e1, e2] at this
          rw [this]
        obtain ⟨y0, y1, y2, y3⟩ := RowR.at I.row j x hyj
        obtain ⟨w1, hw1⟩ : ∃ w1, w1 = wr.alloc (.cells #[.string x.t, .int .i64 x.k, .string x.f, .string x.u] 108) := ⟨_, rfl⟩
        have B1 : Below wr.heap.size wr w1 := by rw [hw1]; exact boxed wr x
        have ob : w1.heap[wr.heap.size]? = some (boxR x) := by rw [hw1]; exact heap_alloc_new wr _
        have hcall := hp w1 x (by rw [hx]; exact List.getElem_mem hjl) ((B1.block bx (Array.getElem?_eq_some_iff.1 I.box).1).trans I.box)
        replace hx := Aside0.mk hx
        go_wp2_with fail
        rw [← hw1]
        clear hw1
        obtain ⟨b0, b1, b2, b3⟩ := rd_cells ob
        cases hq : p x with
        | true =>
          rw [hq] at hcall
          go_wp2_with fail
          refine hcall.mono ?_
          rintro e w2 ⟨rfl, hb'⟩
          have B2 := below_then B1 B1.size hb'
          go_wp2_with fail
          go_roundw
          case rel =>
            refine ⟨i, j + 1, ys, rfl, by go_num, by omega, I.row.grown (grown_of_below B2 none) (by simp), trans_grown I.chg (grown_of_below B2 _), I.kept.skip ?_, (B2.block bx (Array.getElem?_eq_some_iff.1 I.box).1).trans I.box⟩
            simp only [List.getElem!_toArray]
            rw [getElem!_pos xs j hjl, ← hx.out, hq]
            rfl
          case measure => simp [intOf]; omega
        | false =>
          rw [hq] at hcall
          go_wp2_with fail
          refine hcall.mono ?_
          rintro e w2 ⟨rfl, hb'⟩
          have B2 := below_then B1 B1.size hb'
          have R2 := I.row.grown (grown_of_below B2 none) (by simp)
          obtain ⟨z0, z1, z2, z3⟩ := RowR.at R2 i (ys[i]'(by omega)) (List.getElem?_eq_getElem (by omega))
          have fz := RowR.frozen R2
          obtain ⟨b0, b1, b2, b3⟩ := rd_cells ((hb'.block _ (Array.getElem?_eq_some_iff.1 ob).1).trans ob)
          have hin : i < xs.length := by omega
          have hinz : (i : Int) < (xs.length : Int) := by omega
          go_wp2_with fail
          go_roundw
          case rel =>
            refine ⟨i + 1, j + 1, ys.set i x, by go_num, by go_num, by omega, RowR.put R2 i (by omega) x, trans_grown (trans_grown I.chg (grown_of_below B2 _)) (put4_grown w2 gg i x), ?_, ?_⟩
            · have := I.kept.keep (by simpa using hjl) (by
                simp only [List.getElem!_toArray]
                rw [getElem!_pos xs j hjl, ← hx.out, hq]
                rfl)
              simp only [List.getElem!_toArray] at this
              rw [getElem!_pos xs j hjl, ← hx.out] at this
              simpa using this
            · show (put4 w2 gg i x).heap[bx]? = some o
              rw [(put4_grown w2 gg i x).block bx (Array.getElem?_eq_some_iff.1 ((B2.block bx (Array.getElem?_eq_some_iff.1 I.box).1).trans I.box)).1 (by simp; exact fun e => hgne e.symm)]
              exact (B2.block bx (Array.getElem?_eq_some_iff.1 I.box).1).trans I.box
          case measure => simp [intOf]; omega
      · obtain rfl : j = xs.length := by omega
        have hjz : ¬ (xs.length : Int) < (xs.length : Int) := by omega
        have hij := I.kept.lt
        have hci : ¬ c = i := by omega
        have hin : i ≤ xs.length := by omega
        obtain ⟨w3, hrun, R3, G3⟩ := clear_row I.row i hij 0
        have hfin : xs.filter (fun y => !p y) = ys.take i := by
          have h1 := keptUpTo_filter (fun y => !p y) xs.toArray
          have h2 := I.kept
          simp only [List.size_toArray] at h1
          have h3 : (keptUpTo (fun j => !p xs.toArray[j]!) xs.toArray xs.length).length = i := h2.len
          rw [show xs.filter (fun y => !p y) = keptUpTo (fun j => !p xs.toArray[j]!) xs.toArray xs.length from h1.symm]
          apply List.ext_getElem?
          intro t
          by_cases ht : t < i
          · rw [h2.low t ht, List.getElem?_take, if_pos ht, List.getElem!_toArray, getElem!_pos ys t (by omega), List.getElem?_eq_getElem]
          · rw [List.getElem?_eq_none (by omega), List.getElem?_eq_none (by simp; omega)]
        go_wp2
        go_ret
        exact ⟨_, rfl, R3, trans_grown I.chg G3, rfl⟩
end Go.Proofs.YthaoedfalkebbaaGreat
namespace Go.Proofs
open Go.Shelf
def Tryz.sortI_ren : Go.Shelf.Ren := ⟨fun | 5 => 63 | 8 => 105 | 7 => 104 | 19 => 150 | 20 => 151 | 10 => 141 | 11 => 142 | 12 => 143 | 13 => 144 | 14 => 145 | 15 => 146 | 16 => 147 | 17 => 148 | 18 => 149 | 30 => 180 | 31 => 181 | 32 => 182 | 33 => 183 | 34 => 184 | 35 => 185 | 40 => 202 | n => n, fun | 23 => 63 | 25 => 2 | 3 => 3 | 32 => 176 | 22 => 63 | 0 => 0 | 44 => 215 | 46 => 217 | 4 => 4 | 36 => 207 | 35 => 206 | 41 => 212 | 5 => 5 | 9 => 9 | 53 => 247 | 57 => 251 | 63 => 266 | 64 => 185 | n => n, fun | n => n⟩
theorem Tryz.sortI : Go.Proofs.SlLaysM.n5 Tryz.prog Tryz.sortI_ren := {
  mixed := by kernel_rfl
  f5 := ⟨Tryz.f63.name, by decide, Tryz.func63.trans (congrArg some (by kernel_rfl))⟩
  f7 := ⟨Tryz.f104.name, by decide, Tryz.func104.trans (congrArg some (by kernel_rfl))⟩
  f8 := Tryz.func105.trans (congrArg some (by kernel_rfl))
  f10 := ⟨Tryz.f141.name, by decide, Tryz.func141.trans (congrArg some (by kernel_rfl))⟩
  f11 := ⟨Tryz.f142.name, by decide, Tryz.func142.trans (congrArg some (by kernel_rfl))⟩
  f12 := ⟨Tryz.f143.name, by decide, Tryz.func143.trans (congrArg some (by kernel_rfl))⟩
  f13 := ⟨Tryz.f144.name, by decide, Tryz.func144.trans (congrArg some (by kernel_rfl))⟩
  f14 := ⟨Tryz.f145.name, by decide, Tryz.func145.trans (congrArg some (by kernel_rfl))⟩
  f15 := ⟨Tryz.f146.name, by decide, Tryz.func146.trans (congrArg some (by kernel_rfl))⟩
  f16 := ⟨Tryz.f147.name, by decide, Tryz.func147.trans (congrArg some (by kernel_rfl))⟩
  f17 := ⟨Tryz.f148.name, by decide, Tryz.func148.trans (congrArg some (by kernel_rfl))⟩
  f18 := ⟨Tryz.f149.name, by decide, Tryz.func149.trans (congrArg some (by kernel_rfl))⟩
  f19 := Tryz.func150.trans (congrArg some (by kernel_rfl))
  f20 := Tryz.func151.trans (congrArg some (by kernel_rfl))
  f30 := ⟨Tryz.f180.name, by decide, Tryz.func180.trans (congrArg some (by kernel_rfl))⟩
  f31 := Tryz.func181.trans (congrArg some (by kernel_rfl))
  f32 := Tryz.func182.trans (congrArg some (by kernel_rfl))
  f33 := ⟨Tryz.f183.name, by decide, Tryz.func183.trans (congrArg some (by kernel_rfl))⟩
  f34 := ⟨Tryz.f184.name, by decide, Tryz.func184.trans (congrArg some (by kernel_rfl))⟩
  f35 := ⟨Tryz.f185.name, by decide, Tryz.func185.trans (congrArg some (by kernel_rfl))⟩
  f40 := ⟨Tryz.f202.name, by decide, Tryz.func202.trans (congrArg some (by kernel_rfl))⟩
  t0 := Tryz.underlying0
  a0 := Tryz.isAgg0
  z0 := Tryz.sizeOf0
  v0 := Tryz.zeroValue0
  t3 := Tryz.underlying3
  a3 := Tryz.isAgg3
  z3 := Tryz.sizeOf3
  v3 := Tryz.zeroValue3
  t4 := Tryz.underlying4
  a4 := Tryz.isAgg4
  z4 := Tryz.sizeOf4
  v4 := Tryz.zeroValue4
  t5 := Tryz.underlying5
  a5 := Tryz.isAgg5
  z5 := Tryz.sizeOf5
  v5 := Tryz.zeroValue5
  t9 := Tryz.underlying9
  a9 := Tryz.isAgg9
  z9 := Tryz.sizeOf9
  v9 := Tryz.zeroValue9
  t22 := Tryz.underlying63
  a22 := Tryz.isAgg63
  z22 := Tryz.sizeOf63
  v22 := Tryz.zeroValue63
  t23 := Tryz.underlying63
  a23 := Tryz.isAgg63
  z23 := Tryz.sizeOf63
  v23 := Tryz.zeroValue63
  t25 := Tryz.underlying2
  a25 := Tryz.isAgg2
  z25 := Tryz.sizeOf2
  v25 := Tryz.zeroValue2
  t32 := Tryz.underlying176
  a32 := Tryz.isAgg176
  z32 := Tryz.sizeOf176
  v32 := Tryz.zeroValue176
  t35 := Tryz.underlying206
  a35 := Tryz.isAgg206
  z35 := Tryz.sizeOf206
  v35 := Tryz.zeroValue206
  t36 := Tryz.underlying207
  a36 := Tryz.isAgg207
  z36 := Tryz.sizeOf207
  v36 := Tryz.zeroValue207
  t41 := Tryz.underlying212
  a41 := Tryz.isAgg212
  z41 := Tryz.sizeOf212
  v41 := Tryz.zeroValue212
  t44 := Tryz.underlying215
  a44 := Tryz.isAgg215
  z44 := Tryz.sizeOf215
  v44 := Tryz.zeroValue215
  t46 := Tryz.underlying217
  a46 := Tryz.isAgg217
  z46 := Tryz.sizeOf217
  v46 := Tryz.zeroValue217
  t53 := Tryz.underlying247
  a53 := Tryz.isAgg247
  z53 := Tryz.sizeOf247
  v53 := Tryz.zeroValue247
  t57 := Tryz.underlying251
  a57 := Tryz.isAgg251
  z57 := Tryz.sizeOf251
  v57 := Tryz.zeroValue251
  t63 := Tryz.underlying266
  a63 := Tryz.isAgg266
  z63 := Tryz.sizeOf266
  v63 := Tryz.zeroValue266
  t64 := Tryz.underlying185
  a64 := Tryz.isAgg185
  z64 := Tryz.sizeOf185
  v64 := Tryz.zeroValue185 }
def Tryz.compactI_ren : Go.Shelf.Ren := ⟨fun | 43 => 136 | n => n, fun | 22 => 63 | 23 => 2 | 3 => 3 | 4 => 4 | 0 => 0 | n => n, fun | n => n⟩
theorem Tryz.compactI : Go.Proofs.SlLaysE.n43 Tryz.prog Tryz.compactI_ren := {
  mixed := by kernel_rfl
  f43 := ⟨Tryz.f136.name, by decide, Tryz.func136.trans (congrArg some (by kernel_rfl))⟩
  t0 := Tryz.underlying0
  a0 := Tryz.isAgg0
  z0 := Tryz.sizeOf0
  v0 := Tryz.zeroValue0
  t3 := Tryz.underlying3
  a3 := Tryz.isAgg3
  z3 := Tryz.sizeOf3
  v3 := Tryz.zeroValue3
  t4 := Tryz.underlying4
  a4 := Tryz.isAgg4
  z4 := Tryz.sizeOf4
  v4 := Tryz.zeroValue4
  t22 := Tryz.underlying63
  a22 := Tryz.isAgg63
  z22 := Tryz.sizeOf63
  v22 := Tryz.zeroValue63
  a23 := Tryz.isAgg2
  z23 := Tryz.sizeOf2 }
def Tryz.cloneR_ren : Go.Shelf.Ren := ⟨fun | 41 => 112 | n => n, fun | 22 => 118 | 23 => 108 | 4 => 4 | n => n, fun | n => n⟩
theorem Tryz.cloneR : Go.Proofs.SlLaysE0.n41 Tryz.prog Tryz.cloneR_ren := {
  mixed := by kernel_rfl
  f41 := ⟨Tryz.f112.name, by decide, Tryz.func112.trans (congrArg some (by kernel_rfl))⟩
  t4 := Tryz.underlying4
  a4 := Tryz.isAgg4
  z4 := Tryz.sizeOf4
  v4 := Tryz.zeroValue4
  t22 := Tryz.underlying118
  a22 := Tryz.isAgg118
  z22 := Tryz.sizeOf118
  v22 := Tryz.zeroValue118 }
def Tryz.cloneMap_ren : Go.Shelf.Ren := ⟨fun | 5 => 114 | 7 => 106 | n => n, fun | 23 => 148 | 25 => 156 | 3 => 118 | 4 => 4 | 20 => 20 | n => n, fun | n => n⟩
theorem Tryz.cloneMap : Go.Proofs.SlLaysW.n5 Tryz.prog Tryz.cloneMap_ren := {
  mixed := by kernel_rfl
  f5 := ⟨Tryz.f114.name, by decide, Tryz.func114.trans (congrArg some (by kernel_rfl))⟩
  f7 := Tryz.func106.trans (congrArg some (by kernel_rfl))
  t4 := Tryz.underlying4
  a4 := Tryz.isAgg4
  z4 := Tryz.sizeOf4
  v4 := Tryz.zeroValue4
  t20 := Tryz.underlying20
  a20 := Tryz.isAgg20
  z20 := Tryz.sizeOf20
  v20 := Tryz.zeroValue20
  t23 := Tryz.underlying148
  a23 := Tryz.isAgg148
  z23 := Tryz.sizeOf148
  v23 := Tryz.zeroValue148 }
end Go.Proofs
namespace Go.Proofs.YthaoedfalkebbaaGreat
open Go.RowKit Go.Maps Go.Sort Go.Lib Go.Proofs.YthaoedfalkebbaaGreatW.PrintWords Go.Proofs.YthaoedfalkebbaaGreatW.PrintLast Go.Proofs.YthaoedfalkebbaaGreatW.PrintMore
set_option linter.unusedVariables false
set_option linter.unusedSimpArgs false
set_option linter.unusedSectionVars false
theorem info2 : (Tryz.prog.info? 2).map (fun i => (i.zero, i.size, i.bytes)) = some (some (.int .i64 0), 1, 8) := by kernel_rfl
theorem info23 : (Tryz.prog.info? 108).map (fun i => (i.zero, i.size, i.bytes)) = some (some (.agg #[.string ⟨#[]⟩, .int .i64 0, .string ⟨#[]⟩, .string ⟨#[]⟩]), 4, 56) := by kernel_rfl
def encI (x : Int) : List Value := [.int .i64 x]
theorem encI_one (x : Int) : ∀ u ∈ encI x, u.oneCell' = true := fun u hu => by simp [encI] at hu; rw [hu]; rfl
def dI : Kd Int := Kd.flat encI 1 (fun _ => rfl) encI_one
set_option maxRecDepth 100000 in
theorem sortI_calls (W : World) (base : Nat) (ok : Nat → Prop) (v : Value) (xs : List Int) (h : dI.R 2 W base ok v xs) (hl : xs.length < 4611686018427387904) :
    Calls Tryz.prog 63 #[v] W fun e w' => e = .returned (.tuple #[]) ∧ dI.R 2 w' base ok v (xs.mergeSort fun x y => decide (x ≤ y)) ∧ W.grownBy w' v.ownBlock := by
  obtain ⟨inner, ho⟩ := Kd.R_own h
  rcases ho.2 with ⟨rfl, hn⟩ | ⟨g, cap, cur, rfl, hb, hh, _⟩
  · obtain rfl : xs = [] := List.eq_nil_of_length_eq_zero hn
    refine (AnyM.slices_Sort_int_none Tryz.sortI none 0 W).mono ?_
    rintro e w' ⟨rfl, rfl⟩
    exact ⟨rfl, by rw [List.mergeSort_nil]; exact Kd.R_nil _ _ _ _ _, ⟨rfl, rfl, rfl, Nat.le_refl _, fun _ _ _ => rfl⟩⟩
  · have hlt : g < W.heap.size := (Array.getElem?_eq_some_iff.1 hh).1
    have hcon := AnyM.slices_Sort_int Tryz.sortI g 0 cap xs W (one_holds (enc := Value.int .i64) h) hlt hl
    refine Calls.mono hcon ?_
    rintro e w' ⟨rfl, n, os, rfl⟩
    have hl2 : (xs.mergeSort fun x y => decide (x ≤ y)).length = xs.length := by simp
    obtain ⟨h2, h3⟩ := one_put (enc := Value.int .i64) h hl2 n os
    rw [hl2] at h2
    exact ⟨rfl, h2, h3⟩
set_option maxRecDepth 100000 in
theorem compactI_none (W : World) : Calls Tryz.prog 136 #[.slice none 0 0] W fun e w' => e = .returned (.slice none 0 0) ∧ W = w' := by
  go_enter Tryz.func136, Tryz.ntmps136
  go_wp2
  go_ret
  exact ⟨rfl, rfl⟩
set_option maxRecDepth 100000 in
theorem compactI_calls (W : World) (base : Nat) (ok : Nat → Prop) (v : Value) (xs : List Int) (h : dI.R 2 W base ok v xs) (hl : xs.length < 4611686018427387904) :
    Calls Tryz.prog 136 #[v] W fun e w' => ∃ v', e = .returned v' ∧ dI.R 2 w' base ok v' (compactUpTo xs.toArray xs.length) ∧ W.grownBy w' v.ownBlock ∧ v'.ownBlock = v.ownBlock := by
  obtain ⟨inner, ho⟩ := Kd.R_own h
  rcases ho.2 with ⟨rfl, hn⟩ | ⟨g, cap, cur, rfl, hb, hh, hnc, _⟩
  · obtain rfl : xs = [] := List.eq_nil_of_length_eq_zero hn
    refine (compactI_none W).mono ?_
    rintro e w' ⟨rfl, rfl⟩
    exact ⟨_, rfl, by rw [show compactUpTo ([] : List Int).toArray ([] : List Int).length = [] from rfl]; exact Kd.R_nil _ _ _ _ _, ⟨rfl, rfl, rfl, Nat.le_refl _, fun _ _ _ => rfl⟩, rfl⟩
  · have hcon := AnyE.slices_Compact Tryz.compactI (Value.int .i64) (fun _ => rfl) (EqlAt.intD _ _ _) (NeqAt.intD _ _ _) 0 Tryz.zeroValue2 g 0 cap xs.toArray W (one_holds (enc := Value.int .i64) h) (by simp; omega) (by simpa using hnc)
    refine Calls.mono hcon ?_
    rintro e w' ⟨rfl, q, rfl⟩
    have hcl : (compactUpTo xs.toArray xs.length).length ≤ xs.length := by
      unfold compactUpTo
      rw [List.length_map]
      exact Nat.le_trans (List.length_filter_le _ _) (by simp)
    have hl2 : (compactUpTo xs.toArray xs.toArray.size ++ List.replicate (xs.toArray.size - (compactUpTo xs.toArray xs.toArray.size).length) (0 : Int)).length = xs.length := by
      have e0 : xs.toArray.size = xs.length := by simp
      rw [List.length_append, List.length_replicate, e0]
      omega
    obtain ⟨h2, h3⟩ := one_put (enc := Value.int .i64) h hl2 q #[]
    rw [grow_empty] at h2 h3
    refine ⟨_, rfl, ?_, h3, rfl⟩
    have h4 := Kd.R_take h2 (m := (compactUpTo xs.toArray xs.toArray.size).length) (by rw [List.length_append]; omega)
    rw [List.take_left] at h4
    exact h4
section
variable {ops : Array Oper} {rest : List Oper} {o : Oper} {a : Act} {Q : Exit → Act → World → Prop}
theorem appI {w W : World} {z : Nat} {s x : Operand} {v : Value} {xs : List Int} {y : Int} {ok : Nat → Prop} (hgd : o.guard = none) (ho : o.op = .call { callee := .builtin .append, args := #[s, x], argTypes := #[63, 63] })
    (hs : a.eval s = v) (hx : a.eval x = .slice (some ⟨z, 0, none⟩) 1 1) (HO : dI.R 2 W w.heap.size ok v xs) (HB : Below w.heap.size w W) (hl : xs.length ≤ 65536) (hz : W.heap.size = z) (hfresh : ∀ k, W.heap.size ≤ k → ok k)
    (h : ∀ v1 w1, dI.R 2 w1 w.heap.size ok v1 (xs ++ [y]) → Below w.heap.size w w1 → W.grownBy w1 v.ownBlock → wpList Tryz.prog ops Q rest (a.put o.dst v1) w1) : wpList Tryz.prog ops Q (o :: rest) a (W.alloc (.cells #[.int .i64 y] 2)) := by
  subst hz
  refine Kd.R_append dI (w0 := w) w.heap.size hgd s x 63 2 _ 8 ho Tryz.underlying63 info2 rfl (by decide) (by decide) v xs y [.int .i64 y] ok (fun _ => False) hs hx rfl (fun _ hk => hk.elim) hfresh HO HB HB.size (by omega) ?_
  intro v1 w1 h1 h2 h3 _
  exact h v1 w1 h1 h2 h3
end
set_option maxHeartbeats 1000000 in
set_option maxRecDepth 100000 in
theorem rising_calls (W : World) (base : Nat) (ok : Nat → Prop) (v : Value) (xs : List Int) (h : dI.R 2 W base ok v xs) (hl : xs.length < 4611686018427387904) :
    Calls Tryz.prog 91 #[v] W fun e w' => ∃ v', e = .returned v' ∧ dI.R 2 w' base ok v' (rise xs) ∧ W.grownBy w' v.ownBlock ∧ v'.ownBlock = v.ownBlock := by
  have S := sortI_calls W base ok v xs h hl
  go_enter Tryz.func91, Tryz.ntmps91
  go_wp2_with fail
  refine S.mono ?_
  rintro e w1 ⟨rfl, h1, g1⟩
  have C := compactI_calls w1 base ok v _ h1 (by rw [List.length_mergeSort]; exact hl)
  go_wp2_with fail
  refine C.mono ?_
  rintro e w2 ⟨v', rfl, h2, g2, h3⟩
  go_wp2
  go_ret
  rw [List.length_mergeSort] at h2
  exact ⟨_, rfl, h2, trans_grown g1 g2, h3⟩
theorem cellsR_one (x : Rd) : ∀ u ∈ cellsR x, u.oneCell' = true := fun u hu => by
  simp [cellsR] at hu
  rcases hu with rfl | rfl | rfl | rfl <;> rfl
set_option maxRecDepth 100000 in
theorem cloneR_calls (W : World) (base : Nat) (v : Value) (xs : List Rd) (h : RowR W base v xs) (hl : xs.length * 56 ≤ 140737488355328) :
    Calls Tryz.prog 112 #[v] W fun e w' => ∃ v', e = .returned v' ∧ RowR w' W.heap.size v' xs ∧ Below W.heap.size W w' := by
  obtain ⟨inner, ho, hr⟩ := h
  obtain ⟨i0, hi0, hzz⟩ := Option.map_eq_some_iff.1 info23
  simp only [Prod.mk.injEq] at hzz
  obtain ⟨hz0, hz1, hz2⟩ := hzz
  have ho' := ho
  rcases ho'.2 with ⟨rfl, hn⟩ | ⟨g, cap, cur, rfl, hb, hh, hnc, _⟩
  · obtain rfl : xs = [] := List.eq_nil_of_length_eq_zero hn
    refine (AnyE.slices_Clone_nil Tryz.cloneR 0 0 W).mono ?_
    rintro e w' ⟨rfl, rfl⟩
    exact ⟨_, rfl, Lo.nil _ _, Below.refl _ _⟩
  · have hcon := AnyE.slices_Clone Tryz.cloneR i0 _ 4 56 hi0 hz0 hz1 hz2 rfl (by omega) Tryz.sizeOf108 g 0 xs.length cap inner W ho.1 (by simp only [maxLen]; omega) hl
      (fun j u hu => by
        rw [Nat.zero_add]
        exact l_cells ho j u hu) (fun u hu => by
        obtain ⟨j, hj⟩ := List.mem_iff_getElem?.1 hu
        have hjl : j < xs.length * 4 := by rw [← ho.1]; exact (List.getElem?_eq_some_iff.1 hj).1
        have hd : j / 4 < xs.length := by omega
        have h3 : (inner.drop (j / 4 * 4)).take 4 = cellsR xs[j / 4] := hr.2 (j / 4) _ (List.getElem?_eq_getElem hd)
        have h4 : ((inner.drop (j / 4 * 4)).take 4)[j % 4]? = inner[j]? := by rw [List.getElem?_take, if_pos (by omega), List.getElem?_drop, show j / 4 * 4 + j % 4 = j by omega]
        rw [h3, hj] at h4
        exact cellsR_one _ u (List.mem_of_getElem? h4))
    refine Calls.mono hcon ?_
    rintro e w' ⟨v', rfl, h1, _, h3⟩
    exact ⟨v', rfl, ⟨inner, l_of_own h1, hr⟩, h3⟩
theorem cloneMap_calls (W : World) (b n : Nat) (L : List (Pl × Sv)) (h : TabN W b n L) : Calls Tryz.prog 114 #[.map (some b)] W fun e w' => e = .returned (.map (some W.heap.size)) ∧ TabN w' W.heap.size n L ∧ TabN w' b n L ∧ Below W.heap.size W w' := by
  obtain ⟨D, h1, h2⟩ := h
  refine Calls.mono (AnyW.maps_Clone_owns Tryz.cloneMap 156 rS b n D W h1) ?_
  rintro e w' ⟨rfl, h3, h4, h5⟩
  exact ⟨rfl, ⟨D, h3, h2⟩, ⟨D, h4, h2⟩, h5⟩
end Go.Proofs.YthaoedfalkebbaaGreat
namespace Go.Proofs.YthaoedfalkebbaaGreat
open Go.RowKit Go.Maps Go.Sort Go.Lib Go.Proofs.YthaoedfalkebbaaGreatW.PrintWords Go.Proofs.YthaoedfalkebbaaGreatW.PrintLast Go.Proofs.YthaoedfalkebbaaGreatW.PrintMore
set_option linter.unusedVariables false
set_option linter.unusedSimpArgs false
set_option linter.unusedSectionVars false
theorem Mr.row {w : World} {base p b : Nat} {most many : Int} {L : List (Pl × Sv)} {R : Pl → List Rd} (h : Mr w base p b most many L R) (q : Pl) : RowR w base (mvS ((got L q).getD none)) (R q) := by
  cases hg : got L q with
  | none => rw [h.off q hg]; exact Lo.nil _ _
  | some s => exact h.rows (q, s) (got_mem hg)
theorem Mr.goodAt {w : World} {base p b : Nat} {most many : Int} {L : List (Pl × Sv)} {R : Pl → List Rd} (h : Mr w base p b most many L R) (q : Pl) : ∀ x ∈ R q, x.OK := by
  cases hg : got L q with
  | none => rw [h.off q hg]; intro x hx; cases hx
  | some s => exact h.good (q, s) (got_mem hg)
/-- a manager, kept by what leaves its block, its map and its rows -/
theorem Mr.kept {w w' : World} {base p b : Nat} {most many : Int} {L : List (Pl × Sv)} {R : Pl → List Rd} (h : Mr w base p b most many L R) (hg : w.grownBy w' none) : Mr w' base p b most many L R where
  cells := (hg.block p (Array.getElem?_eq_some_iff.1 h.cells).1 (by simp)).trans h.cells
  tab := h.tab.kept hg (by simp)
  low := h.low
  rows := fun e he => (h.rows e he).grown hg (by simp)
  off := h.off
  good := h.good
set_option maxHeartbeats 8000000 in
set_option maxRecDepth 100000 in
theorem Note_bad (base p b : Nat) (most many : Int) (L : List (Pl × Sv)) (R : Pl → List Rd) (t : Int) (x : Rd) (w : World) (h : Mr w base p b most many L R) (hx : x.OK) (hbad : t < 1 ∨ mayB x = false) :
    Calls Tryz.prog 70 #[.pointer (some ⟨p, 0, none⟩), .int .i64 t, .agg #[.string x.t, .int .i64 x.k, .string x.f, .string x.u]] w fun e w' => e = .returned (.int .i64 1) ∧ Below w.heap.size w w' := by
  obtain ⟨w1, hw1⟩ : ∃ w1, w1 = w.alloc (.cells #[.string x.t, .int .i64 x.k, .string x.f, .string x.u] 108) := ⟨_, rfl⟩
  have B1 : Below w.heap.size w w1 := by rw [hw1]; exact boxed w x
  have N := none_calls p b w1 ((B1.cell (World.block_lt_of_cell? _ _ h.cell.2.1)).trans h.cell.2.1)
  have ob : w1.heap[w.heap.size]? = some (boxR x) := by rw [hw1]; exact heap_alloc_new w _
  obtain ⟨b0, b1, b2, b3⟩ := rd_cells ob
  have M := may_calls x w1
  by_cases ht : t < 1
  · go_enter Tryz.func70, Tryz.ntmps70
    go_wp2_with fail
    rw [← hw1]
    clear hw1
    refine N.mono ?_
    rintro e w' ⟨rfl, rfl⟩
    go_wp2
    go_ret
    exact ⟨rfl, B1⟩
  · have hm : mayB x = false := by rcases hbad with h | h; exact absurd h ht; exact h
    rw [hm] at M
    go_enter Tryz.func70, Tryz.ntmps70
    go_wp2_with fail
    rw [← hw1]
    clear hw1
    refine N.mono ?_
    rintro e w' ⟨rfl, rfl⟩
    go_wp2_with fail
    refine M.mono ?_
    rintro e w2 ⟨rfl, B2⟩
    go_wp2
    go_ret
    exact ⟨rfl, below_then B1 B1.size B2⟩
/-- what is left of a place's notes, with one more -/
def left (l : List Rd) (x : Rd) : List Rd := l.filter (fun y => !cov x y) ++ [x]
set_option maxHeartbeats 8000000 in
set_option maxRecDepth 100000 in
theorem Note_held (base p b : Nat) (most many : Int) (L : List (Pl × Sv)) (R : Pl → List Rd) (t : Int) (x : Rd) (w : World) (h : Mr w base p b most many L R) (hx : x.OK) (ht : 1 ≤ t) (hwf : (Lit.int .i64 t).wf = true) (hm : mayB x = true)
    (hl : (R (t, x.t)).length ≤ 65536) (hc : (R (t, x.t)).any (fun y => cov y x) = true) :
    Calls Tryz.prog 70 #[.pointer (some ⟨p, 0, none⟩), .int .i64 t, .agg #[.string x.t, .int .i64 x.k, .string x.f, .string x.u]] w fun e w' => e = .returned (.int .i64 0) ∧ Below w.heap.size w w' := by
  obtain ⟨w1, hw1⟩ : ∃ w1, w1 = w.alloc (.cells #[.string x.t, .int .i64 x.k, .string x.f, .string x.u] 108) := ⟨_, rfl⟩
  have B1 : Below w.heap.size w w1 := by rw [hw1]; exact boxed w x
  have N := none_calls p b w1 ((B1.cell (World.block_lt_of_cell? _ _ h.cell.2.1)).trans h.cell.2.1)
  have ob : w1.heap[w.heap.size]? = some (boxR x) := by rw [hw1]; exact heap_alloc_new w _
  obtain ⟨b0, b1, b2, b3⟩ := rd_cells ob
  have M := may_calls x w1
  have ht' : ¬ t < 1 := by omega
  rw [hm] at M
  go_enter Tryz.func70, Tryz.ntmps70
  go_wp2_with fail
  rw [← hw1]
  clear hw1
  refine N.mono ?_
  rintro e w' ⟨rfl, rfl⟩
  go_wp2_with fail
  refine M.mono ?_
  rintro e w2 ⟨rfl, B2⟩
  have B12 := below_then B1 B1.size B2
  obtain ⟨w3, hw3⟩ : ∃ w3, w3 = w2.alloc (.cells #[.int .i64 t, .string x.t] 156) := ⟨_, rfl⟩
  have B3 : Below w2.heap.size w2 w3 := by rw [hw3]; exact (Below.refl _ w2).alloc (Nat.le_refl _) _
  have B13 := below_then B12 B12.size B3
  have o3 : w3.heap[w2.heap.size]? = some (.cells #[.int .i64 t, .string x.t] 156 (0, 0)) := by rw [hw3]; exact heap_alloc_new w2 _
  have obx := (B2.block _ (Array.getElem?_eq_some_iff.1 ob).1).trans ob
  have obx3 := (B3.block _ (Array.getElem?_eq_some_iff.1 obx).1).trans obx
  obtain ⟨c0, c1, c2, c3⟩ := rd_cells obx
  have ok : okP (t, x.t) := ⟨hwf, Nat.le_trans hx.t (by decide)⟩
  have T3 : TabN w3 b L.length L := h.tab.kept (grown_of_below B13 none) (by simp)
  have p1 : w3.cell? ⟨p, 1, none⟩ = some (.map (some b)) := (B13.cell (World.block_lt_of_cell? _ _ h.cell.2.1)).trans h.cell.2.1
  have pl0 : w3.cell? ⟨w2.heap.size, 0, none⟩ = some (.int .i64 t) := cell_of_row w3 _ 0 _ 156 (0, 0) o3
  have pl1 : w3.cell? ⟨w2.heap.size, 1, none⟩ = some (.string x.t) := cell_of_row w3 _ 1 _ 156 (0, 0) o3
  have hlook := Tab.look1 (w := w3.drew) (t := 148) keyP valS Tryz.underlying148 (show TabN w3.drew b L.length L from T3.kept (drewG w3) (by simp)) (zero42 _) ok
  have hrow : RowR w3.drew base (mvS ((got L (t, x.t)).getD none)) (R (t, x.t)) := (h.row (t, x.t)).grown (grown_of_below (B13.grown (drewG w3) B13.size (by simp)) none) (by simp)
  generalize mvS ((got L (t, x.t)).getD none) = lv at hlook hrow
  unfold mkP at hlook
  have C := ContainsFunc_calls base lv (R (t, x.t)) (fun y => cov y x) 109 #[.pointer (some ⟨w.heap.size, 0, none⟩)] enters29 w3.drew hrow (by omega) ((pred29 x w.heap.size _ hx (h.goodAt _)).preds (show w3.drew.heap[w.heap.size]? = some (boxR x) from obx3))
  rw [hc] at C
  replace B13 := Aside0.mk B13
  replace T3 := Aside0.mk T3
  replace hrow := Aside0.mk hrow
  go_upto_region 6 with (fail)
  rw [← hw3]
  clear hw3
  go_region_held3 (fun W => W.cell? ⟨p, 1, none⟩ = some (.map (some b)) ∧ W.cell? ⟨w2.heap.size, 0, none⟩ = some (.int .i64 t) ∧ W.cell? ⟨w2.heap.size, 1, none⟩ = some (.string x.t)) (exact ⟨p1, pl0, pl1⟩) (fail)
  go_wp2_with fail
  refine C.mono ?_
  rintro e w4 ⟨rfl, B4⟩
  go_wp2
  go_ret
  have B13' := B13.out.grown (drewG w3) B13.out.size (by simp)
  exact ⟨rfl, below_then B13' B13'.size B4⟩
end Go.Proofs.YthaoedfalkebbaaGreat
namespace Go.Proofs.YthaoedfalkebbaaGreat
open Go.RowKit Go.Maps Go.Sort Go.Lib Go.Proofs.YthaoedfalkebbaaGreatW.PrintWords Go.Proofs.YthaoedfalkebbaaGreatW.PrintLast Go.Proofs.YthaoedfalkebbaaGreatW.PrintMore
set_option linter.unusedVariables false
set_option linter.unusedSimpArgs false
set_option linter.unusedSectionVars false
set_option maxRecDepth 100000 in
theorem Len_calls (base p b : Nat) (most many : Int) (L : List (Pl × Sv)) (R : Pl → List Rd) (w : World) (h : Mr w base p b most many L R) :
    Calls Tryz.prog 61 #[.pointer (some ⟨p, 0, none⟩)] w fun e w' => e = .returned (.int .i64 many) ∧ w = w' := by
  obtain ⟨c0, c1, c2⟩ := h.cell
  have N := none_calls p b w c1
  go_enter Tryz.func61, Tryz.ntmps61
  go_wp2_with fail
  refine N.mono ?_
  rintro e w' ⟨rfl, rfl⟩
  go_wp2
  go_ret
  exact ⟨rfl, rfl⟩
def hitB (R : Pl → List Rd) (tab key : ByteArray) (e : Pl × Sv) : Bool := (e.1.2.toList == tab.toList) && (R e.1).any (fun y => holdB y key)
def readersOf (L : List (Pl × Sv)) (R : Pl → List Rd) (tab key : ByteArray) : List Int := rise ((L.filter (hitB R tab key)).map (·.1.1))
def rdK (tab key : ByteArray) : Rd := ⟨tab, 1, key, ⟨#[]⟩⟩
def RJ (w : World) (b r bx : Nat) (o : Obj) (L : List (Pl × Sv)) (R : Pl → List Rd) (tab key : ByteArray) (v : Value) (wr : World) : Prop :=
  ∃ vis rem : List (Pl × Sv), (vis ++ rem).Perm L ∧ RngN wr b r L.length L rem ∧ w.heap.size ≤ r ∧ dI.R 2 wr w.heap.size (fun k => r < k) v ((vis.filter (hitB R tab key)).map (·.1.1)) ∧ Below w.heap.size w wr ∧ wr.heap[bx]? = some o
set_option maxHeartbeats 8000000 in
set_option maxRecDepth 100000 in
theorem Readers_calls (base p b : Nat) (most many : Int) (L : List (Pl × Sv)) (R : Pl → List Rd) (tab key : ByteArray) (w : World) (h : Mr w base p b most many L R) (hL : L.length ≤ 65536) (hR : ∀ q, (R q).length ≤ 65536) :
    Calls Tryz.prog 47 #[.pointer (some ⟨p, 0, none⟩), .string tab, .string key] w fun e w' => ∃ v, e = .returned v ∧ dI.R 2 w' w.heap.size (fun _ => True) v (readersOf L R tab key) ∧ Below w.heap.size w w' := by
  obtain ⟨c0, c1, c2⟩ := h.cell
  have N := none_calls p b w c1
  obtain ⟨w1, hw1⟩ : ∃ w1, w1 = w.alloc (.cells #[.string tab, .int .i64 1, .string key, .string ⟨#[]⟩] 108) := ⟨_, rfl⟩
  have B1 : Below w.heap.size w w1 := by rw [hw1]; exact (Below.refl _ w).alloc (Nat.le_refl _) _
  have ob : w1.heap[w.heap.size]? = some (boxR (rdK tab key)) := by rw [hw1]; exact heap_alloc_new w _
  have hblt : b < w.heap.size := h.tab.lt
  have d1 : w1.cell? ⟨p, 1, none⟩ = some (.map (some b)) := (B1.cell (World.block_lt_of_cell? _ _ c1)).trans c1
  obtain ⟨w2, hrun, hRg, hg2, hs2⟩ := Tab.range (t := 148) keyP Tryz.underlying148 (h.tab.kept (grown_of_below B1 none) (by simp) : TabN w1 b L.length L)
  have hws : w1.heap.size = w.heap.size + 1 := by rw [hw1]; simp
  have hsz1 : w.heap.size ≤ w.heap.size + 1 := by omega
  rw [hws] at hrun hRg hs2
  replace hws := Aside0.mk hws
  go_enter Tryz.func47, Tryz.ntmps47
  go_wp2_with fail
  refine N.mono ?_
  rintro e w' ⟨rfl, rfl⟩
  go_upto_region 5 with (fail)
  rw [← hw1]
  clear hw1
  go_wp2_with fail
  go_loopw [8] (fun v wr => RJ w b (w.heap.size + 1) w.heap.size (boxR (rdK tab key)) L R tab key v wr) (fun _ wr => wr.rangeLeft b (w.heap.size + 1))
  case atStart =>
    exact ⟨[], L, List.Perm.refl _, hRg, hsz1, Kd.R_nil _ _ _ _ _, B1.grown hg2 B1.size (by simp), (hg2.block _ (Array.getElem?_eq_some_iff.1 ob).1 (by simp)).trans ob⟩
  case round =>
    obtain ⟨vis, rem, hp, hr, hle, hv, hB, hbox⟩ := hrel
    rcases hr.next keyP valS 0 with ⟨hnil, hrun1⟩ | ⟨a, sv, w3, hmem, hok, hrun1, hr3, hlt, hg3, hs3, hent⟩
    · subst hnil
      rw [List.append_nil] at hp
      have hlen : ((vis.filter (hitB R tab key)).map (·.1.1)).length ≤ 65536 := by
        rw [List.length_map]
        have h1 := List.length_filter_le (hitB R tab key) vis
        have h2 := hp.length_eq
        omega
      have hbase0 := Kd.R_base hv
      have S := rising_calls wr w.heap.size _ u8 _ hv (by omega)
      go_wp2_with fail
      refine S.mono ?_
      rintro e w4 ⟨v4, rfl, H4, G4, e4⟩
      go_wp2
      go_ret
      refine ⟨_, rfl, ?_, hB.grown G4 hB.size (fun k hk => hbase0 k hk)⟩
      have : readersOf L R tab key = rise ((vis.filter (hitB R tab key)).map (·.1.1)) := rise_congr (fun x => ((hp.symm.filter _).map _).mem_iff)
      rw [this]
      exact ⟨fun _ _ => trivial, H4.2⟩
    · unfold mkP at hrun1 hent
      have hB3 : Below w.heap.size w w3 := hB.grown hg3 hB.size (fun k e => by injection e with e; omega)
      have hv3 : dI.R 2 w3 w.heap.size (fun k => w.heap.size + 1 < k) u8 ((vis.filter (hitB R tab key)).map (·.1.1)) := Kd.R_grown hv hg3 (fun k hk e => by injection e with e; omega)
      obtain ⟨W, hW⟩ : ∃ W, W = w3.alloc (.cells #[.int .i64 a.1, .string a.2] 156) := ⟨_, rfl⟩
      have BA : Below w3.heap.size w3 W := by rw [hW]; exact (Below.refl _ w3).alloc (Nat.le_refl _) _
      have hrl : w.heap.size + 1 < wr.heap.size := hr.lt
      have hbox3 : w3.heap[w.heap.size]? = some (boxR (rdK tab key)) := (hg3.block _ (by omega) (fun e => by injection e with e; omega)).trans hbox
      have hboxW := (BA.block _ (Array.getElem?_eq_some_iff.1 hbox3).1).trans hbox3
      have hop : W.heap[wr.heap.size]? = some (.cells #[.int .i64 a.1, .string a.2] 156 (0, 0)) := by rw [hW, ← hs3]; exact heap_alloc_new w3 _
      have p0 := cell_of_row W _ 0 _ 156 (0, 0) hop
      have p1 := cell_of_row W _ 1 _ 156 (0, 0) hop
      have BW := below_then hB3 hB3.size BA
      have hmL : (a, sv) ∈ L := hp.mem_iff.1 (List.mem_append_right _ hmem)
      have hrow : RowR W base (mvS sv) (R a) := (h.rows _ hmL).grown (grown_of_below BW none) (by simp)
      have C := ContainsFunc_calls base (mvS sv) (R a) (fun y => holdB y key) 89 #[.pointer (some ⟨w.heap.size, 0, none⟩)] enters35 W hrow (by have := hR a; omega) ((pred35 (rdK tab key) w.heap.size _).preds hboxW)
      have hlen : ((vis.filter (hitB R tab key)).map (·.1.1)).length ≤ 65536 := by
        rw [List.length_map]
        have h1 := List.length_filter_le (hitB R tab key) vis
        have h2 := hp.length_eq
        rw [List.length_append] at h2
        omega
      have hbase0 := Kd.R_base hv3
      have out : hitB R tab key (a, sv) = false → ∀ V, Below W.heap.size W V → RJ w b (w.heap.size + 1) w.heap.size (boxR (rdK tab key)) L R tab key u8 V ∧ V.rangeLeft b (w.heap.size + 1) < wr.rangeLeft b (w.heap.size + 1) := by
        intro hno V BV
        have B3V := below_then BA BA.size BV
        obtain ⟨hr6, el⟩ := hr3.kept (grown_of_below B3V none) (by simp) (by simp)
        refine ⟨⟨vis ++ [(a, sv)], _, perm_next hr.apart hp hmem, hr6, hsz1, ?_, below_then hB3 hB3.size B3V, (B3V.block _ (Array.getElem?_eq_some_iff.1 hbox3).1).trans hbox3⟩, by rw [el]; exact hlt⟩
        rw [List.filter_append, List.map_append]
        simpa [hno] using Kd.R_below hv3 B3V
      have inn : hitB R tab key (a, sv) = true → ∀ V, Below W.heap.size W V → ∀ v1 w6, dI.R 2 w6 w.heap.size (fun k => w.heap.size + 1 < k) v1 ((vis.filter (hitB R tab key)).map (·.1.1) ++ [a.1]) → Below w.heap.size w w6 → V.grownBy w6 u8.ownBlock → RJ w b (w.heap.size + 1) w.heap.size (boxR (rdK tab key)) L R tab key v1 w6 ∧ w6.rangeLeft b (w.heap.size + 1) < wr.rangeLeft b (w.heap.size + 1) := by
        intro hyes V BV v1 w6 H6 B6 G6
        have B3V := below_then BA BA.size BV
        obtain ⟨hr6, el⟩ := hr3.kept (grown_of_below B3V none) (by simp) (by simp)
        obtain ⟨hr7, el2⟩ := hr6.kept G6 (fun e => by have := hbase0 _ e.symm; omega) (fun e => by have := hv3.1 _ e.symm; omega)
        have bV := (B3V.block _ (Array.getElem?_eq_some_iff.1 hbox3).1).trans hbox3
        refine ⟨⟨vis ++ [(a, sv)], _, perm_next hr.apart hp hmem, hr7, hsz1, ?_, B6, (G6.block _ (Array.getElem?_eq_some_iff.1 bV).1 (fun e => by have := hv3.1 _ e.symm; omega)).trans bV⟩, by rw [el2, el]; exact hlt⟩
        rw [List.filter_append, List.map_append]
        simpa [hyes] using H6
      generalize hh : (R a).any (fun y => holdB y key) = hit at C
      replace h := Aside0.mk h
      replace hboxW := Aside0.mk hboxW
      replace BW := Aside0.mk BW
      replace hrow := Aside0.mk hrow
      go_upto_region 8 with (fail)
      rw [← hW]
      clear hW
      have hszW : wr.heap.size < W.heap.size := (Array.getElem?_eq_some_iff.1 hop).1
      go_wp2_with (first | (go_at_call 88; refine C.mono ?_; rintro e w5 ⟨rfl, B5⟩; have s0 := (B5.cell (World.block_lt_of_cell? _ _ p0)).trans p0; have hsz5 := B5.size) | (at_builtin; refine appI (v := u8) rfl rfl rfl rfl (Kd.R_below hv3 (below_then BA BA.size B5)) (below_then hB3 hB3.size (below_then BA BA.size B5)) hlen rfl (fun k hk => by omega) ?_; intro v1 w6 H6 B6 G6))
      all_goals first
        | (refine out ?_ _ B5; simp [hitB, *]; done)
        | (refine out ?_ _ (Below.refl _ _); simp [hitB, *]; done)
        | (refine inn ?_ _ B5 _ _ H6 B6 G6; simp [hitB, *]; done)
end Go.Proofs.YthaoedfalkebbaaGreat
namespace Go.Proofs.YthaoedfalkebbaaGreat
open Go.ChangeShapes Go.WideShapes Go.ChangeAt Go.RowKit Go.Proofs.YthaoedfalkebbaaGreatW.PrintWords Go.Proofs.YthaoedfalkebbaaGreatW.PrintLast Go.Proofs.YthaoedfalkebbaaGreatW.PrintMore
set_option linter.unusedVariables false
set_option linter.unusedSimpArgs false
set_option linter.unusedSectionVars false
theorem two_at {V : World} {g h : Nat} {a b : Rd} (oa : V.heap[g]? = some (boxR a)) (ob : V.heap[h]? = some (boxR b)) :
    V.cell? ⟨g, 0, none⟩ = some (.string a.t) ∧ V.cell? ⟨g, 1, none⟩ = some (.int .i64 a.k) ∧ V.cell? ⟨g, 2, none⟩ = some (.string a.f) ∧ V.cell? ⟨g, 3, none⟩ = some (.string a.u) ∧ V.cell? ⟨h, 0, none⟩ = some (.string b.t) ∧ V.cell? ⟨h, 1, none⟩ = some (.int .i64 b.k) ∧ V.cell? ⟨h, 2, none⟩ = some (.string b.f) ∧ V.cell? ⟨h, 3, none⟩ = some (.string b.u) := by
  obtain ⟨a0, a1, a2, a3⟩ := rd_cells oa
  obtain ⟨b0, b1, b2, b3⟩ := rd_cells ob
  exact ⟨a0, a1, a2, a3, b0, b1, b2, b3⟩
end Go.Proofs.YthaoedfalkebbaaGreat
namespace Go.Proofs.YthaoedfalkebbaaGreat
open Go.RowKit Go.Maps Go.Sort Go.Lib Go.Proofs.YthaoedfalkebbaaGreatW.PrintWords Go.Proofs.YthaoedfalkebbaaGreatW.PrintLast Go.Proofs.YthaoedfalkebbaaGreatW.PrintMore
set_option linter.unusedVariables false
set_option linter.unusedSimpArgs false
set_option linter.unusedSectionVars false
theorem less_le {a b c : List UInt8} (h : Op.bytesLess a b = true) (h' : Op.bytesLess c b = false) : Op.bytesLess a c = true := by
  rw [bytesLess_eq, decide_eq_true_eq] at h ⊢
  rw [bytesLess_eq, decide_eq_false_iff_not] at h'
  exact Std.lt_of_lt_of_le h (List.not_lt.1 h')
theorem le_trans' {a b c : List UInt8} (h : Op.bytesLess b a = false) (h' : Op.bytesLess c b = false) : Op.bytesLess c a = false := by
  rw [bytesLess_eq, decide_eq_false_iff_not] at *
  exact List.not_lt.2 (List.le_trans (List.not_lt.1 h) (List.not_lt.1 h'))
theorem less_snoc : ∀ (a b : List UInt8), Op.bytesLess a (b ++ [0]) = !Op.bytesLess b a
  | [], [] => rfl
  | [], y :: b => rfl
  | x :: a, [] => by
    simp only [List.nil_append, Op.bytesLess]
    by_cases h : x < 0
    · exact absurd h (by simp)
    · cases a <;> simp [Op.bytesLess, h]
  | x :: a, y :: b => by
    have := less_snoc a b
    simp only [List.cons_append, Op.bytesLess]
    rcases Nat.lt_trichotomy x.toNat y.toNat with h | h | h
    · have h3 : x < y := h
      have h2 : ¬ y < x := UInt8.lt_asymm h3
      have h4 : ¬ y = x := by rintro rfl; omega
      simp [h3, h2, h4]
    · have h := UInt8.toNat_inj.1 h
      subst h
      simp [this]
    · have h3 : y < x := h
      have h2 : ¬ x < y := UInt8.lt_asymm h3
      have h4 : x ≠ y := by rintro rfl; omega
      simp [h3, h2, h4]
theorem less_irrefl (a : List UInt8) : Op.bytesLess a a = false := by
  rw [bytesLess_eq, decide_eq_false_iff_not]
  exact List.lt_irrefl _
theorem less_nil (a : List UInt8) : Op.bytesLess a [] = false := by cases a <;> rfl
theorem holdB_span (y : Rd) (key : ByteArray) : holdB y key = (!Op.bytesLess key.toList (spn y).1.toList && (!(spn y).2.2 || Op.bytesLess key.toList (spn y).2.1.toList)) := by
  unfold holdB spn
  by_cases h1 : y.k = 1
  · simp only [h1, if_true]
    have e : (y.f ++ ⟨#[0]⟩ : ByteArray).toList = y.f.toList ++ [0] := by rw [Lib.toList_data, Lib.toList_data, ByteArray.toList_data_append]
    rw [e, less_snoc]
    by_cases hk : y.f.toList = key.toList
    · simp [hk, less_irrefl]
    · have := gtr_less y.f.toList key.toList
      have e2 : (y.f.toList == key.toList) = false := by simpa using hk
      rw [e2] at this ⊢
      rw [← this]
      cases Op.bytesLess y.f.toList key.toList <;> rfl
  · by_cases h2 : y.k = 2
    · simp [h2, h1]
    · simp [h1, h2, less_nil]
theorem cov_holds {a b : Rd} (h : cov a b = true) {key : ByteArray} (hb : holdB b key = true) : holdB a key = true := by
  rw [holdB_span] at *
  unfold cov at h
  simp only [Bool.and_eq_true, Bool.or_eq_true, Bool.not_eq_true'] at *
  obtain ⟨h1, h2⟩ := h
  obtain ⟨g1, g2⟩ := hb
  refine ⟨le_trans' h1 g1, ?_⟩
  rcases h2 with h2 | ⟨h2, h3⟩
  · exact .inl h2
  · rw [h2] at g2
    rcases g2 with g2 | g2
    · cases g2
    · exact .inr (less_le g2 h3)
end Go.Proofs.YthaoedfalkebbaaGreat
namespace Go.Proofs
open Go.Shelf
def Tryz.sortR_ren : Go.Shelf.Ren := ⟨fun | 6 => 99 | 15 => 105 | 14 => 139 | 28 => 150 | 29 => 151 | 20 => 172 | 21 => 173 | 22 => 174 | 23 => 175 | 24 => 176 | 25 => 177 | 26 => 178 | 27 => 179 | 46 => 199 | 47 => 181 | 48 => 182 | 49 => 200 | 50 => 201 | 57 => 209 | n => n, fun | 22 => 118 | 24 => 108 | 25 => 171 | 3 => 3 | 39 => 176 | 0 => 0 | 53 => 215 | 55 => 217 | 4 => 4 | 46 => 207 | 45 => 206 | 50 => 212 | 5 => 5 | 9 => 9 | 66 => 247 | 70 => 251 | 76 => 266 | 77 => 185 | n => n, fun | n => n⟩
theorem Tryz.sortR : Go.Proofs.SlLaysF0.n6 Tryz.prog Tryz.sortR_ren := {
  mixed := by kernel_rfl
  f6 := ⟨Tryz.f99.name, by decide, Tryz.func99.trans (congrArg some (by kernel_rfl))⟩
  f14 := ⟨Tryz.f139.name, by decide, Tryz.func139.trans (congrArg some (by kernel_rfl))⟩
  f15 := Tryz.func105.trans (congrArg some (by kernel_rfl))
  f20 := ⟨Tryz.f172.name, by decide, Tryz.func172.trans (congrArg some (by kernel_rfl))⟩
  f21 := ⟨Tryz.f173.name, by decide, Tryz.func173.trans (congrArg some (by kernel_rfl))⟩
  f22 := ⟨Tryz.f174.name, by decide, Tryz.func174.trans (congrArg some (by kernel_rfl))⟩
  f23 := ⟨Tryz.f175.name, by decide, Tryz.func175.trans (congrArg some (by kernel_rfl))⟩
  f24 := ⟨Tryz.f176.name, by decide, Tryz.func176.trans (congrArg some (by kernel_rfl))⟩
  f25 := ⟨Tryz.f177.name, by decide, Tryz.func177.trans (congrArg some (by kernel_rfl))⟩
  f26 := ⟨Tryz.f178.name, by decide, Tryz.func178.trans (congrArg some (by kernel_rfl))⟩
  f27 := ⟨Tryz.f179.name, by decide, Tryz.func179.trans (congrArg some (by kernel_rfl))⟩
  f28 := Tryz.func150.trans (congrArg some (by kernel_rfl))
  f29 := Tryz.func151.trans (congrArg some (by kernel_rfl))
  f46 := ⟨Tryz.f199.name, by decide, Tryz.func199.trans (congrArg some (by kernel_rfl))⟩
  f47 := Tryz.func181.trans (congrArg some (by kernel_rfl))
  f48 := Tryz.func182.trans (congrArg some (by kernel_rfl))
  f49 := ⟨Tryz.f200.name, by decide, Tryz.func200.trans (congrArg some (by kernel_rfl))⟩
  f50 := ⟨Tryz.f201.name, by decide, Tryz.func201.trans (congrArg some (by kernel_rfl))⟩
  f57 := ⟨Tryz.f209.name, by decide, Tryz.func209.trans (congrArg some (by kernel_rfl))⟩
  t0 := Tryz.underlying0
  a0 := Tryz.isAgg0
  z0 := Tryz.sizeOf0
  v0 := Tryz.zeroValue0
  t3 := Tryz.underlying3
  a3 := Tryz.isAgg3
  z3 := Tryz.sizeOf3
  v3 := Tryz.zeroValue3
  t4 := Tryz.underlying4
  a4 := Tryz.isAgg4
  z4 := Tryz.sizeOf4
  v4 := Tryz.zeroValue4
  t5 := Tryz.underlying5
  a5 := Tryz.isAgg5
  z5 := Tryz.sizeOf5
  v5 := Tryz.zeroValue5
  t9 := Tryz.underlying9
  a9 := Tryz.isAgg9
  z9 := Tryz.sizeOf9
  v9 := Tryz.zeroValue9
  t22 := Tryz.underlying118
  a22 := Tryz.isAgg118
  z22 := Tryz.sizeOf118
  v22 := Tryz.zeroValue118
  t25 := Tryz.underlying171
  a25 := Tryz.isAgg171
  z25 := Tryz.sizeOf171
  v25 := Tryz.zeroValue171
  t39 := Tryz.underlying176
  a39 := Tryz.isAgg176
  z39 := Tryz.sizeOf176
  v39 := Tryz.zeroValue176
  t45 := Tryz.underlying206
  a45 := Tryz.isAgg206
  z45 := Tryz.sizeOf206
  v45 := Tryz.zeroValue206
  t46 := Tryz.underlying207
  a46 := Tryz.isAgg207
  z46 := Tryz.sizeOf207
  v46 := Tryz.zeroValue207
  t50 := Tryz.underlying212
  a50 := Tryz.isAgg212
  z50 := Tryz.sizeOf212
  v50 := Tryz.zeroValue212
  t53 := Tryz.underlying215
  a53 := Tryz.isAgg215
  z53 := Tryz.sizeOf215
  v53 := Tryz.zeroValue215
  t55 := Tryz.underlying217
  a55 := Tryz.isAgg217
  z55 := Tryz.sizeOf217
  v55 := Tryz.zeroValue217
  t66 := Tryz.underlying247
  a66 := Tryz.isAgg247
  z66 := Tryz.sizeOf247
  v66 := Tryz.zeroValue247
  t70 := Tryz.underlying251
  a70 := Tryz.isAgg251
  z70 := Tryz.sizeOf251
  v70 := Tryz.zeroValue251
  t76 := Tryz.underlying266
  a76 := Tryz.isAgg266
  z76 := Tryz.sizeOf266
  v76 := Tryz.zeroValue266
  t77 := Tryz.underlying185
  a77 := Tryz.isAgg185
  z77 := Tryz.sizeOf185
  v77 := Tryz.zeroValue185 }
def Tryz.sortP_ren : Go.Shelf.Ren := ⟨fun | 6 => 187 | 15 => 105 | 14 => 204 | 28 => 150 | 29 => 151 | 20 => 210 | 21 => 211 | 22 => 212 | 23 => 213 | 24 => 214 | 25 => 215 | 26 => 216 | 27 => 217 | 46 => 218 | 47 => 181 | 48 => 182 | 49 => 219 | 50 => 220 | 57 => 221 | n => n, fun | 22 => 220 | 24 => 156 | 25 => 225 | 3 => 3 | 39 => 176 | 0 => 0 | 53 => 215 | 55 => 217 | 4 => 4 | 46 => 207 | 45 => 206 | 50 => 212 | 5 => 5 | 9 => 9 | 66 => 247 | 70 => 251 | 76 => 266 | 77 => 185 | n => n, fun | n => n⟩
theorem Tryz.sortP : Go.Proofs.SlLaysF0.n6 Tryz.prog Tryz.sortP_ren := {
  mixed := by kernel_rfl
  f6 := ⟨Tryz.f187.name, by decide, Tryz.func187.trans (congrArg some (by kernel_rfl))⟩
  f14 := ⟨Tryz.f204.name, by decide, Tryz.func204.trans (congrArg some (by kernel_rfl))⟩
  f15 := Tryz.func105.trans (congrArg some (by kernel_rfl))
  f20 := ⟨Tryz.f210.name, by decide, Tryz.func210.trans (congrArg some (by kernel_rfl))⟩
  f21 := ⟨Tryz.f211.name, by decide, Tryz.func211.trans (congrArg some (by kernel_rfl))⟩
  f22 := ⟨Tryz.f212.name, by decide, Tryz.func212.trans (congrArg some (by kernel_rfl))⟩
  f23 := ⟨Tryz.f213.name, by decide, Tryz.func213.trans (congrArg some (by kernel_rfl))⟩
  f24 := ⟨Tryz.f214.name, by decide, Tryz.func214.trans (congrArg some (by kernel_rfl))⟩
  f25 := ⟨Tryz.f215.name, by decide, Tryz.func215.trans (congrArg some (by kernel_rfl))⟩
  f26 := ⟨Tryz.f216.name, by decide, Tryz.func216.trans (congrArg some (by kernel_rfl))⟩
  f27 := ⟨Tryz.f217.name, by decide, Tryz.func217.trans (congrArg some (by kernel_rfl))⟩
  f28 := Tryz.func150.trans (congrArg some (by kernel_rfl))
  f29 := Tryz.func151.trans (congrArg some (by kernel_rfl))
  f46 := ⟨Tryz.f218.name, by decide, Tryz.func218.trans (congrArg some (by kernel_rfl))⟩
  f47 := Tryz.func181.trans (congrArg some (by kernel_rfl))
  f48 := Tryz.func182.trans (congrArg some (by kernel_rfl))
  f49 := ⟨Tryz.f219.name, by decide, Tryz.func219.trans (congrArg some (by kernel_rfl))⟩
  f50 := ⟨Tryz.f220.name, by decide, Tryz.func220.trans (congrArg some (by kernel_rfl))⟩
  f57 := ⟨Tryz.f221.name, by decide, Tryz.func221.trans (congrArg some (by kernel_rfl))⟩
  t0 := Tryz.underlying0
  a0 := Tryz.isAgg0
  z0 := Tryz.sizeOf0
  v0 := Tryz.zeroValue0
  t3 := Tryz.underlying3
  a3 := Tryz.isAgg3
  z3 := Tryz.sizeOf3
  v3 := Tryz.zeroValue3
  t4 := Tryz.underlying4
  a4 := Tryz.isAgg4
  z4 := Tryz.sizeOf4
  v4 := Tryz.zeroValue4
  t5 := Tryz.underlying5
  a5 := Tryz.isAgg5
  z5 := Tryz.sizeOf5
  v5 := Tryz.zeroValue5
  t9 := Tryz.underlying9
  a9 := Tryz.isAgg9
  z9 := Tryz.sizeOf9
  v9 := Tryz.zeroValue9
  t22 := Tryz.underlying220
  a22 := Tryz.isAgg220
  z22 := Tryz.sizeOf220
  v22 := Tryz.zeroValue220
  t25 := Tryz.underlying225
  a25 := Tryz.isAgg225
  z25 := Tryz.sizeOf225
  v25 := Tryz.zeroValue225
  t39 := Tryz.underlying176
  a39 := Tryz.isAgg176
  z39 := Tryz.sizeOf176
  v39 := Tryz.zeroValue176
  t45 := Tryz.underlying206
  a45 := Tryz.isAgg206
  z45 := Tryz.sizeOf206
  v45 := Tryz.zeroValue206
  t46 := Tryz.underlying207
  a46 := Tryz.isAgg207
  z46 := Tryz.sizeOf207
  v46 := Tryz.zeroValue207
  t50 := Tryz.underlying212
  a50 := Tryz.isAgg212
  z50 := Tryz.sizeOf212
  v50 := Tryz.zeroValue212
  t53 := Tryz.underlying215
  a53 := Tryz.isAgg215
  z53 := Tryz.sizeOf215
  v53 := Tryz.zeroValue215
  t55 := Tryz.underlying217
  a55 := Tryz.isAgg217
  z55 := Tryz.sizeOf217
  v55 := Tryz.zeroValue217
  t66 := Tryz.underlying247
  a66 := Tryz.isAgg247
  z66 := Tryz.sizeOf247
  v66 := Tryz.zeroValue247
  t70 := Tryz.underlying251
  a70 := Tryz.isAgg251
  z70 := Tryz.sizeOf251
  v70 := Tryz.zeroValue251
  t76 := Tryz.underlying266
  a76 := Tryz.isAgg266
  z76 := Tryz.sizeOf266
  v76 := Tryz.zeroValue266
  t77 := Tryz.underlying185
  a77 := Tryz.isAgg185
  z77 := Tryz.sizeOf185
  v77 := Tryz.zeroValue185 }
end Go.Proofs
namespace Go.Proofs.YthaoedfalkebbaaGreat
open Go.RowKit Go.Maps Go.Sort Go.Lib Go.Proofs.YthaoedfalkebbaaGreatW.PrintWords Go.Proofs.YthaoedfalkebbaaGreatW.PrintLast Go.Proofs.YthaoedfalkebbaaGreatW.PrintMore
set_option linter.unusedVariables false
set_option linter.unusedSimpArgs false
set_option linter.unusedSectionVars false
def cmpS (s u : ByteArray) : Int := if Op.bytesLess s.toList u.toList = true then -1 else if s.toList == u.toList then 0 else 1
def cmpN (s u : Int) : Int := if s < u then -1 else if s = u then 0 else 1
set_option maxRecDepth 100000 in
theorem isNaN57_calls (s : ByteArray) (w : World) : Calls Tryz.prog 138 #[.string s] w fun e w' => e = .returned (.bool false) ∧ w = w' := by
  go_enter Tryz.func138, Tryz.ntmps138
  go_wp2
  go_ret
  exact ⟨by simp, rfl⟩
set_option maxRecDepth 100000 in
theorem isNaN58_calls (s : Int) (w : World) : Calls Tryz.prog 140 #[.int .i64 s] w fun e w' => e = .returned (.bool false) ∧ w = w' := by
  go_enter Tryz.func140, Tryz.ntmps140
  go_wp2
  go_ret
  exact ⟨by simp, rfl⟩
set_option maxRecDepth 100000 in
theorem isNaN76_calls (s : Int) (w : World) : Calls Tryz.prog 185 #[.int .i64 s] w fun e w' => e = .returned (.bool false) ∧ w = w' := by
  go_enter Tryz.func185, Tryz.ntmps185
  go_wp2
  go_ret
  exact ⟨by simp, rfl⟩
set_option maxRecDepth 100000 in
theorem Compare42_calls (s u : ByteArray) (w : World) : Calls Tryz.prog 98 #[.string s, .string u] w fun e w' => e = .returned (.int .i64 (cmpS s u)) ∧ w = w' := by
  have N := fun s => isNaN57_calls s w
  unfold cmpS
  cases h1 : Op.bytesLess s.toList u.toList with
  | true =>
    simp only [if_true]
    go_enter Tryz.func98, Tryz.ntmps98
    go_wp2_with fail
    refine (N s).mono ?_
    rintro e w' ⟨rfl, rfl⟩
    go_wp2_with fail
    refine (N u).mono ?_
    rintro e w' ⟨rfl, rfl⟩
    go_wp2
    go_ret
    exact ⟨rfl, rfl⟩
  | false =>
    simp only [Bool.false_eq_true, if_false]
    cases h2 : s.toList == u.toList with
    | true =>
      simp only [if_true]
      go_enter Tryz.func98, Tryz.ntmps98
      go_wp2_with fail
      refine (N s).mono ?_
      rintro e w' ⟨rfl, rfl⟩
      go_wp2_with fail
      refine (N u).mono ?_
      rintro e w' ⟨rfl, rfl⟩
      go_wp2
      go_ret
      exact ⟨rfl, rfl⟩
    | false =>
      simp only [Bool.false_eq_true, if_false]
      go_enter Tryz.func98, Tryz.ntmps98
      go_wp2_with fail
      refine (N s).mono ?_
      rintro e w' ⟨rfl, rfl⟩
      go_wp2_with fail
      refine (N u).mono ?_
      rintro e w' ⟨rfl, rfl⟩
      go_wp2
      go_ret
      exact ⟨rfl, rfl⟩
set_option maxRecDepth 100000 in
theorem Compare43_calls (s u : Int) (w : World) : Calls Tryz.prog 101 #[.int .i64 s, .int .i64 u] w fun e w' => e = .returned (.int .i64 (cmpN s u)) ∧ w = w' := by
  have N := fun s => isNaN58_calls s w
  unfold cmpN
  rcases Int.lt_trichotomy s u with h1 | h1 | h1
  · rw [if_pos h1]
    go_enter Tryz.func101, Tryz.ntmps101
    go_wp2_with fail
    refine (N s).mono ?_
    rintro e w' ⟨rfl, rfl⟩
    go_wp2_with fail
    refine (N u).mono ?_
    rintro e w' ⟨rfl, rfl⟩
    go_wp2
    go_ret
    exact ⟨rfl, rfl⟩
  · subst h1
    rw [if_neg (Int.lt_irrefl _), if_pos rfl]
    go_enter Tryz.func101, Tryz.ntmps101
    go_wp2_with fail
    refine (N s).mono ?_
    rintro e w' ⟨rfl, rfl⟩
    go_wp2_with fail
    refine (N s).mono ?_
    rintro e w' ⟨rfl, rfl⟩
    go_wp2
    go_ret
    exact ⟨rfl, rfl⟩
  · have h2 : ¬ s < u := by omega
    have h3 : ¬ s = u := by omega
    rw [if_neg h2, if_neg h3]
    go_enter Tryz.func101, Tryz.ntmps101
    go_wp2_with fail
    refine (N s).mono ?_
    rintro e w' ⟨rfl, rfl⟩
    go_wp2_with fail
    refine (N u).mono ?_
    rintro e w' ⟨rfl, rfl⟩
    go_wp2
    go_ret
    exact ⟨rfl, rfl⟩
set_option maxRecDepth 100000 in
theorem Compare62_calls (s u : Int) (w : World) : Calls Tryz.prog 189 #[.int .i64 s, .int .i64 u] w fun e w' => e = .returned (.int .i64 (cmpN s u)) ∧ w = w' := by
  have N := fun s => isNaN76_calls s w
  unfold cmpN
  rcases Int.lt_trichotomy s u with h1 | h1 | h1
  · rw [if_pos h1]
    go_enter Tryz.func189, Tryz.ntmps189
    go_wp2_with fail
    refine (N s).mono ?_
    rintro e w' ⟨rfl, rfl⟩
    go_wp2_with fail
    refine (N u).mono ?_
    rintro e w' ⟨rfl, rfl⟩
    go_wp2
    go_ret
    exact ⟨rfl, rfl⟩
  · subst h1
    rw [if_neg (Int.lt_irrefl _), if_pos rfl]
    go_enter Tryz.func189, Tryz.ntmps189
    go_wp2_with fail
    refine (N s).mono ?_
    rintro e w' ⟨rfl, rfl⟩
    go_wp2_with fail
    refine (N s).mono ?_
    rintro e w' ⟨rfl, rfl⟩
    go_wp2
    go_ret
    exact ⟨rfl, rfl⟩
  · have h2 : ¬ s < u := by omega
    have h3 : ¬ s = u := by omega
    rw [if_neg h2, if_neg h3]
    go_enter Tryz.func189, Tryz.ntmps189
    go_wp2_with fail
    refine (N s).mono ?_
    rintro e w' ⟨rfl, rfl⟩
    go_wp2_with fail
    refine (N u).mono ?_
    rintro e w' ⟨rfl, rfl⟩
    go_wp2
    go_ret
    exact ⟨rfl, rfl⟩
/-- the first that is not nought -/
def fst0 : List Int → Int
  | [] => 0
  | x :: xs => if x ≠ 0 then x else fst0 xs
theorem fst0_drop (xs : List Int) (i : Nat) (x : Int) (h : xs[i]? = some x) : fst0 (xs.drop i) = if x ≠ 0 then x else fst0 (xs.drop (i + 1)) := by
  obtain ⟨hi, rfl⟩ := List.getElem?_eq_some_iff.1 h
  rw [List.drop_eq_getElem_cons hi]
  rfl
def OrJ (w : World) (xs : List Int) (v : Value) (wr : World) : Prop := ∃ i : Nat, v = .int .i64 (i : Int) ∧ i ≤ xs.length ∧ wr = w ∧ fst0 xs = fst0 (xs.drop i)
set_option maxHeartbeats 1000000 in
set_option maxRecDepth 100000 in
theorem Or_calls (g c : Nat) (xs : List Int) (w : World) (hl : xs.length ≤ 65536) (h : ∀ j x, xs[j]? = some x → w.cell? ⟨g, j, none⟩ = some (.int .i64 x)) :
    Calls Tryz.prog 97 #[.slice (some ⟨g, 0, none⟩) xs.length c] w fun e w' => e = .returned (.int .i64 (fst0 xs)) ∧ w = w' := by
  go_enter Tryz.func97, Tryz.ntmps97
  go_wp2_with fail
  go_loopw [8] (fun v wr => OrJ w xs v wr) (fun v _ => xs.length - (intOf v).toNat)
  case atStart => exact ⟨0, rfl, Nat.zero_le _, rfl, rfl⟩
  case round =>
    obtain ⟨i, rfl, hi, rfl, he⟩ := hrel
    by_cases hlt : i < xs.length
    · have hx := h i xs[i] (List.getElem?_eq_getElem hlt)
      have hd := fst0_drop xs i xs[i] (List.getElem?_eq_getElem hlt)
      generalize xs[i] = x at hx hd
      clear h
      by_cases hx0 : x = 0
      · subst hx0
        rw [if_neg (by simp)] at hd
        go_wp2
        go_roundw
        case rel => exact ⟨i + 1, by go_num, by omega, rfl, he.trans hd⟩
        case measure => simp [intOf]; omega
      · have hx1 : (x != 0) = true := by simpa using hx0
        rw [if_pos hx0] at hd
        go_wp2
        go_ret
        exact ⟨by rw [he, hd]; rfl, rfl⟩
    · obtain rfl : i = xs.length := by omega
      rw [List.drop_length] at he
      go_wp2
      go_ret
      exact ⟨by rw [he]; rfl, rfl⟩
end Go.Proofs.YthaoedfalkebbaaGreat
namespace Go.Proofs.YthaoedfalkebbaaGreat
open Go.RowKit Go.Maps Go.Sort Go.Lib Go.Proofs.YthaoedfalkebbaaGreatW.PrintWords Go.Proofs.YthaoedfalkebbaaGreatW.PrintLast Go.Proofs.YthaoedfalkebbaaGreatW.PrintMore
set_option linter.unusedVariables false
set_option linter.unusedSimpArgs false
set_option linter.unusedSectionVars false
def cmpRd (a b : Rd) : Int := fst0 [cmpS a.t b.t, cmpN a.k b.k, cmpS a.f b.f, cmpS a.u b.u]
def cmpPl (a b : Pl) : Int := fst0 [cmpN a.1 b.1, cmpS a.2 b.2]
theorem Or4 (g c : Nat) (A B C D : Int) (w : World) (h0 : w.cell? ⟨g, 0, none⟩ = some (.int .i64 A)) (h1 : w.cell? ⟨g, 1, none⟩ = some (.int .i64 B)) (h2 : w.cell? ⟨g, 2, none⟩ = some (.int .i64 C)) (h3 : w.cell? ⟨g, 3, none⟩ = some (.int .i64 D)) :
    Calls Tryz.prog 97 #[.slice (some ⟨g, 0, none⟩) 4 c] w fun e w' => e = .returned (.int .i64 (fst0 [A, B, C, D])) ∧ w = w' := by
  refine Or_calls g c [A, B, C, D] w (by simp) fun j x hx => ?_
  match j, hx with
  | 0, hx => injection hx with hx; subst hx; exact h0
  | 1, hx => injection hx with hx; subst hx; exact h1
  | 2, hx => injection hx with hx; subst hx; exact h2
  | 3, hx => injection hx with hx; subst hx; exact h3
theorem Or2 (g c : Nat) (A B : Int) (w : World) (h0 : w.cell? ⟨g, 0, none⟩ = some (.int .i64 A)) (h1 : w.cell? ⟨g, 1, none⟩ = some (.int .i64 B)) :
    Calls Tryz.prog 97 #[.slice (some ⟨g, 0, none⟩) 2 c] w fun e w' => e = .returned (.int .i64 (fst0 [A, B])) ∧ w = w' := by
  refine Or_calls g c [A, B] w (by simp) fun j x hx => ?_
  match j, hx with
  | 0, hx => injection hx with hx; subst hx; exact h0
  | 1, hx => injection hx with hx; subst hx; exact h1
set_option maxHeartbeats 4000000 in
set_option maxRecDepth 100000 in
theorem closure40 (x y : Rd) (W : World) : Calls Tryz.prog 100 #[mkR x, mkR y] W fun e w' => e = .returned (.int .i64 (cmpRd x y)) ∧ ∃ q os', w' = grow (W.drewN q) os' := by
  obtain ⟨w1, hw1⟩ : ∃ w1, w1 = (W.alloc (.cells #[.string x.t, .int .i64 x.k, .string x.f, .string x.u] 108)).alloc (.cells #[.string y.t, .int .i64 y.k, .string y.f, .string y.u] 108) := ⟨_, rfl⟩
  have hg : w1 = grow W #[.cells #[.string x.t, .int .i64 x.k, .string x.f, .string x.u] 108, .cells #[.string y.t, .int .i64 y.k, .string y.f, .string y.u] 108] := by rw [hw1, alloc_eq_grow, alloc_eq_grow, grow_grow]; rfl
  obtain ⟨w2, hw2, _, oa, ob⟩ := two_boxes W x y
  rw [← hw1] at hw2
  subst hw2
  have l1 : W.heap.size < w2.heap.size := (Array.getElem?_eq_some_iff.1 oa).1
  have l2 : W.heap.size + 1 < w2.heap.size := (Array.getElem?_eq_some_iff.1 ob).1
  replace hg := Aside0.mk hg
  have oaz := fun o => (((Below.refl _ w2).alloc (Nat.le_refl _) o).block W.heap.size l1).trans oa
  have obz := fun o => (((Below.refl _ w2).alloc (Nat.le_refl _) o).block (W.heap.size + 1) l2).trans ob
  unfold cmpRd
  generalize hA : cmpS x.t y.t = A
  generalize hB : cmpN x.k y.k = B
  generalize hC : cmpS x.f y.f = C
  generalize hD : cmpS x.u y.u = D
  have C1 := fun w => hA ▸ Compare42_calls x.t y.t w
  have C2 := fun w => hB ▸ Compare43_calls x.k y.k w
  have C3 := fun w => hC ▸ Compare42_calls x.f y.f w
  have C4 := fun w => hD ▸ Compare42_calls x.u y.u w
  clear hA hB hC hD
  have OC := fun w h0 h1 h2 h3 => Or4 w2.heap.size 4 A B C D w h0 h1 h2 h3
  generalize fst0 [A, B, C, D] = R at OC ⊢
  go_enter Tryz.func100, Tryz.ntmps100
  go_upto_region 1 with fail
  rw [← hw1]
  clear hw1
  go_region_held3 (fun V => V.cell? ⟨W.heap.size, 0, none⟩ = some (.string x.t) ∧ V.cell? ⟨W.heap.size, 1, none⟩ = some (.int .i64 x.k) ∧ V.cell? ⟨W.heap.size, 2, none⟩ = some (.string x.f) ∧ V.cell? ⟨W.heap.size, 3, none⟩ = some (.string x.u) ∧ V.cell? ⟨W.heap.size + 1, 0, none⟩ = some (.string y.t) ∧ V.cell? ⟨W.heap.size + 1, 1, none⟩ = some (.int .i64 y.k) ∧ V.cell? ⟨W.heap.size + 1, 2, none⟩ = some (.string y.f) ∧ V.cell? ⟨W.heap.size + 1, 3, none⟩ = some (.string y.u))
    (first | exact two_at oa ob | exact two_at (oaz _) (obz _))
    (first | (go_at_call 98; with_reducible refine (C1 _).mono ?_; rintro e w' ⟨rfl, rfl⟩) | (go_at_call 98; with_reducible refine (C3 _).mono ?_; rintro e w' ⟨rfl, rfl⟩) | (go_at_call 98; with_reducible refine (C4 _).mono ?_; rintro e w' ⟨rfl, rfl⟩) | (go_at_call 101; with_reducible refine (C2 _).mono ?_; rintro e w' ⟨rfl, rfl⟩) | (go_at_call 97; refine (OC _ (by simp [go_sem]) (by simp [go_sem]) (by simp [go_sem]) (by simp [go_sem])).mono ?_; rintro e w' ⟨rfl, rfl⟩))
  go_wp2
  go_ret
  refine ⟨rfl, ?_⟩
  rw [hg.out]
  rw [alloc_eq_grow, grow_grow]
  exact ⟨1, _, rfl⟩
set_option maxHeartbeats 4000000 in
set_option maxRecDepth 100000 in
theorem closure52 (x y : Pl) (W : World) : Calls Tryz.prog 155 #[.agg #[.int .i64 x.1, .string x.2], .agg #[.int .i64 y.1, .string y.2]] W fun e w' => e = .returned (.int .i64 (cmpPl x y)) ∧ ∃ q os', w' = grow (W.drewN q) os' := by
  obtain ⟨w1, hw1⟩ : ∃ w1, w1 = (W.alloc (.cells #[.int .i64 x.1, .string x.2] 156)).alloc (.cells #[.int .i64 y.1, .string y.2] 156) := ⟨_, rfl⟩
  have hg : w1 = grow W #[.cells #[.int .i64 x.1, .string x.2] 156, .cells #[.int .i64 y.1, .string y.2] 156] := by rw [hw1, alloc_eq_grow, alloc_eq_grow, grow_grow]; rfl
  have c0 : w1.cell? ⟨W.heap.size, 0, none⟩ = some (.int .i64 x.1) := by rw [hw1]; simp [go_sem]
  have c1 : w1.cell? ⟨W.heap.size, 1, none⟩ = some (.string x.2) := by rw [hw1]; simp [go_sem]
  have d0 : w1.cell? ⟨W.heap.size + 1, 0, none⟩ = some (.int .i64 y.1) := by rw [hw1]; simp [go_sem]
  have d1 : w1.cell? ⟨W.heap.size + 1, 1, none⟩ = some (.string y.2) := by rw [hw1]; simp [go_sem]
  replace hg := Aside0.mk hg
  have e0 := fun o => (((Below.refl _ w1).alloc (Nat.le_refl _) o).cell (World.block_lt_of_cell? _ _ c0)).trans c0
  have e1 := fun o => (((Below.refl _ w1).alloc (Nat.le_refl _) o).cell (World.block_lt_of_cell? _ _ c1)).trans c1
  have f0 := fun o => (((Below.refl _ w1).alloc (Nat.le_refl _) o).cell (World.block_lt_of_cell? _ _ d0)).trans d0
  have f1 := fun o => (((Below.refl _ w1).alloc (Nat.le_refl _) o).cell (World.block_lt_of_cell? _ _ d1)).trans d1
  unfold cmpPl
  generalize hA : cmpN x.1 y.1 = A
  generalize hB : cmpS x.2 y.2 = B
  have C1 := fun w => hA ▸ Compare62_calls x.1 y.1 w
  have C2 := fun w => hB ▸ Compare42_calls x.2 y.2 w
  clear hA hB
  have OC := fun w h0 h1 => Or2 w1.heap.size 2 A B w h0 h1
  generalize fst0 [A, B] = R at OC ⊢
  go_enter Tryz.func155, Tryz.ntmps155
  go_upto_region 1 with fail
  rw [← hw1]
  clear hw1
  go_region_held3 (fun V => V.cell? ⟨W.heap.size, 0, none⟩ = some (.int .i64 x.1) ∧ V.cell? ⟨W.heap.size, 1, none⟩ = some (.string x.2) ∧ V.cell? ⟨W.heap.size + 1, 0, none⟩ = some (.int .i64 y.1) ∧ V.cell? ⟨W.heap.size + 1, 1, none⟩ = some (.string y.2)) (first | exact ⟨c0, c1, d0, d1⟩ | exact ⟨e0 _, e1 _, f0 _, f1 _⟩)
    (first | (go_at_call 189; with_reducible refine (C1 _).mono ?_; rintro e w' ⟨rfl, rfl⟩) | (go_at_call 98; with_reducible refine (C2 _).mono ?_; rintro e w' ⟨rfl, rfl⟩) | (go_at_call 97; refine (OC _ (by simp [go_sem]) (by simp [go_sem])).mono ?_; rintro e w' ⟨rfl, rfl⟩))
  go_wp2
  go_ret
  refine ⟨rfl, ?_⟩
  rw [hg.out]
  rw [alloc_eq_grow, grow_grow]
  exact ⟨1, _, rfl⟩
end Go.Proofs.YthaoedfalkebbaaGreat
namespace Go.Proofs.YthaoedfalkebbaaGreat
open Go.RowKit Go.Maps Go.Sort Go.Lib Go.Proofs.YthaoedfalkebbaaGreatW.PrintWords Go.Proofs.YthaoedfalkebbaaGreatW.PrintLast Go.Proofs.YthaoedfalkebbaaGreatW.PrintMore
set_option linter.unusedVariables false
set_option linter.unusedSimpArgs false
set_option linter.unusedSectionVars false
structure Ord3 {α : Type} (c : α → α → Int) : Prop where
  refl : ∀ a, c a a = 0
  anti : ∀ a b, c a b < 0 ↔ 0 < c b a
  trans : ∀ a b d, c a b ≤ 0 → c b d ≤ 0 → c a d ≤ 0 ∧ (c a d = 0 → c a b = 0 ∧ c b d = 0)
section
variable {α β : Type} {c c1 c2 : α → α → Int}
theorem Ord3.lex (h1 : Ord3 c1) (h2 : Ord3 c2) : Ord3 (fun a b => if c1 a b ≠ 0 then c1 a b else c2 a b) where
  refl a := by simp [h1.refl, h2.refl]
  anti a b := by
    have := h1.anti a b
    have := h1.anti b a
    have := h2.anti a b
    by_cases e : c1 a b = 0
    · have e2 : c1 b a = 0 := by omega
      simpa [e, e2] using h2.anti a b
    · have e2 : c1 b a ≠ 0 := by omega
      simpa [e, e2] using h1.anti a b
  trans a b d := by
    intro hab hbd
    have key := h1.trans a b d
    have k2 := h2.trans a b d
    by_cases e1 : c1 a b = 0
    · by_cases e2 : c1 b d = 0
      · obtain ⟨k3, k4⟩ := key (by omega) (by omega)
        have k5 : c1 a d = 0 := by
          have := h1.anti a d
          have k6 := h1.trans d b a (by have := h1.anti b d; have := h1.anti d b; omega) (by have := h1.anti a b; have := h1.anti b a; omega)
          omega
        simp only [e1, e2, k5, ne_eq, not_true_eq_false, if_false] at hab hbd ⊢
        exact k2 hab hbd
      · simp only [e1, e2, ne_eq, not_true_eq_false, not_false_eq_true, if_false, if_true] at hab hbd ⊢
        obtain ⟨k3, k4⟩ := key (by omega) hbd
        have k5 : c1 a d ≠ 0 := fun h => e2 (k4 h).2
        simp only [k5, ne_eq, not_false_eq_true, if_true]
        exact ⟨k3, fun h => (by first | exact absurd h k5 | cases h)⟩
    · by_cases e2 : c1 b d = 0
      · simp only [e1, e2, ne_eq, not_true_eq_false, not_false_eq_true, if_false, if_true] at hab hbd ⊢
        obtain ⟨k3, k4⟩ := key hab (by omega)
        have k5 : c1 a d ≠ 0 := fun h => e1 (k4 h).1
        simp only [k5, ne_eq, not_false_eq_true, if_true]
        exact ⟨k3, fun h => (by first | exact absurd h k5 | cases h)⟩
      · simp only [e1, e2, ne_eq, not_false_eq_true, if_true] at hab hbd ⊢
        obtain ⟨k3, k4⟩ := key hab hbd
        have k5 : c1 a d ≠ 0 := fun h => e1 (k4 h).1
        simp only [k5, ne_eq, not_false_eq_true, if_true]
        exact ⟨k3, fun h => (by first | exact absurd h k5 | cases h)⟩
theorem Ord3.by {c : β → β → Int} (h : Ord3 c) (f : α → β) : Ord3 (fun a b => c (f a) (f b)) where
  refl a := h.refl _
  anti a b := h.anti _ _
  trans a b d := h.trans _ _ _
theorem ord_S : Ord3 cmpS where
  refl a := by simp [cmpS, less_irrefl]
  anti a b := by
    have h := gtr_less a.toList b.toList
    unfold cmpS
    cases h1 : Op.bytesLess a.toList b.toList <;> cases h2 : Op.bytesLess b.toList a.toList <;> cases h3 : (a.toList == b.toList) <;> simp_all
    have h4 := gtr_less b.toList a.toList
    simp_all
  trans a b d := by
    intro hab hbd
    have h1 : Op.bytesLess b.toList a.toList = false := by
      have h := gtr_less a.toList b.toList
      unfold cmpS at hab
      cases h1 : Op.bytesLess a.toList b.toList <;> cases h3 : (a.toList == b.toList) <;> simp_all
    have h2 : Op.bytesLess d.toList b.toList = false := by
      have h := gtr_less b.toList d.toList
      unfold cmpS at hbd
      cases h1 : Op.bytesLess b.toList d.toList <;> cases h3 : (b.toList == d.toList) <;> simp_all
    have h3 := le_trans' h1 h2
    have h4 := gtr_less a.toList d.toList
    rw [h3] at h4
    constructor
    · unfold cmpS
      cases h5 : Op.bytesLess a.toList d.toList <;> cases h6 : (a.toList == d.toList) <;> simp_all
    · intro h0
      have h6 : a.toList = d.toList := by
        unfold cmpS at h0
        cases h5 : Op.bytesLess a.toList d.toList <;> cases h6 : (a.toList == d.toList) <;> simp_all
      have e1 := (leq_iff a.toList b.toList).2 h1
      have e2 := (leq_iff b.toList d.toList).2 h2
      rw [← h6] at h2 e2
      have e3 : a.toList = b.toList := by
        rcases e1 with e1 | e1
        · rw [h2] at e1; cases e1
        · exact e1
      have e4 : b.toList = d.toList := by rw [← e3, h6]
      unfold cmpS
      simp [e3, e4, less_irrefl]
theorem ord_N : Ord3 cmpN where
  refl a := by simp [cmpN]
  anti a b := by unfold cmpN; split <;> split <;> (try split) <;> (try split) <;> omega
  trans a b d := by
    unfold cmpN
    intro h1 h2
    constructor
    · split <;> (try split) <;> (try omega)
    · intro h3
      split at h1 <;> split at h2 <;> (try split at h1) <;> (try split at h2) <;> (try split at h3) <;> (try split at h3) <;> first | omega | (constructor <;> (split <;> (try split) <;> omega))
theorem cmpS_eq {a b : ByteArray} (h : cmpS a b = 0) : a = b := by
  unfold cmpS at h
  split at h
  · omega
  · split at h
    · rename_i h2; exact toList_inj (by simpa using h2)
    · omega
theorem cmpN_eq {a b : Int} (h : cmpN a b = 0) : a = b := by
  unfold cmpN at h
  split at h
  · omega
  · split at h
    · assumption
    · omega
theorem cmpRd_lex (a b : Rd) : cmpRd a b = (if cmpS a.t b.t ≠ 0 then cmpS a.t b.t else if cmpN a.k b.k ≠ 0 then cmpN a.k b.k else if cmpS a.f b.f ≠ 0 then cmpS a.f b.f else cmpS a.u b.u) := by
  unfold cmpRd
  simp only [fst0]
  by_cases h : cmpS a.u b.u = 0 <;> simp [h]
theorem cmpPl_lex (a b : Pl) : cmpPl a b = (if cmpN a.1 b.1 ≠ 0 then cmpN a.1 b.1 else cmpS a.2 b.2) := by
  unfold cmpPl
  simp only [fst0]
  by_cases h : cmpS a.2 b.2 = 0 <;> simp [h]
theorem ord_Rd : Ord3 cmpRd := by
  have e : cmpRd = fun a b => (if cmpS a.t b.t ≠ 0 then cmpS a.t b.t else if cmpN a.k b.k ≠ 0 then cmpN a.k b.k else if cmpS a.f b.f ≠ 0 then cmpS a.f b.f else cmpS a.u b.u) := by
    funext a b; exact cmpRd_lex a b
  rw [e]
  exact (ord_S.by Rd.t).lex ((ord_N.by Rd.k).lex ((ord_S.by Rd.f).lex (ord_S.by Rd.u)))
theorem ord_Pl : Ord3 cmpPl := by
  have e : cmpPl = fun a b => (if cmpN a.1 b.1 ≠ 0 then cmpN a.1 b.1 else cmpS a.2 b.2) := by
    funext a b; exact cmpPl_lex a b
  rw [e]
  exact (ord_N.by Prod.fst).lex (ord_S.by Prod.snd)
theorem cmpRd_eq {a b : Rd} (h : cmpRd a b = 0) : a = b := by
  rw [cmpRd_lex] at h
  by_cases h1 : cmpS a.t b.t = 0
  · by_cases h2 : cmpN a.k b.k = 0
    · by_cases h3 : cmpS a.f b.f = 0
      · simp only [h1, h2, h3, ne_eq, not_true_eq_false, if_false] at h
        have e1 := cmpS_eq h1
        have e2 := cmpN_eq h2
        have e3 := cmpS_eq h3
        have e4 := cmpS_eq h
        cases a; cases b; simp_all
      · simp only [h1, h2, h3, ne_eq, not_true_eq_false, not_false_eq_true, if_false, if_true] at h
    · simp only [h1, h2, ne_eq, not_true_eq_false, not_false_eq_true, if_false, if_true] at h
  · simp only [h1, ne_eq, not_false_eq_true, if_true] at h
theorem cmpPl_eq {a b : Pl} (h : cmpPl a b = 0) : a = b := by
  rw [cmpPl_lex] at h
  by_cases h1 : cmpN a.1 b.1 = 0
  · simp only [h1, ne_eq, not_true_eq_false, if_false] at h
    exact Prod.ext (cmpN_eq h1) (cmpS_eq h)
  · simp only [h1, ne_eq, not_false_eq_true, if_true] at h
end
end Go.Proofs.YthaoedfalkebbaaGreat
namespace Go.Proofs.YthaoedfalkebbaaGreat
open Go.RowKit Go.Maps Go.Sort Go.Lib Go.Proofs.YthaoedfalkebbaaGreatW.PrintWords Go.Proofs.YthaoedfalkebbaaGreatW.PrintLast Go.Proofs.YthaoedfalkebbaaGreatW.PrintMore
set_option linter.unusedVariables false
set_option linter.unusedSimpArgs false
set_option linter.unusedSectionVars false
section
variable {α : Type} {c : α → α → Int}
theorem Ord3.swo (h : Ord3 c) : SWO (ltOf c) where
  irrefl x := by unfold ltOf; rw [h.refl]; rfl
  trans x y z h1 h2 := by
    unfold ltOf at *
    rw [decide_eq_true_iff] at *
    obtain ⟨k1, k2⟩ := h.trans x y z (by omega) (by omega)
    by_cases e : c x z = 0
    · have := (k2 e).1; omega
    · omega
  ntrans x y z h1 h2 := by
    unfold ltOf at *
    rw [decide_eq_false_iff_not] at *
    have a1 := h.anti y x
    have a2 := h.anti x y
    have a3 := h.anti z y
    have a4 := h.anti y z
    have a5 := h.anti z x
    have a6 := h.anti x z
    obtain ⟨k1, k2⟩ := h.trans z y x (by omega) (by omega)
    omega
theorem Ord3.tot (h : Ord3 c) (he : ∀ a b, c a b = 0 → a = b) (x y : α) (h1 : ltOf c x y = false) (h2 : ltOf c y x = false) : x = y := by
  unfold ltOf at *
  rw [decide_eq_false_iff_not] at *
  have := h.anti x y
  have := h.anti y x
  exact he _ _ (by omega)
/-- sorted by a comparison -/
def srtC (c : α → α → Int) (xs : List α) : List α := xs.mergeSort fun x y => !(ltOf c) y x
theorem srtC_length (xs : List α) : (srtC c xs).length = xs.length := by simp [srtC]
theorem srtC_perm (xs : List α) : (srtC c xs).Perm xs := List.mergeSort_perm _ _
theorem srtC_rising (h : Ord3 c) (xs : List α) : (srtC c xs).Pairwise (fun x y => c x y ≤ 0) := by
  have h1 := List.pairwise_mergeSort (le := fun x y => !(ltOf c) y x) (fun a b d => by
      simp only [Bool.not_eq_true']
      intro k1 k2
      exact h.swo.ntrans _ _ _ k2 k1) (fun a b => by
      unfold ltOf
      simp only [Bool.or_eq_true, Bool.not_eq_true', decide_eq_false_iff_not]
      have := h.anti a b
      omega) xs
  refine h1.imp fun {a b} hab => ?_
  unfold ltOf at hab
  simp only [Bool.not_eq_true', decide_eq_false_iff_not] at hab
  have := h.anti b a
  have := h.anti a b
  omega
end
def cellsP (q : Pl) : List Value := [.int .i64 q.1, .string q.2]
theorem cellsP_one (x : Pl) : ∀ u ∈ cellsP x, u.oneCell' = true := fun u hu => by
  simp [cellsP] at hu
  rcases hu with rfl | rfl <;> rfl
def dR : Kd Rd := Kd.flat cellsR 4 (fun _ => rfl) cellsR_one
def dP : Kd Pl := Kd.flat cellsP 2 (fun _ => rfl) cellsP_one
theorem info62 : (Tryz.prog.info? 156).map (fun i => (i.zero, i.size, i.bytes)) = some (some (.agg #[.int .i64 0, .string ByteArray.empty]), 2, 24) := by kernel_rfl
instance : Inhabited Rd := ⟨⟨⟨#[]⟩, 0, ⟨#[]⟩, ⟨#[]⟩⟩⟩
set_option maxRecDepth 100000 in
theorem sortR_calls (W : World) (base : Nat) (ok : Nat → Prop) (v : Value) (xs : List Rd) (h : dR.R 108 W base ok v xs) (hl : xs.length < 4611686018427387904) :
    Calls Tryz.prog 99 #[v, .func (.func 100) #[] #[]] W fun e w' => e = .returned (.tuple #[]) ∧ dR.R 108 w' base ok v (srtC cmpRd xs) ∧ W.grownBy w' v.ownBlock := by
  obtain ⟨inner, ho⟩ := Kd.R_own h
  rcases ho.2 with ⟨rfl, hn⟩ | ⟨g, cap, cur, rfl, hb, hh, _⟩
  · obtain rfl : xs = [] := List.eq_nil_of_length_eq_zero hn
    refine (AnyF.slices_SortFunc_none Tryz.sortR none 0 _ W).mono ?_
    rintro e w' ⟨rfl, rfl⟩
    exact ⟨rfl, by rw [show srtC cmpRd [] = [] by simp [srtC]]; exact Kd.R_nil _ _ _ _ _, ⟨rfl, rfl, rfl, Nat.le_refl _, fun _ _ _ => rfl⟩⟩
  · have eg : ∀ args w, (callFunc 100 args).run Tryz.prog w = .ok (.enter 100 args) w := enters_of Tryz.func100 (by kernel_rfl) rfl
    have hlt : g < W.heap.size := (Array.getElem?_eq_some_iff.1 hh).1
    have hc : CmpLays Tryz.prog 100 #[] cellsR 4 cmpRd g 0 xs.toArray.size W := fun m os dk _ x y => closure40 x y _
    have hcon := AnyQ.slices_SortFunc_total Tryz.sortR 4 Tryz.isAgg108 Tryz.sizeOf108 cellsR (fun _ => rfl) cellsR_one cmpRd ord_Rd.swo 100 #[] g 0 cap xs.toArray W eg hc (flat_holds h) hlt (by simpa using hl) (ord_Rd.tot fun _ _ => cmpRd_eq)
    rw [show xs.toArray.size = xs.length from rfl] at hcon
    refine Calls.mono hcon ?_
    rintro e w' ⟨rfl, n, os, rfl⟩
    obtain ⟨h2, h3⟩ := flat_sorted h (srtC_length (c := cmpRd) xs) n os
    rw [srtC_length] at h2
    exact ⟨rfl, h2, h3⟩
set_option maxRecDepth 100000 in
theorem sortP_calls (W : World) (base : Nat) (ok : Nat → Prop) (v : Value) (xs : List Pl) (h : dP.R 156 W base ok v xs) (hl : xs.length < 4611686018427387904) :
    Calls Tryz.prog 187 #[v, .func (.func 155) #[] #[]] W fun e w' => e = .returned (.tuple #[]) ∧ dP.R 156 w' base ok v (srtC cmpPl xs) ∧ W.grownBy w' v.ownBlock := by
  obtain ⟨inner, ho⟩ := Kd.R_own h
  rcases ho.2 with ⟨rfl, hn⟩ | ⟨g, cap, cur, rfl, hb, hh, _⟩
  · obtain rfl : xs = [] := List.eq_nil_of_length_eq_zero hn
    refine (AnyF.slices_SortFunc_none Tryz.sortP none 0 _ W).mono ?_
    rintro e w' ⟨rfl, rfl⟩
    exact ⟨rfl, by rw [show srtC cmpPl [] = [] by simp [srtC]]; exact Kd.R_nil _ _ _ _ _, ⟨rfl, rfl, rfl, Nat.le_refl _, fun _ _ _ => rfl⟩⟩
  · have eg : ∀ args w, (callFunc 155 args).run Tryz.prog w = .ok (.enter 155 args) w := enters_of Tryz.func155 (by kernel_rfl) rfl
    have hlt : g < W.heap.size := (Array.getElem?_eq_some_iff.1 hh).1
    have hc : CmpLays Tryz.prog 155 #[] cellsP 2 cmpPl g 0 xs.toArray.size W := fun m os dk _ x y => closure52 x y _
    have hcon := AnyQ.slices_SortFunc_total Tryz.sortP 2 Tryz.isAgg156 Tryz.sizeOf156 cellsP (fun _ => rfl) cellsP_one cmpPl ord_Pl.swo 155 #[] g 0 cap xs.toArray W eg hc (flat_holds h) hlt (by simpa using hl) (ord_Pl.tot fun _ _ => cmpPl_eq)
    rw [show xs.toArray.size = xs.length from rfl] at hcon
    refine Calls.mono hcon ?_
    rintro e w' ⟨rfl, n, os, rfl⟩
    obtain ⟨h2, h3⟩ := flat_sorted h (srtC_length (c := cmpPl) xs) n os
    rw [srtC_length] at h2
    exact ⟨rfl, h2, h3⟩
end Go.Proofs.YthaoedfalkebbaaGreat
