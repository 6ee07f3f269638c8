import Derived.Test.YtedcnpaomphffaaMK
import Derived.Test.YtedcnpaomphffaaK1
import Derived.Laws.CopyRow
import Derived.Laws.CopyOwn
import Derived.Laws.Tables
namespace Go.Proofs.Ytedcnpaomphffaa
open Go.RowKit Go.Maps Go.Sort Go.Lib Go.Shelf Go.Proofs.YtedcnpaomphffaaW.PrintWords Go.Proofs.YtedcnpaomphffaaW.PrintLast Go.Proofs.YtedcnpaomphffaaW.PrintMore
set_option linter.unusedVariables false
set_option linter.unusedSimpArgs false
set_option linter.unusedSectionVars false
/-! ### Repeat of one number -/
theorem copy_step {P : Program} {ops : Array Oper} {o : Oper} {a : Act} {Q' : Exit → Act → World → Prop} {Kc : Act → World → Prop} {W w1 : World} {s x : Operand} {t : TypeId} {v u v1 : Value} (hw : Region.wanted o (yielded ops a.tmps) = true)
    (ho : o.op = .call { callee := .builtin .copy, args := #[s, x], argTypes := #[t, t] }) (hs : a.eval s = v) (hx : a.eval x = u) (hr : (Builtin.copy_ #[t, t] o.type #[v, u]).run P W = .ok v1 w1) (h : Kc (a.put o.dst v1) w1) :
    if Region.wanted o (yielded ops a.tmps) = true then Oper.wp P o a W Kc Q' else Kc (a.put o.dst undef) W := by
  rw [if_pos hw]
  unfold Oper.wp execOp
  simp only [ho, resolve, invoke, builtin, Sem.run_bind, Sem.run_pure, Result.andThen_ok, List.map_toArray, List.map_cons, List.map_nil, hs, hx, hr]
  exact h
theorem copy_list {P : Program} {ops : Array Oper} {o : Oper} {rest : List Oper} {a : Act} {Q' : Exit → Act → World → Prop} {W w1 : World} {s x : Operand} {t : TypeId} {v u v1 : Value} (hgd : o.guard = none)
    (ho : o.op = .call { callee := .builtin .copy, args := #[s, x], argTypes := #[t, t] }) (hs : a.eval s = v) (hx : a.eval x = u) (hr : (Builtin.copy_ #[t, t] o.type #[v, u]).run P W = .ok v1 w1) (h : wpList P ops Q' rest (a.put o.dst v1) w1) :
    wpList P ops Q' (o :: rest) a W := by
  refine wpList_plain hgd fun K hK => ?_
  unfold Oper.wp execOp
  simp only [ho, resolve, invoke, builtin, Sem.run_bind, Sem.run_pure, Result.andThen_ok, List.map_toArray, List.map_cons, List.map_nil, hs, hx, hr]
  exact hK _ _ h
/-- a block of which the first k cells are filled -/
structure Fil (W wr : World) (gb n k : Nat) (x : Int) : Prop where
  ex : ∃ cur : Array Value, wr.heap[gb]? = some (.cells cur 3 (0, 0)) ∧ cur.size = n ∧ ∀ j, j < k → cur[j]? = some (.int .i64 x)
  below : Below W.heap.size W wr
theorem Fil.copy {W wr : World} {gb n k m s c : Nat} {x : Int} {a : Addr} (h : Fil W wr gb n k x) (hk : k ≤ n) (hm : m = Nat.min s (n - k)) (hsrc : ∀ j, j < m → wr.cell? (a.add j) = some (.int .i64 x)) (hgb : W.heap.size ≤ gb) :
    ∃ w', (Builtin.copy_ #[22, 22] 3 #[.slice (some ⟨gb, k, none⟩) (n - k) (n - k), .slice (some a) s c]).run Try.prog wr = .ok (.int .i64 (m : Int)) w' ∧ Fil W w' gb n (k + m) x := by
  obtain ⟨⟨cur, h1, h2, h3⟩, B⟩ := h
  have hle : m ≤ n - k := by rw [hm]; exact Nat.min_le_right _ _
  have hrun := run_copy_row (P := Try.prog) wr 22 22 3 3 gb k (n - k) (n - k) a s c cur 3 (List.replicate m (.int .i64 x)) Try.underlying22 (by
    obtain ⟨i0, hi, hzz⟩ := Option.map_eq_some_iff.1 info3
    simp only [Prod.mk.injEq] at hzz
    rw [hi]
    simp [hzz.2.1]) h1 (by rw [List.length_replicate, hm]) (fun j v hj => by
      obtain ⟨hj1, rfl⟩ := List.getElem?_eq_some_iff.1 hj
      rw [List.length_replicate] at hj1
      rw [List.getElem_replicate]
      exact hsrc j hj1) (by rw [List.length_replicate]; omega) (fun v hv => by rw [List.eq_of_mem_replicate hv]; rfl)
  rw [List.length_replicate] at hrun
  have hsz : gb < wr.heap.size := (Array.getElem?_eq_some_iff.1 h1).1
  refine ⟨_, hrun, ⟨_, setRow_heap wr gb cur _ 3 (0, 0) h1, ?_, fun j hj => ?_⟩, ?_⟩
  · simp
    omega
  · rw [List.getElem?_toArray, List.append_assoc, List.getElem?_append]
    split
    · rename_i hlt
      rw [List.length_take] at hlt
      rw [List.getElem?_take, if_pos (by omega), Array.getElem?_toList]
      exact h3 j (by omega)
    · rename_i hge
      rw [List.length_take, Array.length_toList] at hge
      have e1 : min k cur.size = k := by omega
      rw [List.length_take, Array.length_toList, e1]
      rw [List.getElem?_append_left (by rw [List.length_replicate]; omega), List.getElem?_replicate, if_pos (by omega)]
  · exact below_setRow B hgb _
def RpJ (W : World) (gb n : Nat) (x : Int) (v8 : Value) (wr : World) : Prop := ∃ k : Nat, v8 = .int .i64 (k : Int) ∧ 1 ≤ k ∧ k ≤ n ∧ Fil W wr gb n k x
theorem Fil.row {W wr : World} {gb n : Nat} {x : Int} (h : Fil W wr gb n n x) (hgb : W.heap.size ≤ gb) (hn : n ≤ 65536) : RowI wr W.heap.size (.slice (some ⟨gb, 0, none⟩) n n) (List.replicate n x) := by
  obtain ⟨⟨cur, h1, h2, h3⟩, B⟩ := h
  have e : cur.toList = (List.replicate n x).map (Value.int .i64) := by
    refine List.ext_getElem? fun j => ?_
    rw [Array.getElem?_toList]
    by_cases hj : j < n
    · rw [h3 j hj, List.getElem?_map, List.getElem?_replicate, if_pos hj]
      rfl
    · rw [Array.getElem?_eq_none (by omega), List.getElem?_eq_none (by simp; omega)]
  refine ⟨(List.replicate n x).map (Value.int .i64), ⟨by simp, .inr ⟨gb, n, cur, by simp, hgb, h1, by simp, by simp only [maxLen]; omega, by omega, ?_⟩⟩, reps_map _⟩
  rw [e, List.length_replicate, Nat.mul_one, List.take_of_length_le (by simp)]
theorem wrapU (n : Nat) (hn : n ≤ 65536) : IntKind.u64.wrap (n : Int) = (n : Int) := IntWalk.u64_in _ (by omega)
set_option maxHeartbeats 4000000 in
set_option maxRecDepth 100000 in
theorem repeat_calls (gs c n : Nat) (x : Int) (w : World) (hs : w.cell? ⟨gs, 0, none⟩ = some (.int .i64 x)) (h1 : 1 ≤ n) (hn : n ≤ 4096) :
    Calls Try.prog 48 #[.slice (some ⟨gs, 0, none⟩) 1 c, .int .i64 (n : Int)] w fun e w' => ∃ gb, e = .returned (.slice (some ⟨gb, 0, none⟩) n n) ∧ RowI w' w.heap.size (.slice (some ⟨gb, 0, none⟩) n n) (List.replicate n x) ∧ Below w.heap.size w w' := by
  have MU := Any.bits_Mul Try.mulU 1 n (by omega) (by omega) w
  rw [show 1 * n / 18446744073709551616 = 0 from Nat.div_eq_of_lt (by omega), show 1 * n % 18446744073709551616 = n by rw [Nat.one_mul]; exact Nat.mod_eq_of_lt (by omega)] at MU
  have MU' : Calls Try.prog 63 #[.int .u64 1, .int .u64 (n : Int)] w fun e w' => e = .returned (.tuple #[.int .u64 0, .int .u64 (n : Int)]) ∧ w = w' := MU.mono fun e w' h => ⟨h.1, h.2.symm⟩
  clear MU
  have hmk := madeI n (by omega)
  obtain ⟨gb, hgb⟩ : ∃ gb, gb = w.heap.size := ⟨_, rfl⟩
  obtain ⟨w1, hw1⟩ : ∃ w1, w1 = w.alloc (.cells (madeCells #[.int .i64 0] n) 3) := ⟨_, rfl⟩
  have B1 : Below w.heap.size w w1 := by rw [hw1]; exact (Below.refl _ w).alloc (Nat.le_refl _) _
  have F0 : Fil w w1 gb n 0 x := ⟨⟨_, by rw [hw1, hgb]; exact heap_alloc_new w _, by rw [madeCells_one]; simp, fun j hj => by omega⟩, B1⟩
  have hs1 := (B1.cell (World.block_lt_of_cell? _ _ hs)).trans hs
  obtain ⟨w2, hrun, F1⟩ := F0.copy (m := 1) (s := 1) (c := c) (a := ⟨gs, 0, none⟩) (Nat.zero_le _) (by rw [Nat.sub_zero]; exact (Nat.min_eq_left h1).symm) (fun j hj => by
    obtain rfl : j = 0 := by omega
    rw [add_plain]
    exact hs1) (by omega)
  rw [Nat.zero_add] at F1
  rw [Nat.sub_zero] at hrun
  have J0 : RpJ w gb n x (.int .i64 1) w2 := ⟨1, rfl, Nat.le_refl _, h1, F1⟩
  have wu := wrapU n (by omega)
  have wi : IntKind.i64.wrap (n : Int) = (n : Int) := IntWalk.i64_in _ (by omega)
  have hrow : ∀ wr, Fil w wr gb n n x → RowI wr w.heap.size (.slice (some ⟨gb, 0, none⟩) n n) (List.replicate n x) := fun wr h => h.row (by omega) (by omega)
  have hle : w.heap.size ≤ gb := by omega
  clear F0 F1 hs1 B1
  replace J0 := Aside0.mk J0
  replace hrow := Aside0.mk hrow
  go_enter Try.func48, Try.ntmps48
  go_wp2_with fail
  refine MU'.mono ?_
  rintro e w' ⟨rfl, rfl⟩
  go_upto_region 7 with (fail)
  rw [← hw1, ← hgb]
  clear hw1 hmk
  replace hgb := Aside0.mk hgb
  go_wp2_with (refine copy_list rfl rfl rfl rfl hrun ?_)
  go_loopw [8] (fun v8 wr => RpJ w gb n x v8 wr) (fun v8 _ => n - (intOf v8).toNat)
  case atStart => exact J0.out
  case round =>
    clear J0 hrun
    obtain ⟨k, rfl, hk1, hk, F⟩ := hrel
    by_cases hlt : k < n
    · have hcs : ∀ j, j < Nat.min k (n - k) → wr.drew.cell? ((⟨gb, 0, none⟩ : Addr).add j) = some (.int .i64 x) := fun j hj => by
        obtain ⟨⟨cur, h1, h2, h3⟩, B⟩ := F
        have hj2 : j < k := Nat.lt_of_lt_of_le hj (Nat.min_le_left _ _)
        rw [add_plain]
        show wr.cell? _ = _
        rw [cell_of_row wr gb j _ 3 (0, 0) h1]
        exact h3 j hj2
      obtain ⟨w3, hrun, F3⟩ := Fil.copy (wr := wr.drew) (m := Nat.min k (n - k)) (s := k) (c := n) (a := ⟨gb, 0, none⟩) ⟨F.ex, F.below.grown (drewG wr) F.below.size (by simp)⟩ hk rfl hcs hle
      have hm1 : 1 ≤ Nat.min k (n - k) := by show 1 ≤ min k (n - k); omega
      have hm2 : Nat.min k (n - k) ≤ n - k := Nat.min_le_right _ _
      have N : RpJ w gb n x (.int .i64 ((k : Int) + (Nat.min k (n - k) : Nat))) w3 := ⟨k + Nat.min k (n - k), by simp, by omega, by omega, F3⟩
      generalize Nat.min k (n - k) = m at *
      have cut1 := cutOff (P := Try.prog) 22 3 Try.underlying22 info3 (some ⟨gb, 0, none⟩) n n k hk
      have cut2 := cutTo (P := Try.prog) 22 3 Try.underlying22 info3 (some ⟨gb, 0, none⟩) n n k hk
      rw [if_neg (by omega)] at cut1
      have e1 : (some (⟨gb, 0, none⟩ : Addr)).map (·.add (k * 1)) = some ⟨gb, k, none⟩ := by simp only [Option.map_some, add_plain, Nat.mul_one]
      rw [e1] at cut1
      have hw : IntKind.i64.wrap ((k : Int) + (m : Int)) = (k : Int) + (m : Int) := IntWalk.i64_in _ (by omega)
      clear F F3 hcs e1
      replace N := Aside0.mk N
      go_wp2_with fail
      go_region_held3 (fun _ => True) (trivial) (refine copy_step (by rfl) (by rfl) (by rfl) (by rfl) hrun ?_)
      go_wp2
      refine ⟨N.out, ?_⟩
      simp [intOf]
      omega
    · obtain rfl : k = n := by omega
      have R := hrow.out wr F
      have B := F.below
      clear F
      replace R := Aside0.mk R
      go_wp2
      go_ret
      exact ⟨gb, rfl, R.out, B⟩
end Go.Proofs.Ytedcnpaomphffaa
namespace Go.Proofs.Ytedcnpaomphffaa
open Go.RowKit Go.Maps Go.Sort Go.Lib Go.Shelf Go.Proofs.YtedcnpaomphffaaW.PrintWords Go.Proofs.YtedcnpaomphffaaW.PrintLast Go.Proofs.YtedcnpaomphffaaW.PrintMore
set_option linter.unusedVariables false
set_option linter.unusedSimpArgs false
set_option linter.unusedSectionVars false
/-! ### rows of rows of one's own; who leads to a place -/
structure Rk (w wr : World) (base bk n : Nat) (ss : List Sv) (R : Nat → List Int) : Prop where
  below : Below w.heap.size w wr
  next : wr.heap[bk]? = some (.cells (ss.map mvS).toArray 22 (0, 0))
  sl : ss.length = n
  rows : ∀ i (hi : i < ss.length), dI.R 3 wr base (fun _ => True) (mvS ss[i]) (R i)
  apart : ∀ i j (hi : i < ss.length) (hj : j < ss.length), i ≠ j → ∀ k, (mvS ss[i]).ownBlock = some k → (mvS ss[j]).ownBlock ≠ some k
  o1 : w.heap.size ≤ bk
  o2 : bk < base
  o7 : base ≤ wr.heap.size
section
variable {w wr w1 w2 : World} {base bk n : Nat} {ss : List Sv} {R : Nat → List Int}
theorem Rk.congr {R' : Nat → List Int} (h : Rk w wr base bk n ss R) (e : ∀ i, i < n → R i = R' i) : Rk w wr base bk n ss R' :=
  { h with rows := fun i hi => by rw [← e i (by rw [← h.sl]; exact hi)]; exact h.rows i hi }
theorem Rk.typed (h : Rk w wr base bk n ss R) {i : Nat} (hi : i < ss.length) {k : Nat} (hk : (mvS ss[i]).ownBlock = some k) : base ≤ k ∧ k < wr.heap.size ∧ ∃ cells, wr.heap[k]? = some (.cells cells 3 (0, 0)) := flat_typed (h.rows i hi) k hk
theorem Rk.put (h : Rk w wr base bk n ss R) {i : Nat} (hi : i < ss.length) {s : Sv} {l : List Int} (hg : wr.grownBy w1 (mvS ss[i]).ownBlock) (hrow : dI.R 3 w1 base (fun _ => True) (mvS s) l) (hown : (mvS s).ownBlock = (mvS ss[i]).ownBlock ∨ ∃ k, (mvS s).ownBlock = some k ∧ wr.heap.size ≤ k) :
    Rk w (w1.setCell ⟨bk, i, none⟩ (mvS s)) base bk n (ss.set i s) (fun t => if t = i then l else R t) := by
  have lo : ∀ k, (mvS ss[i]).ownBlock = some k → base ≤ k := fun k hk => (h.typed hi hk).1
  have o2 := h.o2
  have o1 := h.o1
  have hs := grown_set w1 bk i (mvS s)
  have hnb : w1.heap[bk]? = some (.cells (ss.map mvS).toArray 22 (0, 0)) := (hg.block bk (Array.getElem?_eq_some_iff.1 h.next).1 (fun e => by have := lo _ e.symm; omega)).trans h.next
  have up : ∀ v xs, dI.R 3 w1 base (fun _ => True) v xs → dI.R 3 (w1.setCell ⟨bk, i, none⟩ (mvS s)) base (fun _ => True) v xs := fun v xs hr => row_grown hr hs (fun k hk e => by
    have := (flat_typed hr _ hk).1
    injection e with e
    omega)
  have B1 : Below w.heap.size w w1 := h.below.grown hg h.below.size (fun k hk => by have := lo k hk; omega)
  have cross : ∀ j (hj : j < ss.length), j ≠ i → ∀ k, (mvS ss[j]).ownBlock = some k → (mvS s).ownBlock ≠ some k := by
    intro j hj e k hk hk2
    rcases hown with h1 | ⟨k', h1, h2⟩
    · rw [h1] at hk2
      exact h.apart j i hj hi e k hk hk2
    · rw [h1] at hk2
      injection hk2 with hk2
      have := (h.typed hj hk).2.1
      omega
  refine ⟨B1.grown hs B1.size (fun k hk => by injection hk with hk; omega), ?_, by rw [List.length_set]; exact h.sl, ?_, ?_, o1, o2, Nat.le_trans h.o7 (Nat.le_trans hg.size hs.size)⟩
  · have := blk_set hnb i (mvS s)
    rw [this]
    congr 2
    simp [List.map_set]
  · intro j hj
    rw [List.length_set] at hj
    by_cases e : j = i
    · subst e
      rw [if_pos rfl, List.getElem_set_self]
      exact up _ _ hrow
    · rw [if_neg e, List.getElem_set_ne (fun e2 => e e2.symm)]
      exact up _ _ (row_grown (h.rows j hj) hg (fun k hk => h.apart j i hj hi e k hk))
  · intro a b ha hb hab k hk
    have ha' : a < ss.length := by simpa using ha
    have hb' : b < ss.length := by simpa using hb
    by_cases ea : a = i
    · subst ea
      rw [List.getElem_set_self] at hk
      rw [List.getElem_set_ne hab]
      exact fun e => cross b hb' (fun e2 => hab e2.symm) k e hk
    · rw [List.getElem_set_ne (fun e2 => ea e2.symm)] at hk
      by_cases eb : b = i
      · subst eb
        rw [List.getElem_set_self]
        exact cross a ha' ea k hk
      · rw [List.getElem_set_ne (fun e2 => eb e2.symm)]
        exact h.apart a b ha' hb' hab k hk
theorem Rk.nextAt (h : Rk w wr base bk n ss R) (i : Nat) (hi : i < ss.length) : wr.cell? ⟨bk, i, none⟩ = some (mvS ss[i]) ∧ wr.frozen? ⟨bk, i, none⟩ = false := by
  refine ⟨?_, blk_frozen h.next _⟩
  rw [cell_of_row wr bk i _ 22 (0, 0) h.next]
  simp [hi]
theorem Rk.start {w : World} {n : Nat} (hn : n ≤ 65536) : Rk w (w.alloc (.cells (madeCells #[.slice none 0 0] n) 22)) (w.heap.size + 1) w.heap.size n (List.replicate n none) (fun _ => []) where
  below := (Below.refl _ w).alloc (Nat.le_refl _) _
  next := by rw [heap_alloc_new, madeCells_one]; simp [mvS]
  sl := by simp
  rows := fun i h => by simp only [List.getElem_replicate]; exact Kd.R_nil _ _ _ _ _
  apart := fun i j h1 h2 _ k hk => by simp only [List.getElem_replicate] at hk; cases hk
  o1 := Nat.le_refl _
  o2 := by omega
  o7 := by simp
/-- one more in a row: what the append and the store need -/
theorem Rk.more (h : Rk w wr base bk n ss R) {i : Nat} (hi : i < ss.length) (x : Int) (hl : (R i).length ≤ 65536) : ∃ (A : Option Addr) (m c : Nat) (A' : Option Addr) (m' c' : Nat) (w9 : World) (ss' : List Sv), wr.cell? ⟨bk, i, none⟩ = some (.slice A m c) ∧
    (Builtin.append_ #[22, 22] 22 #[.slice A m c, .slice (some ⟨wr.heap.size, 0, none⟩) 1 1]).run Try.prog (wr.alloc (.cells #[.int .i64 x] 3)) = .ok (.slice A' m' c') w9 ∧
    w9.cell? ⟨bk, i, none⟩ = some (.slice A m c) ∧ w9.frozen? ⟨bk, i, none⟩ = false ∧ Rk w (w9.setCell ⟨bk, i, none⟩ (.slice A' m' c')) base bk n ss' (fun t => if t = i then R i ++ [x] else R t) := by
  have rowp := h.rows i hi
  obtain ⟨v', w9, hrun, hr9, hg9, hown9⟩ := row_app rowp x hl h.o7
  obtain ⟨s', rfl, _, _⟩ := row_sv hr9
  have hat := h.nextAt i hi
  have PUT := Rk.put h hi hg9 hr9 hown9
  obtain ⟨A, m, c, hmv⟩ := mvS_slice ss[i]
  obtain ⟨A', m', c', hmv'⟩ := mvS_slice s'
  have lo : ∀ k, (mvS ss[i]).ownBlock = some k → base ≤ k := fun k hk => (h.typed hi hk).1
  have o2 := h.o2
  have hbn9 := (hg9.block bk (Array.getElem?_eq_some_iff.1 h.next).1 (fun e => by have := lo _ e.symm; omega)).trans h.next
  have x2 := hg9.cell hat.1 (fun e => by have := lo _ e.symm; dsimp only at this; omega)
  have z2 := hat.1
  rw [hmv] at z2 x2 hrun
  rw [hmv'] at hrun PUT
  exact ⟨A, m, c, A', m', c', w9, _, z2, hrun, x2, blk_frozen hbn9 _, PUT⟩
end
/-- the places that lead to one, of the first i -/
def bckT (g : List Dp) (names : List Int) (i p : Nat) : List Nat := (List.range i).filter (fun q => leadsB g (nm names q) (nm names p))
theorem bckT_succ (g : List Dp) (names : List Int) (i p : Nat) : bckT g names (i + 1) p = if leadsB g (nm names i) (nm names p) = true then bckT g names i p ++ [i] else bckT g names i p := by
  unfold bckT
  rw [List.range_succ, List.filter_append]
  by_cases h : leadsB g (nm names i) (nm names p) = true
  · rw [if_pos h]; simp [List.filter_cons, h]
  · rw [if_neg h]; simp [List.filter_cons, h]
theorem bckT_len (g : List Dp) (names : List Int) (i p : Nat) : (bckT g names i p).length ≤ i := by
  unfold bckT
  have := List.length_filter_le (fun q => leadsB g (nm names q) (nm names p)) (List.range i)
  rwa [List.length_range] at this
def F1J (w : World) (base bk : Nat) (g : List Dp) (names : List Int) (v : Value) (wr : World) : Prop := ∃ (i : Nat) (ss : List Sv), v = .int .i64 (i : Int) ∧ i ≤ names.length ∧ Rk w wr base bk names.length ss (fun t => upI (bckT g names i t))
def F2J (w : World) (base bk : Nat) (g : List Dp) (names : List Int) (i : Nat) (v : Value) (wr : World) : Prop := ∃ (e : Nat) (ss : List Sv), v = .int .i64 (e : Int) ∧ e ≤ (adj g names i).length ∧ Rk w wr base bk names.length ss (fun t => upI (if t ∈ (adj g names i).take e then bckT g names (i + 1) t else bckT g names i t))
theorem F2J.next {w wr : World} {base bk : Nat} {g : List Dp} {names : List Int} {i e j : Nat} {ss : List Sv} (he : e < (adj g names i).length) (hj : (adj g names i)[e] = j) (h : Rk w wr base bk names.length ss (fun t => if t = j then upI (if j ∈ (adj g names i).take e then bckT g names (i + 1) j else bckT g names i j) ++ [(i : Int)] else upI (if t ∈ (adj g names i).take e then bckT g names (i + 1) t else bckT g names i t))) :
    F2J w base bk g names i (.int .i64 ((e : Int) + 1)) wr := by
  have htk : (adj g names i).take (e + 1) = (adj g names i).take e ++ [j] := by rw [List.take_succ_eq_append_getElem he, hj]
  have hjn : j ∉ (adj g names i).take e := fun hm => by
    obtain ⟨q, hq, e2⟩ := List.mem_take_iff_getElem.1 hm
    have := (List.getElem_inj (adj_nodup g names i)).1 (e2.trans hj.symm)
    omega
  have hl : leadsB g (nm names i) (nm names j) = true := (mem_adj.1 (hj ▸ List.getElem_mem he)).2
  refine ⟨e + 1, ss, by simp, he, h.congr fun t ht => ?_⟩
  rw [htk]
  by_cases et : t = j
  · subst et
    simp only [if_true, if_neg hjn]
    rw [if_pos (by simp), bckT_succ, if_pos hl, upI_app]
    rfl
  · simp only [if_neg et]
    have : (t ∈ (adj g names i).take e ++ [j]) ↔ t ∈ (adj g names i).take e := by
      rw [List.mem_append, List.mem_singleton]
      exact ⟨fun x => x.resolve_right et, .inl⟩
    simp only [this]
theorem F2J.done {w wr : World} {base bk : Nat} {g : List Dp} {names : List Int} {i : Nat} {ss : List Sv} (hi : i < names.length) (h : Rk w wr base bk names.length ss (fun t => upI (if t ∈ (adj g names i).take (adj g names i).length then bckT g names (i + 1) t else bckT g names i t))) : F1J w base bk g names (.int .i64 ((i : Int) + 1)) wr := by
  refine ⟨i + 1, ss, by simp, hi, h.congr fun t ht => ?_⟩
  rw [List.take_length]
  by_cases hm : t ∈ adj g names i
  · rw [if_pos hm]
  · rw [if_neg hm, bckT_succ, if_neg (fun hl => hm (mem_adj.2 ⟨ht, hl⟩))]
/-- the search under way -/
def B1J (W5 : World) (base2 gd : Nat) (g : List Dp) (names : List Int) (t : Nat) (v11 v12 : Value) (wr : World) : Prop := ∃ (i : Nat) (qs : List Nat) (ds : List Int), v12 = .int .i64 (i : Int) ∧ i ≤ qs.length ∧ BQ g names t i qs ds ∧ RowI wr base2 v11 (upI qs) ∧ RowI wr W5.heap.size (.slice (some ⟨gd, 0, none⟩) names.length names.length) ds ∧ Below W5.heap.size W5 wr ∧ base2 ≤ wr.heap.size
def B2J (W5 : World) (base2 gd : Nat) (g : List Dp) (names : List Int) (t i p0 : Nat) (v11 v75 : Value) (wr : World) : Prop := ∃ (e : Nat) (qs : List Nat) (ds : List Int), v75 = .int .i64 (e : Int) ∧ e ≤ (bck g names p0).length ∧ BQ g names t i qs ds ∧ qs[i]? = some p0 ∧ (∀ k ∈ (bck g names p0).take e, k ∈ qs) ∧ RowI wr base2 v11 (upI qs) ∧ RowI wr W5.heap.size (.slice (some ⟨gd, 0, none⟩) names.length names.length) ds ∧ Below W5.heap.size W5 wr ∧ base2 ≤ wr.heap.size
theorem RowI.lit {W : World} {g : Nat} {x : Int} (base : Nat) (h : W.heap[g]? = some (.cells #[.int .i64 x] 3 (0, 0))) (hb : base ≤ g) : RowI W base (.slice (some ⟨g, 0, none⟩) 1 1) [x] :=
  ⟨[.int .i64 x], ⟨rfl, .inr ⟨g, 1, _, rfl, hb, h, Nat.le_refl _, by simp only [maxLen]; omega, by simp, by simp⟩⟩, reps_map [x]⟩
def FarPost2 (w : World) (g : List Dp) (names : List Int) (t : Nat) (e : Ending) (w' : World) : Prop := ∃ gd ds, e = .returned (.slice (some ⟨gd, 0, none⟩) names.length names.length) ∧ RowI w' w.heap.size (.slice (some ⟨gd, 0, none⟩) names.length names.length) ds ∧ Far g names ds (nm names t) ∧ Below w.heap.size w w'
end Go.Proofs.Ytedcnpaomphffaa
namespace Go.Proofs.Ytedcnpaomphffaa
open Go.RowKit Go.Maps Go.Sort Go.Lib Go.Shelf Go.Proofs.YtedcnpaomphffaaW.PrintWords Go.Proofs.YtedcnpaomphffaaW.PrintLast Go.Proofs.YtedcnpaomphffaaW.PrintMore
set_option linter.unusedVariables false
set_option linter.unusedSimpArgs false
set_option linter.unusedSectionVars false
/-! ### far -/
set_option maxHeartbeats 16000000 in
set_option maxRecDepth 100000 in
theorem far_calls {pw bn bi : Nat} {At : Option Addr} {ct : Nat} {g : List Dp} {names : List Int} {ss : List Sv} {cs0 : List Int} (w : World) (h : WbC w pw bn bi At ct g names ss cs0) (hnl : names.length ≤ 4096) (hnn : names.Nodup) (hg : ∀ d ∈ g, d.f ∈ names ∧ d.t ∈ names) (t : Nat) (ht : t < names.length) :
    Calls Try.prog 26 #[.pointer (some ⟨pw, 0, none⟩), .int .i64 (t : Int)] w (FarPost2 w g names t) := by
  obtain ⟨w1, hw1⟩ : ∃ w1, w1 = w.alloc (.cells (madeCells #[.slice none 0 0] names.length) 22) := ⟨_, rfl⟩
  obtain ⟨bk, hbk⟩ : ∃ b, b = w.heap.size := ⟨_, rfl⟩
  obtain ⟨base, hbase⟩ : ∃ b, b = w.heap.size + 1 := ⟨_, rfl⟩
  have R0 := @Rk.start w names.length (by omega)
  rw [← hw1, ← hbase, ← hbk] at R0
  have hmk := madeS names.length (by omega) w
  rw [← hw1, ← hbk] at hmk
  have J1 : F1J w base bk g names (.int .i64 0) w1 := ⟨0, _, rfl, Nat.zero_le _, R0.congr fun i hi => by simp [bckT, upI]⟩
  have hW : ∀ W, Below w.heap.size w W → WbC W pw bn bi At ct g names ss cs0 := fun W B => h.below B
  have c0 := h.c0
  have B0 := R0.below
  have c1' := (hW w1 B0).c1
  clear R0 h
  replace hW := Aside0.mk hW
  replace hnn := Aside0.mk hnn
  replace hg := Aside0.mk hg
  replace hw1 := Aside0.mk hw1
  replace hbk := Aside0.mk hbk
  replace hbase := Aside0.mk hbase
  go_enter Try.func26, Try.ntmps26
  go_wp2_with fail
  clear hmk c0
  go_loopw [26] (fun v wr => F1J w base bk g names v wr) (fun v _ => names.length - (intOf v).toNat)
  case atStart => exact J1
  case round =>
    clear J1 c1' B0
    obtain ⟨i, ss1, rfl, hi, K⟩ := hrel
    have hV := hW.out wr K.below
    have c0 := hV.c0
    have c1 := hV.c1
    by_cases hlt : i < names.length
    · have his : i < ss.length := by rw [hV.sl]; exact hlt
      have q1 := hV.next i his
      obtain ⟨Ar, cr, hmr, hCr⟩ := hV.rows i his
      have J2 : F2J w base bk g names i (.int .i64 0) wr := ⟨0, ss1, rfl, Nat.zero_le _, K.congr fun t ht => by simp⟩
      have hCr' : ∀ W, Below w.heap.size w W → ∃ A c, mvS ss[i] = .slice A (adj g names i).length c ∧ dI.C W A (upI (adj g names i)).length (upI (adj g names i)) := fun W B => (hW.out W B).rows i his
      rw [hmr] at q1 hCr'
      have hal := adj_len g names i
      clear K hV hCr hmr
      replace hCr' := Aside0.mk hCr'
      go_wp2_with fail
      go_loopw [33] (fun v wr => F2J w base bk g names i v wr) (fun v _ => (adj g names i).length - (intOf v).toNat)
      case atStart => exact J2
      case round =>
        clear J2 c0 c1 q1
        obtain ⟨e, ss2, rfl, he, K⟩ := hrel
        by_cases hle : e < (adj g names i).length
        · obtain ⟨A2, c2', hm2, hC2⟩ := hCr'.out wr K.below
          injection hm2 with hA2 _ hc2
          subst hA2 hc2
          have hule : e < (upI (adj g names i)).length := by rw [upI_len]; exact hle
          obtain ⟨ad, rfl, q0⟩ := CI_at hC2 e hule
          rw [upI_at] at q0
          have hjn := (mem_adj.1 (List.getElem_mem hle)).1
          have hjs : (adj g names i)[e] < ss2.length := by rw [K.sl]; exact hjn
          obtain ⟨A, m, c, A', m', c', w9, ss3, z1, hrun, z2, z3, K9⟩ := K.more hjs (i : Int) (by
            rw [upI_len]
            have h1 := bckT_len g names (i + 1) (adj g names i)[e]
            have h2 := bckT_len g names i (adj g names i)[e]
            split <;> omega)
          have N := F2J.next hle rfl K9
          generalize (adj g names i)[e] = j at *
          have hjn' : (j : Int) < (names.length : Int) := by omega
          clear K hC2 K9 hule
          replace N := Aside0.mk N
          go_wp2_with (at_builtin; refine app_list rfl rfl rfl rfl hrun ?_)
          refine ⟨N.out, ?_⟩
          simp [intOf]
          omega
        · obtain rfl : e = (adj g names i).length := by omega
          have N := F2J.done hlt K
          clear K
          replace N := Aside0.mk N
          go_wp2
          refine ⟨N.out, ?_⟩
          simp [intOf]
          omega
    · obtain rfl : i = names.length := by omega
      -- the row of the distances
      have hbp : 1 ≤ names.length := by omega
      obtain ⟨W2, hW2⟩ : ∃ W2, W2 = wr.alloc (.cells #[.int .i64 (-1)] 3) := ⟨_, rfl⟩
      have g2 : wr.grownBy W2 none := by rw [hW2]; exact World.grownBy_alloc _ _ _
      have o2 : W2.heap[wr.heap.size]? = some (.cells #[.int .i64 (-1)] 3 (0, 0)) := by rw [hW2]; exact heap_alloc_new wr _
      have B2 : Below w.heap.size w W2 := K.below.grown g2 K.below.size (by simp)
      have c0' := (hW.out W2 B2).c0
      have RP := repeat_calls wr.heap.size 1 names.length (-1) W2 (cell_of_row W2 _ 0 _ 3 (0, 0) o2) hbp hnl
      have hbr : ∀ W, Below W2.heap.size W2 W → ∀ p (hp : p < ss1.length), W.cell? ⟨bk, p, none⟩ = some (mvS ss1[p]) ∧ ∃ A c, mvS ss1[p] = .slice A (bck g names p).length c ∧ dI.C W A (upI (bck g names p)).length (upI (bck g names p)) := fun W B p hp => by
        have h1 := (g2.cell (K.nextAt p hp).1 (by simp))
        obtain ⟨A, c, e, _, hC⟩ := Kd.R_reads (K.rows p hp)
        have h2 := Kd.C_below hC ((Below.refl _ wr).grown g2 (Nat.le_refl _) (by simp))
        refine ⟨(B.cell (World.block_lt_of_cell? _ _ h1)).trans h1, A, c, by rw [e, upI_len]; rfl, Kd.C_below h2 B⟩
      have hsl1 := K.sl
      clear K hV c1
      replace hbr := Aside0.mk hbr
      replace hsl1 := Aside0.mk hsl1
      have c0a : (wr.alloc (.cells #[.int .i64 (-1)] 3)).cell? ⟨pw, 0, none⟩ = some (.slice At names.length ct) := by rw [← hW2]; exact c0'
      replace hW2 := Aside0.mk hW2
      go_wp2_with fail
      clear c0a
      rw [← hW2.out]
      refine RP.mono ?_
      rintro e W3 ⟨gd, rfl, hd3, B3⟩
      have y3 := RowI.at hd3 t (-1) (by rw [List.getElem?_replicate, if_pos ht])
      have f3 := hd3.frozen t
      have hgd : gd < W3.heap.size := (hd3.typed gd rfl).2.1
      have hlo : W2.heap.size ≤ gd := (hd3.typed gd rfl).1
      have hd4 := RowI.put hd3 t (by rw [List.length_replicate]; exact ht) 0
      have g4 := grown_set W3 gd t (.int .i64 0)
      have B4 : Below W2.heap.size W2 (W3.setCell ⟨gd, t, none⟩ (.int .i64 0)) := B3.grown g4 B3.size (fun k hk => by injection hk with hk; omega)
      obtain ⟨W5, hW5⟩ : ∃ W5, W5 = (W3.setCell ⟨gd, t, none⟩ (.int .i64 0)).alloc (.cells #[.int .i64 (t : Int)] 3) := ⟨_, rfl⟩
      have g5 : (W3.setCell ⟨gd, t, none⟩ (.int .i64 0)).grownBy W5 none := by rw [hW5]; exact World.grownBy_alloc _ _ _
      have hs5 : W5.heap.size = W3.heap.size + 1 := by rw [hW5]; simp
      have o5 : W5.heap[W3.heap.size]? = some (.cells #[.int .i64 (t : Int)] 3 (0, 0)) := by
        rw [hW5]
        have := heap_alloc_new (W3.setCell ⟨gd, t, none⟩ (.int .i64 0)) (.cells #[.int .i64 (t : Int)] 3)
        rwa [World.size_setCell] at this
      have J3 : B1J W2 W3.heap.size gd g names t (.slice (some ⟨W3.heap.size, 0, none⟩) 1 1) (.int .i64 0) W5 := by
        refine ⟨0, [t], _, rfl, by simp, BQ.start ht ?_ ?_ ?_, RowI.lit _ o5 (Nat.le_refl _), hd4.grown g5 (by simp), B4.grown g5 B4.size (by simp), by omega⟩
        · rw [List.length_set, List.length_replicate]
        · rw [dv_set (by rw [List.length_replicate]; exact ht), if_pos rfl]
        · intro j hj hne
          rw [dv_set (by rw [List.length_replicate]; exact ht), if_neg hne, dv_eq (by rw [List.length_replicate]; exact hj), List.getElem_replicate]
      obtain ⟨base2, hb2⟩ : ∃ b, b = W3.heap.size := ⟨_, rfl⟩
      rw [← hb2] at J3 hgd
      clear RP hd3 hd4 g4 B4 g5 o5 hs5 B3
      replace J3 := Aside0.mk J3
      replace hb2 := Aside0.mk hb2
      have ht' : (t : Int) < (names.length : Int) := by omega
      have ht0 : (0 : Int) ≤ (t : Int) := by omega
      go_upto_region 14 with (fail)
      rw [← hW5, ← hb2.out]
      clear hW5 y3 f3
      go_wp2_with fail
      go_loopw [11, 12] (fun v11 v12 wr => B1J W2 base2 gd g names t v11 v12 wr) (fun _ v12 _ => names.length - (intOf v12).toNat)
      case atStart => exact J3.out
      case round =>
        clear J3 c0'
        obtain ⟨i, qs, ds, rfl, hiq, Q, hq, hd, B, hbs⟩ := hrel
        have hql := Q.len_le
        obtain ⟨Aq, cq, rfl, _, hAq⟩ := hq.slice
        rw [upI_len] at hAq
        by_cases hlt2 : i < qs.length
        · obtain ⟨gq, rfl, hgq⟩ := hAq (by omega)
          have hk0 : qs[i]? = some qs[i] := List.getElem?_eq_getElem hlt2
          have q0 := RowI.at hq i _ (upI_opt hk0)
          have hpn : qs[i] < names.length := Q.lt _ (List.getElem_mem hlt2)
          have hps : qs[i] < ss1.length := by rw [hsl1.out]; exact hpn
          obtain ⟨q1, Ar, cr, hmr, hCr⟩ := hbr.out wr B qs[i] hps
          have J4 : B2J W2 base2 gd g names t i qs[i] (.slice (some ⟨gq, 0, none⟩) (upI qs).length cq) (.int .i64 0) wr := ⟨0, qs, ds, rfl, Nat.zero_le _, Q, hk0, fun k hk => by simp at hk, hq, hd, B, hbs⟩
          have hCr' : ∀ W, Below W2.heap.size W2 W → ∃ A c, mvS ss1[qs[i]] = .slice A (bck g names qs[i]).length c ∧ dI.C W A (upI (bck g names qs[i])).length (upI (bck g names qs[i])) := fun W B => (hbr.out W B qs[i] hps).2
          rw [hmr] at q1 hCr'
          rw [upI_len] at J4
          have hbl := bck_len g names qs[i]
          generalize qs[i] = p0 at *
          have hi' : (i : Int) < (qs.length : Int) := by omega
          have hp' : (p0 : Int) < (names.length : Int) := by omega
          have hul := upI_len qs
          rw [hul]
          clear hq hd B Q hCr hmr hul hAq hk0
          replace J4 := Aside0.mk J4
          replace hCr' := Aside0.mk hCr'
          go_wp2_with fail
          go_loopw [11, 75] (fun v11 v75 wr => B2J W2 base2 gd g names t i p0 v11 v75 wr) (fun _ v75 _ => (bck g names p0).length - (intOf v75).toNat)
          case atStart => exact J4.out
          case round =>
            clear J4 q0 q1
            obtain ⟨e, qs2, ds2, rfl, he, Q, hqi, hseen, hq, hd, B, hbs⟩ := hrel
            have hql2 := Q.len_le
            obtain ⟨Aq2, cq2, rfl, _, hAq2⟩ := hq.slice
            have hi2 := (List.getElem?_eq_some_iff.1 hqi).1
            obtain ⟨gq2, rfl, _⟩ := hAq2 (by rw [upI_len]; omega)
            have hul2 := upI_len qs2
            rw [hul2] at hq ⊢
            clear hul2 hAq2
            have htk : ∀ he : e < (bck g names p0).length, (bck g names p0).take (e + 1) = (bck g names p0).take e ++ [(bck g names p0)[e]] := fun he => List.take_succ_eq_append_getElem he
            by_cases hle : e < (bck g names p0).length
            · obtain ⟨A2, c2', hm2, hC2⟩ := hCr'.out wr B
              injection hm2 with hA2 _ hc2
              subst hA2 hc2
              have hule : e < (upI (bck g names p0)).length := by rw [upI_len]; exact hle
              obtain ⟨ad, rfl, q0⟩ := CI_at hC2 e hule
              rw [upI_at] at q0
              obtain ⟨hkn, hkl⟩ := mem_bck.1 (List.getElem_mem hle)
              have hkd : (bck g names p0)[e] < ds2.length := by rw [Q.len]; exact hkn
              have q1 := RowI.at hd (bck g names p0)[e] ds2[(bck g names p0)[e]] (List.getElem?_eq_getElem hkd)
              have edv := dv_eq hkd
              have hpq : p0 ∈ qs2 := List.mem_of_getElem? hqi
              have hpd : p0 < ds2.length := by rw [Q.len]; exact Q.lt _ hpq
              have q2 := RowI.at hd p0 ds2[p0] (List.getElem?_eq_getElem hpd)
              have edp := dv_eq hpd
              obtain ⟨mm, emm, hmin⟩ := Q.ins p0 hpq
              have hmlt := min_lt hg.out (nm_mem ht) hmin
              by_cases hneg : ds2[(bck g names p0)[e]] < 0
              · obtain ⟨Q2, hqi2⟩ := Q.push hg.out hnn.out hqi hkn hkl (by rw [edv]; exact hneg)
                have e1 : dv ds2 p0 + 1 = ds2[p0] + 1 := by rw [edp]
                rw [e1] at Q2
                have f1 := hd.frozen (bck g names p0)[e]
                have put := RowI.put hd (bck g names p0)[e] hkd (ds2[p0] + 1)
                have gset := grown_set wr gd (bck g names p0)[e] (.int .i64 (ds2[p0] + 1))
                have hq2 : RowI (wr.setCell ⟨gd, (bck g names p0)[e], none⟩ (.int .i64 (ds2[p0] + 1))) base2 (.slice (some ⟨gq2, 0, none⟩) qs2.length cq2) (upI qs2) := hq.grown gset (fun b hb e2 => by
                  injection hb with hb
                  have := (hq.typed b e2).1
                  omega)
                have Bs : Below W2.heap.size W2 (wr.setCell ⟨gd, (bck g names p0)[e], none⟩ (.int .i64 (ds2[p0] + 1))) := B.grown gset B.size (fun k hk => by injection hk with hk; omega)
                obtain ⟨v', w', hrun, hr', hg'⟩ := rowI_app hq2 ((bck g names p0)[e] : Int) (by rw [upI_len]; omega) (Nat.le_trans hbs gset.size)
                have N : B2J W2 base2 gd g names t i p0 v' (.int .i64 ((e : Int) + 1)) w' := ⟨e + 1, qs2 ++ [(bck g names p0)[e]], _, by simp, hle, Q2, hqi2, fun k hk => by
                  rw [htk hle] at hk
                  rcases List.mem_append.1 hk with hk | hk
                  · exact List.mem_append_left _ (hseen k hk)
                  · exact List.mem_append_right _ hk, by rw [upI_app]; exact hr', put.grown hg' (fun b hb e => by
                  have e2 : some gd = some b := e
                  injection e2 with e2
                  have := (hq2.typed b hb).1
                  omega), Bs.grown hg' Bs.size (fun k hk => by have := (hq2.typed k hk).1; omega), Nat.le_trans hbs (Nat.le_trans gset.size hg'.size)⟩
                rw [World.size_setCell] at hrun
                have q3 := RowI.at hq i _ (upI_opt hqi)
                have bd1 : 0 ≤ ds2[p0] := by rw [← edp, emm]; omega
                have bd2 : ds2[p0] ≤ 4096 := by rw [← edp, emm]; omega
                generalize ds2[(bck g names p0)[e]] = x at *
                generalize ds2[p0] = y at *
                generalize (bck g names p0)[e] = j at *
                have hjn' : (j : Int) < (names.length : Int) := by omega
                have hi2' : (i : Int) < (qs2.length : Int) := by omega
                have hi0' : (0 : Int) ≤ (i : Int) := by omega
                have hp0' : (0 : Int) ≤ (p0 : Int) := by omega
                clear Q Q2 hq hd B hseen hC2 edv edp hmin emm htk put gset hq2 Bs hr' hg'
                replace N := Aside0.mk N
                go_wp2_with (at_builtin; refine app_list rfl rfl rfl rfl hrun ?_)
                refine ⟨N.out, ?_⟩
                simp [intOf]
                omega
              · have N : B2J W2 base2 gd g names t i p0 (.slice (some ⟨gq2, 0, none⟩) qs2.length cq2) (.int .i64 ((e : Int) + 1)) wr := ⟨e + 1, qs2, ds2, by simp, hle, Q, hqi, fun k hk => by
                  rw [htk hle] at hk
                  rcases List.mem_append.1 hk with hk | hk
                  · exact hseen k hk
                  · rw [List.mem_singleton.1 hk]
                    refine Classical.byContradiction fun hn => ?_
                    have := Q.out _ hkn hn
                    rw [edv] at this
                    omega, hq, hd, B, hbs⟩
                generalize ds2[(bck g names p0)[e]] = x at *
                generalize (bck g names p0)[e] = j at *
                have hjn' : (j : Int) < (names.length : Int) := by omega
                clear Q hq hd B hseen hC2 q2 edv edp hmin emm htk
                replace N := Aside0.mk N
                go_wp2
                refine ⟨N.out, ?_⟩
                simp [intOf]
                omega
            · obtain rfl : e = (bck g names p0).length := by omega
              rw [List.take_length] at hseen
              have N : B1J W2 base2 gd g names t (.slice (some ⟨gq2, 0, none⟩) qs2.length cq2) (.int .i64 ((i : Int) + 1)) wr := ⟨i + 1, qs2, ds2, by simp, (List.getElem?_eq_some_iff.1 hqi).1, Q.next hqi hseen, hq, hd, B, hbs⟩
              clear Q hq hd B hseen htk
              replace N := Aside0.mk N
              go_wp2
              refine ⟨N.out, ?_⟩
              simp [intOf]
              omega
        · obtain rfl : i = qs.length := by omega
          have P : FarPost2 w g names t (.returned (.slice (some ⟨gd, 0, none⟩) names.length names.length)) wr := ⟨gd, ds, rfl, Lo.lower hd B2.size, Q.far hg.out hnn.out, below_then B2 B2.size B⟩
          have hul := upI_len qs
          rw [hul]
          clear Q hq hd B hAq hul
          replace P := Aside0.mk P
          go_wp2
          go_ret
          exact P.out
end Go.Proofs.Ytedcnpaomphffaa
namespace Go.Proofs.Ytedcnpaomphffaa
open Go.RowKit Go.Maps Go.Sort Go.Lib Go.Shelf Go.Proofs.YtedcnpaomphffaaW.PrintWords Go.Proofs.YtedcnpaomphffaaW.PrintLast Go.Proofs.YtedcnpaomphffaaW.PrintMore
set_option linter.unusedVariables false
set_option linter.unusedSimpArgs false
set_option linter.unusedSectionVars false
/-! ### long; Round -/
def LoJ (w : World) (g : List Dp) (names ds : List Int) (i : Nat) (v7 v18 : Value) (wr : World) : Prop := ∃ (e : Nat) (b : Int), v18 = .int .i64 (e : Int) ∧ v7 = .int .i64 b ∧ e ≤ (adj g names i).length ∧ BestL ds ((adj g names i).take e) b ∧ 0 ≤ b ∧ b ≤ 4097 ∧ wr = w
def LoPost (g : List Dp) (n : Int) (w : World) (e : Ending) (w' : World) : Prop := ∃ b, e = .returned (.int .i64 b) ∧ IsThr g n b ∧ 0 ≤ b ∧ b ≤ 4097 ∧ w = w'
set_option maxHeartbeats 8000000 in
set_option maxRecDepth 100000 in
theorem long_calls {pw bn bi : Nat} {At : Option Addr} {ct : Nat} {g : List Dp} {names : List Int} {ss : List Sv} {cs0 : List Int} (w : World) (h : WbC w pw bn bi At ct g names ss cs0) (hnl : names.length ≤ 4096) (hg : ∀ d ∈ g, d.f ∈ names ∧ d.t ∈ names) (i : Nat) (hi : i < names.length) (gd cd : Nat) (ds : List Int) (hd : dI.C w (some ⟨gd, 0, none⟩) names.length ds) (hF : Far g names ds (nm names i)) :
    Calls Try.prog 27 #[.pointer (some ⟨pw, 0, none⟩), .int .i64 (i : Int), .slice (some ⟨gd, 0, none⟩) names.length cd] w (LoPost g (nm names i) w) := by
  have his : i < ss.length := by rw [h.sl]; exact hi
  have q1 := h.next i his
  obtain ⟨Ar, cr, hmr, hCr⟩ := h.rows i his
  rw [hmr] at q1
  have c1 := h.c1
  have hal := adj_len g names i
  have hsm := far_small hg (nm_mem hi) hF
  have hdl := hF.1
  have J0 : LoJ w g names ds i (.int .i64 0) (.int .i64 0) w := ⟨0, 0, rfl, rfl, Nat.zero_le _, by rw [List.take_zero]; exact BestL.nil _, Int.le_refl _, by omega, rfl⟩
  have hi' : (i : Int) < (names.length : Int) := by omega
  have hi0 : (0 : Int) ≤ (i : Int) := by omega
  clear h hmr
  replace hg := Aside0.mk hg
  replace hF := Aside0.mk hF
  replace hsm := Aside0.mk hsm
  replace hdl := Aside0.mk hdl
  go_enter Try.func27, Try.ntmps27
  go_wp2_with fail
  go_loopw [7, 18] (fun v7 v18 wr => LoJ w g names ds i v7 v18 wr) (fun _ v18 _ => (adj g names i).length - (intOf v18).toNat)
  case atStart => exact J0
  case round =>
    clear J0
    obtain ⟨e, b, rfl, rfl, he, hB, hb0, hb1, rfl⟩ := hrel
    by_cases hle : e < (adj g names i).length
    · have hule : e < (upI (adj g names i)).length := by rw [upI_len]; exact hle
      obtain ⟨ad, rfl, q0⟩ := CI_at hCr e hule
      rw [upI_at] at q0
      have hjn := (mem_adj.1 (List.getElem_mem hle)).1
      have hjd : (adj g names i)[e] < ds.length := by rw [hdl.out]; exact hjn
      obtain ⟨ad2, e2, q2⟩ := CI_at (xs := ds) (by rw [hdl.out]; exact hd) _ hjd
      injection e2 with e2
      subst e2
      rw [add_plain] at q2
      obtain ⟨s1, s2⟩ := hsm.out _ hjd
      have htk : (adj g names i).take (e + 1) = (adj g names i).take e ++ [(adj g names i)[e]] := List.take_succ_eq_append_getElem hle
      have edv := dv_eq hjd
      have SK : (ds[(adj g names i)[e]] < 0 ∨ (b ≠ 0 ∧ b ≤ ds[(adj g names i)[e]] + 1)) → LoJ wr g names ds i (.int .i64 b) (.int .i64 ((e : Int) + 1)) wr := fun hs => ⟨e + 1, b, by simp, rfl, hle, by rw [htk]; exact hB.skip (by rw [edv]; exact hs), hb0, hb1, rfl⟩
      have TK : 0 ≤ ds[(adj g names i)[e]] → (b = 0 ∨ ds[(adj g names i)[e]] + 1 < b) → LoJ wr g names ds i (.int .i64 (ds[(adj g names i)[e]] + 1)) (.int .i64 ((e : Int) + 1)) wr := fun h0 hs => ⟨e + 1, _, by simp, rfl, hle, by rw [htk, ← edv]; exact hB.take (by rw [edv]; exact h0) (by rw [edv]; exact hs), by omega, by omega, rfl⟩
      generalize ds[(adj g names i)[e]] = x at *
      generalize (adj g names i)[e] = j at *
      have hjn' : (j : Int) < (names.length : Int) := by omega
      have hj0 : (0 : Int) ≤ (j : Int) := by omega
      clear hB htk edv hule
      by_cases h0 : 0 ≤ x
      · by_cases hbz : b = 0
        · have hbz' : (b == 0) = true := by simpa using hbz
          have N := TK h0 (.inl hbz)
          clear SK TK
          replace hbz := Aside0.mk hbz
          replace N := Aside0.mk N
          go_wp2
          refine ⟨N.out, ?_⟩
          simp [intOf]
          omega
        · have hbz' : (b == 0) = false := by simpa using hbz
          by_cases hlt : x + 1 < b
          · have N := TK h0 (.inr hlt)
            clear SK TK
            replace hbz := Aside0.mk hbz
            replace N := Aside0.mk N
            go_wp2
            refine ⟨N.out, ?_⟩
            simp [intOf]
            omega
          · have N := SK (.inr ⟨hbz, by omega⟩)
            clear SK TK
            replace hbz := Aside0.mk hbz
            replace N := Aside0.mk N
            go_wp2
            refine ⟨N.out, ?_⟩
            simp [intOf]
            omega
      · have N := SK (.inl (by omega))
        clear SK TK
        replace N := Aside0.mk N
        go_wp2
        refine ⟨N.out, ?_⟩
        simp [intOf]
        omega
    · obtain rfl : e = (adj g names i).length := by omega
      rw [List.take_length] at hB
      have P : LoPost g (nm names i) wr (.returned (.int .i64 b)) wr := ⟨b, rfl, hB.thr hg.out hF.out, hb0, hb1, rfl⟩
      clear hB
      replace P := Aside0.mk P
      go_wp2
      go_ret
      exact P.out
/-- the first of a row that is so far away is the next one of the round -/
theorem next_first {g : List Dp} {names ds : List Int} {f : Int} (hF : Far g names ds f) {at_ e m : Nat} (he : e < (adj g names at_).length) (hx : dv ds (adj g names at_)[e] = (m : Int)) (hb : ∀ k ∈ (adj g names at_).take e, dv ds k ≠ (m : Int)) : IsNext g names f m (nm names at_) (nm names (adj g names at_)[e]) := by
  obtain ⟨hp, hl⟩ := mem_adj.1 (List.getElem_mem he)
  have hpd : (adj g names at_)[e] < ds.length := by rw [hF.1]; exact hp
  refine ⟨_, hp, nm_eq hp, hl, by rw [nm_eq hp]; exact (far_iff hF hp hpd m).1 (by rw [← dv_eq hpd]; exact hx), fun q hq hlt h => ?_⟩
  have hqa : q ∈ adj g names at_ := mem_adj.2 ⟨hq, by rw [nm_eq hq]; exact h.1⟩
  obtain ⟨e2, he2, eq2⟩ := List.mem_iff_getElem.1 hqa
  have hs := adj_sorted g names at_
  have hee : e2 < e := by
    rcases Nat.lt_trichotomy e2 e with h1 | h1 | h1
    · exact h1
    · subst h1; omega
    · have := List.pairwise_iff_getElem.1 hs e e2 he he2 h1
      omega
  have hqd : q < ds.length := by rw [hF.1]; exact hq
  refine hb q ?_ (by rw [dv_eq hqd]; exact (far_iff hF hq hqd m).2 h.2)
  rw [List.mem_take_iff_getElem]
  exact ⟨e2, by omega, eq2⟩
theorem no_round {g : List Dp} {names : List Int} (hn : names.Nodup) (hg : ∀ d ∈ g, d.f ∈ names ∧ d.t ∈ names) (h : (greedy g names names.length []).isSome = true) : RoundOf g names [] := by
  obtain ⟨L, hL⟩ := Option.isSome_iff_exists.1 h
  have ht := greedy_topo hn names.length [] L (Pre.nil g names) (by simp) hL
  refine ⟨0, 0, .inl ⟨rfl, rfl, fun k hk _ => .inl ⟨rfl, fun j hw => ?_⟩⟩, .inl ⟨rfl, rfl⟩⟩
  have := topo_walk ht hg (List.getElem_mem hk) hw
  omega
/-- the best place under way -/
def RnJ (W6 : World) (g : List Dp) (names : List Int) (v7 v8 v9 v35 : Value) (wr : World) : Prop := ∃ (i : Nat) (b : Int), v35 = .int .i64 (i : Int) ∧ i ≤ names.length ∧ v8 = .int .i64 b ∧ 0 ≤ b ∧ b ≤ 4097 ∧ Below W6.heap.size W6 wr ∧
  ((b = 0 ∧ v7 = .int .i64 0 ∧ v9 = .slice none 0 0 ∧ BestR g names i 0 0) ∨ (∃ (k gd : Nat) (ds : List Int), k < names.length ∧ v7 = .int .i64 (k : Int) ∧ v9 = .slice (some ⟨gd, 0, none⟩) names.length names.length ∧ 0 < b ∧ BestR g names i b (nm names k) ∧ dI.C wr (some ⟨gd, 0, none⟩) names.length ds ∧ Far g names ds (nm names k)))
/-- the round under way -/
def PaJ (W7 : World) (g : List Dp) (names : List Int) (f : Int) (b : Nat) (v13 v14 v15 : Value) (wr : World) : Prop := ∃ (L : List Int) (a : Nat), v14 = .int .i64 (a : Int) ∧ a < names.length ∧ v15 = .int .i64 ((b - L.length : Nat) : Int) ∧ L.length ≤ b ∧ RowI wr W7.heap.size v13 L ∧ Below W7.heap.size W7 wr ∧
  ((L = [] ∧ nm names a = f) ∨ (PathR g names f b L ∧ (L.length < b → ∃ x, L[L.length - 1]? = some x ∧ IsNext g names f (b - L.length) x (nm names a))))
def SeJ (w : World) (g : List Dp) (names ds : List Int) (a m : Nat) (v14 v84 : Value) (wr : World) : Prop := ∃ e : Nat, v84 = .int .i64 (e : Int) ∧ v14 = .int .i64 (a : Int) ∧ e ≤ (adj g names a).length ∧ (∀ k ∈ (adj g names a).take e, dv ds k ≠ (m : Int)) ∧ wr = w
def SeC (w : World) (g : List Dp) (names : List Int) (f : Int) (a m : Nat) (go : Prop) (v14 : Value) (wr : World) : Prop := ∃ a' : Nat, v14 = .int .i64 (a' : Int) ∧ a' < names.length ∧ (go → IsNext g names f m (nm names a) (nm names a')) ∧ wr = w
theorem PaJ.snoc {g : List Dp} {names : List Int} {f : Int} {b : Nat} {L : List Int} {a : Nat} (hl : L.length < b) (h : (L = [] ∧ nm names a = f) ∨ (PathR g names f b L ∧ (L.length < b → ∃ x, L[L.length - 1]? = some x ∧ IsNext g names f (b - L.length) x (nm names a)))) : PathR g names f b (L ++ [nm names a]) := by
  rcases h with ⟨rfl, e⟩ | ⟨hp, hx⟩
  · rw [e]
    exact PathR.one g names f (by simp at hl; omega)
  · obtain ⟨x, h1, h2⟩ := hx hl
    exact hp.snoc hl h1 h2
def RoPost (w : World) (h : Hs) (e : Ending) (w' : World) : Prop := ∃ v L, e = .returned (.tuple #[v, .int .i64 (chk h)]) ∧ RowI w' w.heap.size v L ∧ Below w.heap.size w w' ∧ (¬ OkH h → L = []) ∧ (OkH h → RoundOf (graphP h) (rise h.C) L)
end Go.Proofs.Ytedcnpaomphffaa
