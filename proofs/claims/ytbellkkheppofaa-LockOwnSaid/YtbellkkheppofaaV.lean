import Derived.Test.YtbellkkheppofaaU
namespace Go.Proofs.Ytbellkkheppofaa
open Go.RowKit Go.Maps Go.Sort Go.Lib Go.Proofs.YtbellkkheppofaaW.PrintWords Go.Proofs.YtbellkkheppofaaW.PrintLast Go.Proofs.YtbellkkheppofaaW.PrintMore
set_option linter.unusedVariables false
set_option linter.unusedSimpArgs false
set_option linter.unusedSectionVars false
/-! ### an append of a whole slice -/
section
variable {α : Type} {enc : α → List Value} {k e base : Nat} {w w1 : World} {v : Value} {xs ys : List α}
/-- a slice that can be read off -/
def Src (enc : α → List Value) (k : Nat) (w : World) (A : Option Addr) (ys : List α) : Prop :=
  ∃ inner, inner.length = ys.length * k ∧ Reps (fun x cs => cs = enc x) k ys inner ∧ (0 < ys.length → ∃ a, A = some a ∧ ∀ j u, inner[j]? = some u → w.cell? (a.add j) = some u)
theorem Lo.appS {P : Program} (h : Lo enc k e w base v xs) (hn : ∀ x, (enc x).length = k) (h1c : ∀ x, ∀ u ∈ enc x, u.oneCell' = true) (t ty : TypeId) (z : Value) (bytes : Nat) (ht : P.underlying t = some (.slice e)) (hinfo : (P.info? e).map (fun i => (i.zero, i.size, i.bytes)) = some (some z, k, bytes)) (hzs : z.cells.size = k) (hk : 0 < k) (hb0 : 0 < bytes)
    (A : Option Addr) (c : Nat) (hs : Src enc k w A ys) (hbytes : (xs.length + ys.length) * bytes ≤ 140737488355328) (hbase : base ≤ w.heap.size) :
    ∃ v' w', (Builtin.append_ #[t, t] ty #[v, .slice A ys.length c]).run P w = .ok v' w' ∧ Lo enc k e w' base v' (xs ++ ys) ∧ w.grownBy w' v.ownBlock := by
  obtain ⟨i0, hi0, hzz⟩ := Option.map_eq_some_iff.1 hinfo
  simp only [Prod.mk.injEq] at hzz
  obtain ⟨hz0, hz1, hz2⟩ := hzz
  have hlen : xs.length + ys.length ≤ 140737488355328 := Nat.le_trans (Nat.le_mul_of_pos_right _ hb0) hbytes
  obtain ⟨news, hl, hr, hc⟩ := hs
  rcases Nat.eq_zero_or_pos ys.length with h0 | h0
  · have hy : ys = [] := List.eq_nil_of_length_eq_zero h0
    obtain ⟨B, cB, hv, hle, _⟩ := h.slice
    refine ⟨v, w, ?_, by rw [hy, List.append_nil]; exact h, ⟨rfl, rfl, rfl, Nat.le_refl _, fun _ _ _ => rfl⟩⟩
    rw [h0, hv]
    exact run_append_zero t ty e i0 ht hi0 B xs.length cB A c hle
  · obtain ⟨a, rfl, hcells⟩ := hc h0
    obtain ⟨inner, h1, h2⟩ := h
    obtain ⟨v', w', hrun, ho, hg⟩ := l_append (P := P) w base t ty e i0 z k bytes ht hi0 hz0 hz1 hz2 hzs hk v xs.length inner h1 a ys.length c news hl hcells (fun u hu => by
      obtain ⟨j, hj⟩ := List.mem_iff_getElem?.1 hu
      have hjl : j < ys.length * k := by rw [← hl]; exact (List.getElem?_eq_some_iff.1 hj).1
      have hd : j / k < ys.length := by rw [Nat.div_lt_iff_lt_mul hk]; exact hjl
      have hm := Nat.mod_lt j hk
      have e0 : j / k * k + j % k = j := Nat.div_add_mod' j k
      have h3 : (news.drop (j / k * k)).take k = enc ys[j / k] := hr.2 (j / k) _ (List.getElem?_eq_getElem hd)
      have h4 : ((news.drop (j / k * k)).take k)[j % k]? = news[j]? := by rw [List.getElem?_take, if_pos hm, List.getElem?_drop, e0]
      rw [h3, hj] at h4
      exact h1c _ u (List.mem_of_getElem? h4)) h0 (by simp only [maxLen]; omega) hbytes hbase
    exact ⟨v', w', hrun, ⟨_, by rw [List.length_append]; exact ho, Kd.reps_append h2 hr⟩, hg⟩
/-- a loose row's beginning, read off -/
theorem Lo.srcTake (h : Lo enc k e w base v xs) {A : Option Addr} {n c i : Nat} (hv : v = .slice A n c) (hi : i ≤ xs.length) : Src enc k w A (xs.take i) := by
  obtain ⟨inner, h1, h2⟩ := h
  have hle : i * k ≤ xs.length * k := Nat.mul_le_mul_right _ hi
  have e0 : (xs.take i).length = i := by rw [List.length_take]; omega
  refine ⟨inner.take (i * k), by rw [List.length_take, h1.1, e0]; omega, Kd.reps_take h2 hi, fun h0 => ?_⟩
  rcases h1.2 with ⟨hv', hn⟩ | ⟨g, cap, cur, hv', _⟩
  · rw [e0] at h0; omega
  · rw [hv] at hv'
    injection hv' with e1 e2 e3
    refine ⟨_, e1, fun j u hu => ?_⟩
    rw [add_plain]
    rw [List.getElem?_take] at hu
    split at hu
    · have h3 := h1
      rw [hv, e1, e2] at h3
      exact l_cells h3 j u hu
    · cases hu
/-- .. its end -/
theorem Lo.srcDrop (h : Lo enc k e w base v xs) {A : Option Addr} {n c i : Nat} (hv : v = .slice A n c) (hi : i ≤ xs.length) : Src enc k w (if c = i then A else A.map (·.add (i * k))) (xs.drop i) := by
  obtain ⟨inner, h1, h2⟩ := h
  refine ⟨inner.drop (i * k), by rw [List.length_drop, h1.1, List.length_drop, Nat.sub_mul], Kd.reps_drop h2, fun h0 => ?_⟩
  rw [List.length_drop] at h0
  rcases h1.2 with ⟨hv', hn⟩ | ⟨g, cap, cur, hv', _, _, hnc, _⟩
  · omega
  · rw [hv] at hv'
    injection hv' with e1 e2 e3
    subst e1 e2 e3
    rw [if_neg (by omega)]
    refine ⟨_, rfl, fun j u hu => ?_⟩
    show w.cell? (((⟨g, 0, none⟩ : Addr).add (i * k)).add j) = some u
    rw [add_plain]
    have e4 : (⟨g, i * k, none⟩ : Addr).add j = ⟨g, i * k + j, none⟩ := by unfold Addr.add; split <;> simp_all
    rw [e4]
    rw [List.getElem?_drop] at hu
    rw [hv] at h1
    exact l_cells h1 _ u hu
theorem Lo.src (h : Lo enc k e w base v xs) {A : Option Addr} {n c : Nat} (hv : v = .slice A n c) : Src enc k w A xs := by
  have := h.srcTake hv (Nat.le_refl _)
  rwa [List.take_length] at this
theorem Src.grown {A : Option Addr} (h : Src enc k w A ys) (hm : 0 < k → ∀ a, A = some a → w1.heap[a.block]? = w.heap[a.block]?) : Src enc k w1 A ys := by
  obtain ⟨inner, h1, h2, h3⟩ := h
  refine ⟨inner, h1, h2, fun h0 => ?_⟩
  obtain ⟨a, ha, hc⟩ := h3 h0
  refine ⟨a, ha, fun j u hu => ?_⟩
  have hk : 0 < k := by
    rcases Nat.eq_zero_or_pos k with e | e
    · rw [e, Nat.mul_zero] at h1
      have := List.eq_nil_of_length_eq_zero h1
      rw [this] at hu; cases hu
    · exact e
  have e1 : (a.add j).block = a.block := by unfold Addr.add; split <;> rfl
  exact (World.cell?_of_block (a := a.add j) (by rw [e1]; exact hm hk a ha)).trans (hc j u hu)
end
/-! ### the document's manager -/
def encH (q : Lk × Int) : List Value := [.string q.1.1, .string q.1.2, .int .i64 q.2]
theorem encH_one (q : Lk × Int) : ∀ u ∈ encH q, u.oneCell' = true := fun u hu => by simp [encH] at hu; rcases hu with rfl | rfl | rfl <;> rfl
theorem info64 : (Try.prog.info? 64).map (fun i => (i.zero, i.size, i.bytes)) = some (some (.agg #[.string ByteArray.empty, .string ByteArray.empty, .int .i64 0]), 3, 40) := by kernel_rfl
structure Rm (w : World) (base br : Nat) (most : Int) (L : List (Lk × Int)) (v : Value) : Prop where
  obj : w.heap[br]? = some (.cells #[.bool true, .int .i64 most, v] 43 (0, 0))
  row : Lo encH 3 64 w base v L
theorem Rm.grown {w w1 : World} {base br : Nat} {most : Int} {L : List (Lk × Int)} {v : Value} (h : Rm w base br most L v) {row : Option Nat} (hg : w.grownBy w1 row) (h1 : row ≠ some br) (h2 : ∀ b, row = some b → v.ownBlock ≠ some b) : Rm w1 base br most L v :=
  ⟨(hg.block br (Array.getElem?_eq_some_iff.1 h.obj).1 (fun e => h1 e.symm)).trans h.obj, h.row.grown hg h2⟩
theorem Rm.c0 {w : World} {base br : Nat} {most : Int} {L : List (Lk × Int)} {v : Value} (h : Rm w base br most L v) : w.cell? ⟨br, 0, none⟩ = some (.bool true) := cell_of_row w br 0 _ 43 (0, 0) h.obj
theorem Rm.c1 {w : World} {base br : Nat} {most : Int} {L : List (Lk × Int)} {v : Value} (h : Rm w base br most L v) : w.cell? ⟨br, 1, none⟩ = some (.int .i64 most) := cell_of_row w br 1 _ 43 (0, 0) h.obj
theorem Rm.c2 {w : World} {base br : Nat} {most : Int} {L : List (Lk × Int)} {v : Value} (h : Rm w base br most L v) : w.cell? ⟨br, 2, none⟩ = some v := cell_of_row w br 2 _ 43 (0, 0) h.obj
/-- the search under way -/
def RS (w : World) (base br bx : Nat) (most : Int) (L : List (Lk × Int)) (v : Value) (a : Lk) (iv : Value) (wr : World) : Prop :=
  ∃ j : Nat, j ≤ L.length ∧ iv = .int .i64 j ∧ got (L.take j) a = none ∧ Rm wr base br most L v ∧ wr.cell? ⟨bx, 0, none⟩ = some (.string a.1) ∧ wr.cell? ⟨bx, 1, none⟩ = some (.string a.2) ∧ Below w.heap.size w wr
theorem got_take {L : List (Lk × Int)} {a : Lk} {j : Nat} (hj : j < L.length) (h : got (L.take j) a = none) : ((L[j]).1 = a → got L a = some (L[j]).2) ∧ ((L[j]).1 ≠ a → got (L.take (j + 1)) a = none) := by
  have key : ∀ M N : List (Lk × Int), got M a = none → got (M ++ N) a = got N a := by
    intro M N hM
    unfold got at hM ⊢
    rw [Option.map_eq_none_iff] at hM
    rw [List.find?_append, hM]
    rfl
  constructor
  · intro e
    have e1 : got (L.take j ++ (L[j] :: L.drop (j + 1))) a = some (L[j]).2 := by
      rw [key _ _ h]
      unfold got
      rw [List.find?_cons_of_pos (by simpa using e)]
      rfl
    rwa [← List.drop_eq_getElem_cons hj, List.take_append_drop] at e1
  · intro e
    rw [List.take_succ_eq_append_getElem hj, key _ _ h]
    simp [got, e]
set_option maxHeartbeats 4000000 in
set_option maxRecDepth 100000 in
theorem RHolder_calls (base br : Nat) (most : Int) (L : List (Lk × Int)) (v : Value) (a : Lk) (w : World) (h : Rm w base br most L v) (hL : L.length ≤ 4096) :
    Calls Try.prog 25 #[.pointer (some ⟨br, 0, none⟩), .agg #[.string a.1, .string a.2]] w fun e w' => e = .returned (.tuple #[.int .i64 ((got L a).getD 0), .bool (got L a).isSome]) ∧ Below w.heap.size w w' := by
  obtain ⟨w1, hw1⟩ : ∃ w1, w1 = w.alloc (.cells #[.string a.1, .string a.2] 23) := ⟨_, rfl⟩
  have hB : Below w.heap.size w w1 := by rw [hw1]; exact (Below.refl _ w).alloc (Nat.le_refl _) _
  have hc1 : w1.cell? ⟨w.heap.size, 0, none⟩ = some (.string a.1) := by rw [hw1]; simp [go_sem]
  have hc2 : w1.cell? ⟨w.heap.size, 1, none⟩ = some (.string a.2) := by rw [hw1]; simp [go_sem]
  have h1 := h.grown (w1 := w1) (row := none) (by rw [hw1]; exact World.grownBy_alloc _ _ _) (by simp) (by simp)
  obtain ⟨A, c, rfl, hlc, hA⟩ := h.row.slice
  clear h
  go_enter Try.func25, Try.ntmps25
  go_upto_block 0 with fail
  rw [← hw1]
  clear hw1
  go_wp2_with fail
  go_loopw [6] (fun iv wr => RS w base br w.heap.size most L (.slice A L.length c) a iv wr) (fun iv _ => L.length - (intOf iv).toNat)
  case atStart => exact ⟨0, Nat.zero_le _, rfl, rfl, h1, hc1, hc2, hB⟩
  case round =>
    clear h1 hc1 hc2 hB
    obtain ⟨j, hj, rfl, hg, h1, hc1, hc2, hB⟩ := hrel
    have o2 := h1.c2
    by_cases hjl : j < L.length
    · obtain ⟨g, rfl, hgb⟩ := hA (by omega)
      obtain ⟨y, hy⟩ : ∃ y, y = L[j] := ⟨_, rfl⟩
      have hgt := got_take hjl hg
      rw [← hy] at hgt
      have y0 : wr.cell? ⟨g, j * 3, none⟩ = some (.string y.1.1) := by
        have := h1.row.cell (fun _ => rfl) rfl j L[j] (List.getElem?_eq_getElem hjl) 0 _ rfl
        rw [hy]; simpa using this
      have y1 : wr.cell? ⟨g, j * 3 + 1, none⟩ = some (.string y.1.2) := by
        have := h1.row.cell (fun _ => rfl) rfl j L[j] (List.getElem?_eq_getElem hjl) 1 _ rfl
        rw [hy]; simpa using this
      have y2 : wr.cell? ⟨g, j * 3 + 2, none⟩ = some (.int .i64 y.2) := by
        have := h1.row.cell (fun _ => rfl) rfl j L[j] (List.getElem?_eq_getElem hjl) 2 _ rfl
        rw [hy]; simpa using this
      have heq : ∀ W, _ := fun W => eqLk y.1 a W
      replace hy := Aside0.mk hy
      by_cases he : y.1 = a
      · have hge := hgt.1 he
        rw [show decide (y.1 = a) = true by simpa using he] at heq
        clear he hgt hg
        go_wp2_with fail
        go_region_held3 (fun W => W.cell? ⟨br, 2, none⟩ = some (.slice (some ⟨g, 0, none⟩) L.length c) ∧ W.cell? ⟨g, j * 3, none⟩ = some (.string y.1.1) ∧ W.cell? ⟨g, j * 3 + 1, none⟩ = some (.string y.1.2) ∧ W.cell? ⟨w.heap.size, 0, none⟩ = some (.string a.1) ∧ W.cell? ⟨w.heap.size, 1, none⟩ = some (.string a.2)) (exact ⟨o2, y0, y1, hc1, hc2⟩) (fail)
        go_wp2
        go_ret2
        exact ⟨by rw [hge]; rfl, hB.os, hB.tape, hB.output, hB.size, hB.block⟩
      · have hge := hgt.2 he
        rw [show decide (y.1 = a) = false by simpa using he] at heq
        replace hge := Aside0.mk hge
        have h2 := h1.grown (w1 := wr.drew) (row := none) ⟨rfl, rfl, rfl, Nat.le_refl _, fun _ _ _ => rfl⟩ (by simp) (by simp)
        clear he hgt hg
        go_wp2_with fail
        go_region_held3 (fun W => W.cell? ⟨br, 2, none⟩ = some (.slice (some ⟨g, 0, none⟩) L.length c) ∧ W.cell? ⟨g, j * 3, none⟩ = some (.string y.1.1) ∧ W.cell? ⟨g, j * 3 + 1, none⟩ = some (.string y.1.2) ∧ W.cell? ⟨w.heap.size, 0, none⟩ = some (.string a.1) ∧ W.cell? ⟨w.heap.size, 1, none⟩ = some (.string a.2)) (exact ⟨o2, y0, y1, hc1, hc2⟩) (fail)
        go_wp2
        go_roundw
        case rel => exact ⟨j + 1, by omega, by go_num, hge.out, h2, hc1, hc2, ⟨hB.os, hB.tape, hB.output, hB.size, hB.block⟩⟩
        case measure => simp [intOf]; omega
    · obtain rfl : j = L.length := by omega
      rw [List.take_length] at hg
      go_wp2
      go_ret2
      rw [hg]
      exact ⟨rfl, hB⟩
end Go.Proofs.Ytbellkkheppofaa
