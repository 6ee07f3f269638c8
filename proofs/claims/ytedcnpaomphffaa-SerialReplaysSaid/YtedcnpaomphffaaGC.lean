import Derived.Test.YtedcnpaomphffaaGB
import Derived.Sort.Grow
import Derived.Sort.Statements
import Derived.Shelf.GgSortFunc.InsertionK
import Derived.IntWalk
namespace Go.Proofs.Ytedcnpaomphffaa
open Go.RowKit Go.Maps Go.Sort Go.Lib Go.Proofs.YtedcnpaomphffaaW.PrintWords Go.Proofs.YtedcnpaomphffaaW.PrintLast Go.Proofs.YtedcnpaomphffaaW.PrintMore
set_option linter.unusedVariables false
set_option linter.unusedSimpArgs false
set_option linter.unusedSectionVars false
theorem trans_grown {w w1 w2 : World} {r : Option Nat} (h : w.grownBy w1 r) (k : w1.grownBy w2 r) : w.grownBy w2 r :=
  ⟨k.os.trans h.os, k.tape.trans h.tape, k.output.trans h.output, Nat.le_trans h.size k.size, fun i hi hne => (k.block i (Nat.lt_of_lt_of_le hi h.size) hne).trans (h.block i hi hne)⟩
theorem grown_none {w w1 : World} {r : Option Nat} (h : w.grownBy w1 none) : w.grownBy w1 r := ⟨h.os, h.tape, h.output, h.size, fun i hi _ => h.block i hi (by simp)⟩
theorem add_field (ad : Addr) (m j : Nat) (hj : 0 < j) : ad.add (m + j) = ⟨(ad.add m).block, (ad.add m).off + j, none⟩ := by
  unfold Addr.add
  rw [if_neg (by omega)]
  split <;> simp <;> omega
theorem below_but {n : Nat} {w w' w'' : World} {b : Nat} (h : Below n w w') (hn : n ≤ w'.heap.size) (hg : w'.grownBy w'' (some b)) (hb : n ≤ b) : Below n w w'' :=
  h.grown hg hn (fun k e => by cases e; exact hb)
theorem grown_set (w : World) (g j : Nat) (u : Value) : w.grownBy (w.setCell ⟨g, j, none⟩ u) (some g) := ⟨rfl, rfl, rfl, by simp [World.setCell], fun i _ hne => Below.heap_setCell w ⟨g, j, none⟩ u i (fun e => hne (by rw [e]))⟩
theorem drewG (w : World) : w.grownBy w.drew none := ⟨rfl, rfl, rfl, Nat.le_refl _, fun _ _ _ => rfl⟩
theorem drewNG (w : World) (n : Nat) : w.grownBy (w.drewN n) none := ⟨rfl, rfl, rfl, Nat.le_refl _, fun _ _ _ => rfl⟩
theorem toList_inj {s u : ByteArray} (h : s.toList = u.toList) : s = u := by
  have e := ByteArray.toList_eq
  rw [e, e] at h
  cases s
  cases u
  simp at h
  rw [h]
theorem toList_iff (s u : ByteArray) : (s.toList = u.toList) ↔ s = u := ⟨toList_inj, fun h => by rw [h]⟩
/-! ### a row of plain cells, sorted in its place -/
section
variable {α : Type} [Inhabited α] {enc : α → List Value} {k : Nat} {hn : ∀ x, (enc x).length = k} {h1 : ∀ x, ∀ u ∈ enc x, u.oneCell' = true}
theorem flat_at (hn : ∀ x, (enc x).length = k) (d : Array α) (j i : Nat) (hj : j < d.size) (hi : i < k) : (flatK enc k d)[j * k + i]! = (enc d[j]!)[i]! := by
  have hlt : j * k + i < d.size * k := by
    have : (j + 1) * k ≤ d.size * k := Nat.mul_le_mul_right k hj
    rw [Nat.add_mul, Nat.one_mul] at this
    omega
  rw [get_flatK _ _ _ _ hlt]
  have e1 : (j * k + i) / k = j := by rw [Nat.mul_comm, Nat.mul_add_div (by omega), Nat.div_eq_of_lt hi]; omega
  have e2 : (j * k + i) % k = i := by rw [Nat.mul_comm, Nat.mul_add_mod, Nat.mod_eq_of_lt hi]
  rw [e1, e2]
theorem flat_reps (hn : ∀ x, (enc x).length = k) (xs : List α) : Reps (fun x cs => cs = enc x) k xs (flatK enc k xs.toArray).toList := by
  refine ⟨by simp, fun j p hp => ?_⟩
  obtain ⟨hj, rfl⟩ := List.getElem?_eq_some_iff.1 hp
  have hle : j * k + k ≤ xs.length * k := by
    have : (j + 1) * k ≤ xs.length * k := Nat.mul_le_mul_right k hj
    rwa [Nat.add_mul, Nat.one_mul] at this
  refine List.ext_getElem (by simp [hn]; omega) fun i h1 h2 => ?_
  have hi : i < k := by rw [hn] at h2; exact h2
  have := flat_at hn xs.toArray j i (by simpa using hj) hi
  rw [getElem!_pos _ _ (by simp; omega), getElem!_pos (enc _) i (by rw [hn]; exact hi)] at this
  simpa [hj] using this
theorem flat_holds {w : World} {base e g cap : Nat} {ok : Nat → Prop} {xs : List α} (h : (Kd.flat enc k hn h1).R e w base ok (.slice (some ⟨g, 0, none⟩) xs.length cap) xs) : HoldsK enc k w g 0 xs.toArray := by
  obtain ⟨_, inner, ho, hr⟩ := h
  intro j hj
  have hj' : j < xs.length * k := by simpa using hj
  refine ⟨?_, ?_⟩
  · rw [Nat.zero_add, ho.cellAt j hj']
    have hk : 0 < k := by
      rcases Nat.eq_zero_or_pos k with h | h
      · rw [h, Nat.mul_zero] at hj'; omega
      · exact h
    have hd : j / k < xs.length := by rw [Nat.div_lt_iff_lt_mul hk]; exact hj'
    have hm := Nat.mod_lt j hk
    have e : j / k * k + j % k = j := Nat.div_add_mod' j k
    have h2 : (inner.drop (j / k * k)).take k = enc xs[j / k] := hr.2 (j / k) _ (List.getElem?_eq_getElem hd)
    have h3 := flat_at hn xs.toArray (j / k) (j % k) (by simpa using hd) hm
    rw [e] at h3
    rw [h3]
    have h4 : ((inner.drop (j / k * k)).take k)[j % k]? = inner[j]? := by
      rw [List.getElem?_take, if_pos hm, List.getElem?_drop, e]
    have h5 : xs.toArray[j / k]! = xs[j / k] := by rw [getElem!_pos _ _ (by simpa using hd)]; simp
    rw [← h4, h2, h5]
    rw [getElem!_pos (enc _) _ (by rw [hn]; exact hm), List.getElem?_eq_getElem (by rw [hn]; exact hm)]
    rfl
  · rw [Nat.zero_add]; exact ho.frozenAt j
theorem flat_sorted {w : World} {base e g cap : Nat} {ok : Nat → Prop} {xs ys : List α} (h : (Kd.flat enc k hn h1).R e w base ok (.slice (some ⟨g, 0, none⟩) xs.length cap) xs) (hl : ys.length = xs.length) (m : Nat) (os : Array Obj) :
    (Kd.flat enc k hn h1).R e (sortWorldK enc k w g 0 m ys.toArray os) base ok (.slice (some ⟨g, 0, none⟩) ys.length cap) ys ∧ w.grownBy (sortWorldK enc k w g 0 m ys.toArray os) (some g) := by
  obtain ⟨h0, inner, ⟨hil, ho⟩, hr⟩ := h
  rcases ho with ⟨he, _⟩ | ⟨g', cap', cur, he, hb, hh, hc1, hc2, hcs, htk⟩
  · cases he
  injection he with e1 e2 e3
  injection e1 with e1
  injection e1 with e1
  subst e1 e3
  have hlt : g < w.heap.size := (Array.getElem?_eq_some_iff.1 hh).1
  have hheap : (sortWorldK enc k w g 0 m ys.toArray os).heap = (w.heap.modify g (onCells (putCells id 0 (flatK enc k ys.toArray)))) ++ os := rfl
  have hnew : (sortWorldK enc k w g 0 m ys.toArray os).heap[g]? = some (.cells (putCells id 0 (flatK enc k ys.toArray) cur) e (0, 0)) := by
    rw [hheap, Array.getElem?_append_left (by simpa using hlt), Array.getElem?_modify, if_pos rfl, hh]
    rfl
  refine ⟨⟨h0, (flatK enc k ys.toArray).toList, ⟨by simp [Kd.flat], .inr ⟨g, cap, _, by rw [hl], hb, hnew, by omega, hc2, ?_, ?_⟩⟩, flat_reps hn ys⟩, ⟨rfl, rfl, rfl, ?_, ?_⟩⟩
  · simp [putCells, hcs]
  · refine List.ext_getElem? fun t => ?_
    rw [List.getElem?_take]
    simp only [Kd.flat] at hcs ⊢
    have hle : ys.length * k ≤ cap * k := Nat.mul_le_mul_right k (by omega)
    by_cases ht : t < ys.length * k
    · simp only [ht, ↓reduceIte]
      simp only [putCells, Array.toList_mapIdx, List.getElem?_mapIdx, Array.getElem?_toList]
      rw [Array.getElem?_eq_getElem (show t < cur.size by omega), Array.getElem?_eq_getElem (show t < (flatK enc k ys.toArray).size by simpa using ht)]
      rw [Option.map_some, if_pos ⟨by omega, by simpa using ht⟩]
      rw [Nat.sub_zero, getElem!_pos _ _ (by simpa using ht)]
      rfl
    · simp only [ht, ↓reduceIte]
      rw [List.getElem?_eq_none (by simpa using ht)]
  · rw [hheap]; simp
  · intro i hi hne
    have : g ≠ i := fun e => hne (by rw [e])
    rw [hheap, Array.getElem?_append_left (by simpa using hi), Array.getElem?_modify, if_neg this]
end
/-! ### a row whose block may be larger than its capacity (cut by three indexes) -/
def LRow (w : World) (base : Nat) (e : TypeId) (size : Nat) (v : Value) (n : Nat) (xs : List Value) : Prop :=
  xs.length = n * size ∧
  ((v = .slice none 0 0 ∧ n = 0) ∨
   ∃ g cap cur, v = .slice (some ⟨g, 0, none⟩) n cap ∧ base ≤ g ∧ w.heap[g]? = some (.cells cur e (0, 0)) ∧ n ≤ cap ∧ cap ≤ maxLen ∧ cap * size ≤ cur.size ∧ cur.toList.take (n * size) = xs)
section
variable {P : Program} {w w1 : World} {base n size : Nat} {e : TypeId} {v : Value} {xs : List Value}
theorem l_of_own (h : w.ownsRow base e size v n xs) : LRow w base e size v n xs := by
  obtain ⟨h1, h2⟩ := h
  refine ⟨h1, ?_⟩
  rcases h2 with h2 | ⟨g, cap, cur, rfl, hb, hh, hnc, hcm, hcs, ht⟩
  · exact .inl h2
  · exact .inr ⟨g, cap, cur, rfl, hb, hh, hnc, hcm, by omega, ht⟩
theorem l_move (h : LRow w base e size v n xs) (hm : ∀ k, v.ownBlock = some k → w1.heap[k]? = w.heap[k]?) : LRow w1 base e size v n xs := by
  obtain ⟨h1, h2⟩ := h
  refine ⟨h1, ?_⟩
  rcases h2 with h2 | ⟨g, cap, cur, rfl, hb, hh, r⟩
  · exact .inl h2
  · exact .inr ⟨g, cap, cur, rfl, hb, (hm g rfl).trans hh, r⟩
theorem l_typed (h : LRow w base e size v n xs) (k : Nat) (hk : v.ownBlock = some k) : base ≤ k ∧ ∃ cells, w.heap[k]? = some (.cells cells e (0, 0)) := by
  rcases h.2 with ⟨rfl, _⟩ | ⟨g, cap, cur, rfl, hb, hh, _⟩
  · cases hk
  · injection hk with hk
    have hk : g = k := hk
    subst hk
    exact ⟨hb, _, hh⟩
theorem l_lower {base' : Nat} (h : LRow w base e size v n xs) (hb : base' ≤ base) : LRow w base' e size v n xs := by
  obtain ⟨h1, h2⟩ := h
  refine ⟨h1, ?_⟩
  rcases h2 with h2 | ⟨g, cap, cur, hv, hb', r⟩
  · exact .inl h2
  · exact .inr ⟨g, cap, cur, hv, by omega, r⟩
theorem l_cells {g c : Nat} (h : LRow w base e size (.slice (some ⟨g, 0, none⟩) n c) n xs) : ∀ j u, xs[j]? = some u → w.cell? ⟨g, j, none⟩ = some u := by
  intro j u hu
  rcases h.2 with ⟨hv, _⟩ | ⟨g', cap, cur, hv, hb, hh, _, _, _, ht⟩
  · cases hv
  · injection hv with hv _ _
    injection hv with hv
    injection hv with hv
    subst hv
    rw [cell_of_row w g _ cur e (0, 0) hh]
    rw [← ht, List.getElem?_take] at hu
    split at hu
    · rw [← Array.getElem?_toList]; exact hu
    · cases hu
theorem run_append_zero (t ty e : TypeId) (i : TypeInfo) (ht : P.underlying t = some (.slice e)) (hi : P.info? e = some i) (b : Option Addr) (n c : Nat) (x : Option Addr) (c' : Nat) (h : n ≤ c) :
    (Builtin.append_ #[t, t] ty #[.slice b n c, .slice x 0 c']).run P w = .ok (.slice b n c) w := by
  cases x <;> cases b <;> simp [Builtin.append_, run_underlying ht, sizeOf, typeInfo, hi, Builtin.lenOf, Builtin.firstCells, h, go_sem, loadCells, loadCellsFrom, storeCells]
theorem l_append (w : World) (base : Nat) (t ty e : TypeId) (i : TypeInfo) (z : Value) (size bytes : Nat) (ht : P.underlying t = some (.slice e)) (hi : P.info? e = some i) (hz : i.zero = some z)
    (hsize : i.size = size) (hby : i.bytes = bytes) (hzs : z.cells.size = size) (hsz : 0 < size)
    (v : Value) (n : Nat) (xs : List Value) (hown : LRow w base e size v n xs)
    (a : Addr) (m c : Nat) (news : List Value) (hl : news.length = m * size) (hnews : ∀ j u, news[j]? = some u → w.cell? (a.add j) = some u) (h1 : ∀ u ∈ news, u.oneCell' = true) (hm : 0 < m)
    (h63 : n + m ≤ maxLen) (hbytes : (n + m) * bytes ≤ 140737488355328) (hbase : base ≤ w.heap.size) :
    ∃ v' w', (Builtin.append_ #[t, t] ty #[v, .slice (some a) m c]).run P w = .ok v' w' ∧ LRow w' base e size v' (n + m) (xs ++ news) ∧ w.grownBy w' v.ownBlock := by
  rcases hown.2 with ⟨rfl, rfl⟩ | ⟨g, cap, cur, rfl, hbg, hg, hnc, hcm, hcs, htake⟩
  · have ho : w.ownsRow base e size (.slice none 0 0) 0 xs := ⟨hown.1, .inl ⟨rfl, rfl⟩⟩
    obtain ⟨v', w', hr, ho', hg, _⟩ := run_append_own_at (P := P) w base t ty e i z size bytes ht hi hz hsize hby hzs hsz _ 0 xs ho a m c news hl hnews h1 h63 hbytes hbase
    exact ⟨v', w', hr, l_of_own ho', hg⟩
  · by_cases hroom : n + m ≤ cap
    · have hfit : 0 + n * size + news.length ≤ cur.size := by
        have := Nat.mul_le_mul_right size hroom
        rw [Nat.add_mul] at this
        rw [hl]
        omega
      subst hsize
      have hr := run_append_room_cells (P := P) (w := w) t ty e i ht hi g 0 n cap a m c news hl hnews h1 hroom
        (fun j hj => by rw [cell_of_row w g _ cur e (0, 0) hg]; simp; omega) (fun j _ => blk_frozen hg _)
      obtain ⟨cur', h3, h4, h5⟩ := setCells_row news (0 + n * i.size) w cur hg hfit
      obtain ⟨s1, s2, s3, s4⟩ := setCells_same g news (0 + n * i.size) w
      refine ⟨_, _, hr, ⟨by rw [List.length_append, hown.1, hl, Nat.add_mul], .inr ⟨g, cap, cur', rfl, hbg, h3, hroom, hcm, by omega, ?_⟩⟩,
        ⟨s1, s2, s3, by rw [s4]; exact Nat.le_refl _, fun k _ hk => setCells_far news _ k (fun he => hk (by rw [he]; simp [Value.ownBlock]))⟩⟩
      rw [h5, Nat.zero_add, htake]
      exact List.take_left' (by rw [List.length_append, hown.1, hl, Nat.add_mul])
    · obtain ⟨v', w', hr, ho, hg'⟩ := run_append_arg_grows (P := P) (w := w) t ty e i z size bytes ht hi hz hsize hby hzs hsz ⟨g, 0, none⟩ n cap xs hown.1 (fun j u hu => by rw [add_plain]; exact l_cells hown j u hu) a m c news hl hnews (by omega) h63 hbytes
      exact ⟨v', w', hr, l_lower (l_of_own ho) hbase, ⟨hg'.os, hg'.tape, hg'.output, hg'.size, fun k hk _ => hg'.block k hk (by simp)⟩⟩
theorem l_delete (w : World) (base : Nat) (t ty e : TypeId) (i : TypeInfo) (z : Value) (size bytes : Nat) (ht : P.underlying t = some (.slice e)) (hi : P.info? e = some i) (hz : i.zero = some z)
    (hsize : i.size = size) (hby : i.bytes = bytes) (hzs : z.cells.size = size) (hsz : 0 < size)
    (g c n : Nat) (xs : List Value) (hown : LRow w base e size (.slice (some ⟨g, 0, none⟩) n c) n xs) (k : Nat) (hk : k < n) (hbytes : n * bytes ≤ 140737488355328) (hb0 : 0 < bytes) (hbase : base ≤ w.heap.size) :
    ∃ v' w', (Builtin.append_ #[t, t] ty #[.slice (some ⟨g, 0, none⟩) k k, .slice (if c = k + 1 then some ⟨g, 0, none⟩ else some ⟨g, (k + 1) * size, none⟩) (n - (k + 1)) (c - (k + 1))]).run P w = .ok v' w' ∧
      LRow w' base e size v' (n - 1) (xs.take (k * size) ++ xs.drop ((k + 1) * size)) ∧ w.grownBy w' none := by
  have hcell := l_cells hown
  have hlen := hown.1
  have hkn : (k + 1) * size ≤ n * size := Nat.mul_le_mul_right _ hk
  have hk0 : k * size ≤ n * size := Nat.mul_le_mul_right _ (by omega)
  have hn0 : n ≤ 140737488355328 := Nat.le_trans (Nat.le_mul_of_pos_right _ hb0) hbytes
  by_cases hm : n = k + 1
  · refine ⟨.slice (some ⟨g, 0, none⟩) k k, w, ?_, ?_, World.grownBy.refl w _⟩
    · rw [show n - (k + 1) = 0 by omega]
      exact run_append_zero t ty e i ht hi _ k k _ _ (Nat.le_refl _)
    · rcases hown.2 with ⟨hv, _⟩ | ⟨g', cap, cur, hv, hb, hh, h1, h2, h3, h4⟩
      · cases hv
      · injection hv with hv _ hc
        injection hv with hv
        injection hv with hv
        subst hv hc
        have e1 : xs.drop ((k + 1) * size) = [] := List.drop_eq_nil_of_le (by rw [hlen, hm]; exact Nat.le_refl _)
        rw [e1, List.append_nil, show n - 1 = k by omega]
        refine ⟨by rw [List.length_take, hlen, Nat.min_eq_left hk0], .inr ⟨g, k, cur, rfl, hb, hh, Nat.le_refl _, by omega, ?_, ?_⟩⟩
        · have := Nat.mul_le_mul_right size (show k ≤ c by omega)
          omega
        · rw [← h4, List.take_take, Nat.min_eq_left hk0]
  · have hcn : n ≤ c := by
      rcases hown.2 with ⟨hv, _⟩ | ⟨g', cap, cur, hv, hb, hh, h1, _⟩
      · cases hv
      · injection hv with _ _ hc
        omega
    rw [if_neg (by omega)]
    obtain ⟨v', w', hr, ho, hg'⟩ := run_append_arg_grows (P := P) (w := w) t ty e i z size bytes ht hi hz hsize hby hzs hsz ⟨g, 0, none⟩ k k (xs.take (k * size)) (by rw [List.length_take, hlen, Nat.min_eq_left hk0])
      (fun j u hu => by
        rw [add_plain]
        rw [List.getElem?_take] at hu
        split at hu
        · exact hcell j u hu
        · cases hu) ⟨g, (k + 1) * size, none⟩ (n - (k + 1)) (c - (k + 1)) (xs.drop ((k + 1) * size)) (by rw [List.length_drop, hlen, ← Nat.sub_mul])
      (fun j u hu => by
        rw [List.getElem?_drop] at hu
        have e1 : (⟨g, (k + 1) * size, none⟩ : Addr).add j = ⟨g, (k + 1) * size + j, none⟩ := by unfold Addr.add; split <;> simp_all
        rw [e1]
        exact hcell _ u hu) (by omega) (by simp only [maxLen]; omega) (by
        refine Nat.le_trans (Nat.mul_le_mul_right _ ?_) hbytes
        omega)
    rw [show k + (n - (k + 1)) = n - 1 by omega] at ho
    exact ⟨v', w', hr, l_lower (l_of_own ho) hbase, hg'⟩
end
/-! ### the same, by what the elements are -/
section
variable {α : Type} {enc : α → List Value} {k : Nat} {e base : Nat} {w w1 : World} {v : Value} {xs : List α}
def Lo (enc : α → List Value) (k e : Nat) (w : World) (base : Nat) (v : Value) (xs : List α) : Prop := ∃ inner, LRow w base e k v xs.length inner ∧ Reps (fun x cs => cs = enc x) k xs inner
theorem Lo.nil (w : World) (base : Nat) : Lo enc k e w base (.slice none 0 0) [] := ⟨[], ⟨by simp, .inl ⟨rfl, rfl⟩⟩, Reps.none _ _⟩
theorem Lo.move (h : Lo enc k e w base v xs) (hm : ∀ b, v.ownBlock = some b → w1.heap[b]? = w.heap[b]?) : Lo enc k e w1 base v xs := by
  obtain ⟨inner, h1, h2⟩ := h
  exact ⟨inner, l_move h1 hm, h2⟩
theorem Lo.typed (h : Lo enc k e w base v xs) (b : Nat) (hb : v.ownBlock = some b) : base ≤ b ∧ b < w.heap.size ∧ ∃ cells, w.heap[b]? = some (.cells cells e (0, 0)) := by
  obtain ⟨inner, h1, _⟩ := h
  obtain ⟨h2, cells, h3⟩ := l_typed h1 b hb
  exact ⟨h2, (Array.getElem?_eq_some_iff.1 h3).1, cells, h3⟩
theorem Lo.grown (h : Lo enc k e w base v xs) {row : Option Nat} (hg : w.grownBy w1 row) (hne : ∀ b, row = some b → v.ownBlock ≠ some b) : Lo enc k e w1 base v xs :=
  h.move fun b hb => hg.block b (h.typed b hb).2.1 (fun e => hne b e.symm hb)
theorem Lo.apart {β : Type} {enc' : β → List Value} {k' e' base' : Nat} {v' : Value} {ys : List β} (h : Lo enc k e w base v xs) (h' : Lo enc' k' e' w base' v' ys) (he : e ≠ e') : ∀ b, v'.ownBlock = some b → v.ownBlock ≠ some b := by
  intro b hb hb'
  obtain ⟨_, _, c1, h1⟩ := h.typed b hb'
  obtain ⟨_, _, c2, h2⟩ := h'.typed b hb
  rw [h1] at h2
  injection h2 with h2
  injection h2 with _ h2
  exact he h2
theorem Lo.slice (h : Lo enc k e w base v xs) : ∃ A c, v = .slice A xs.length c ∧ xs.length ≤ c ∧ (0 < xs.length → ∃ g, A = some ⟨g, 0, none⟩ ∧ base ≤ g) := by
  obtain ⟨inner, h1, _⟩ := h
  rcases h1.2 with ⟨rfl, h⟩ | ⟨g, c, cur, rfl, hb, _, hc, _⟩
  · exact ⟨none, 0, by rw [h], by omega, fun h0 => by omega⟩
  · exact ⟨_, c, rfl, hc, fun _ => ⟨g, rfl, hb⟩⟩
theorem Lo.cell (h : Lo enc k e w base v xs) (hn : ∀ x, (enc x).length = k) {g n c : Nat} (hv : v = .slice (some ⟨g, 0, none⟩) n c) (j : Nat) (x : α) (hj : xs[j]? = some x) : ∀ i u, (enc x)[i]? = some u → w.cell? ⟨g, j * k + i, none⟩ = some u := by
  intro i u hu
  obtain ⟨inner, h1, h2⟩ := h
  have e0 : n = xs.length := by
    rcases h1.2 with ⟨hv', _⟩ | ⟨g', c', cur, hv', _⟩
    · rw [hv] at hv'; cases hv'
    · rw [hv] at hv'; injection hv'
  subst hv
  subst e0
  have h3 : (inner.drop (j * k)).take k = enc x := h2.2 j x hj
  refine l_cells h1 _ _ ?_
  rw [← h3, List.getElem?_take] at hu
  split at hu
  · rw [List.getElem?_drop] at hu; exact hu
  · cases hu
theorem reps_erase (hn : ∀ x, (enc x).length = k) {inner : List Value} (h : Reps (fun x cs => cs = enc x) k xs inner) (i : Nat) (hi : i < xs.length) : Reps (fun x cs => cs = enc x) k (xs.eraseIdx i) (inner.take (i * k) ++ inner.drop ((i + 1) * k)) := by
  rw [List.eraseIdx_eq_take_drop_succ]
  exact Kd.reps_append (Kd.reps_take h (by omega)) (Kd.reps_drop h)
theorem Lo.delete {P : Program} (h : Lo enc k e w base v xs) (hn : ∀ x, (enc x).length = k) (t ty : TypeId) (z : Value) (bytes : Nat) (ht : P.underlying t = some (.slice e)) (hinfo : (P.info? e).map (fun i => (i.zero, i.size, i.bytes)) = some (some z, k, bytes)) (hzs : z.cells.size = k) (hk : 0 < k) (hb0 : 0 < bytes)
    {g c : Nat} (hv : v = .slice (some ⟨g, 0, none⟩) xs.length c) (i : Nat) (hi : i < xs.length) (hbytes : xs.length * bytes ≤ 140737488355328) (hbase : base ≤ w.heap.size) :
    ∃ v' w', (Builtin.append_ #[t, t] ty #[.slice (some ⟨g, 0, none⟩) i i, .slice (if c = i + 1 then some ⟨g, 0, none⟩ else some ⟨g, (i + 1) * k, none⟩) (xs.length - (i + 1)) (c - (i + 1))]).run P w = .ok v' w' ∧ Lo enc k e w' base v' (xs.eraseIdx i) ∧ w.grownBy w' none := by
  obtain ⟨inner, h1, h2⟩ := h
  obtain ⟨i0, hi0, hzz⟩ := Option.map_eq_some_iff.1 hinfo
  simp only [Prod.mk.injEq] at hzz
  obtain ⟨hz0, hz1, hz2⟩ := hzz
  subst hv
  obtain ⟨v', w', hr, ho, hg⟩ := l_delete (P := P) w base t ty e i0 z k bytes ht hi0 hz0 hz1 hz2 hzs hk g c xs.length inner h1 i hi hbytes hb0 hbase
  exact ⟨v', w', hr, ⟨_, by rw [List.length_eraseIdx, if_pos hi]; exact ho, reps_erase hn h2 i hi⟩, hg⟩
theorem Lo.append {P : Program} (h : Lo enc k e w base v xs) (hn : ∀ x, (enc x).length = k) (h1c : ∀ x, ∀ u ∈ enc x, u.oneCell' = true) (t ty : TypeId) (z : Value) (bytes : Nat) (ht : P.underlying t = some (.slice e)) (hinfo : (P.info? e).map (fun i => (i.zero, i.size, i.bytes)) = some (some z, k, bytes)) (hzs : z.cells.size = k) (hk : 0 < k) (hb0 : 0 < bytes)
    (x : α) (hbytes : (xs.length + 1) * bytes ≤ 140737488355328) (hbase : base ≤ w.heap.size) :
    ∃ v' w', (Builtin.append_ #[t, t] ty #[v, .slice (some ⟨w.heap.size, 0, none⟩) 1 1]).run P (w.alloc (.cells (enc x).toArray e)) = .ok v' w' ∧ Lo enc k e w' base v' (xs ++ [x]) ∧ w.grownBy w' v.ownBlock := by
  have hw := h.grown (World.grownBy_alloc w (.cells (enc x).toArray e) none) (fun b e => by cases e)
  obtain ⟨inner, h1, h2⟩ := hw
  obtain ⟨i0, hi0, hzz⟩ := Option.map_eq_some_iff.1 hinfo
  simp only [Prod.mk.injEq] at hzz
  obtain ⟨hz0, hz1, hz2⟩ := hzz
  have hlen : xs.length + 1 ≤ 140737488355328 := Nat.le_trans (Nat.le_mul_of_pos_right _ hb0) hbytes
  obtain ⟨v', w', hr, ho, hg⟩ := l_append (P := P) (w.alloc (.cells (enc x).toArray e)) base t ty e i0 z k bytes ht hi0 hz0 hz1 hz2 hzs hk v xs.length inner h1 ⟨w.heap.size, 0, none⟩ 1 1 (enc x) (by rw [hn, Nat.one_mul])
    (by simpa using World.news_of_block (cs := (enc x).toArray) (t := e) (fr := (0, 0)) (heap_alloc_new w (.cells (enc x).toArray e))) (h1c x) (by omega) (by simp only [maxLen]; omega) hbytes (by simp; omega)
  refine ⟨v', w', hr, ⟨_, by rw [List.length_append]; exact ho, h2.snoc rfl (hn x)⟩, trans_grown (World.grownBy_alloc w _ _) hg⟩
end
/-! ### an append of a whole slice -/
section
variable {α : Type} {enc : α → List Value} {k e base : Nat} {w w1 : World} {v : Value} {xs ys : List α}
/-- a slice that can be read off -/
def Src (enc : α → List Value) (k : Nat) (w : World) (A : Option Addr) (ys : List α) : Prop :=
  ∃ inner, inner.length = ys.length * k ∧ Reps (fun x cs => cs = enc x) k ys inner ∧ (0 < ys.length → ∃ a, A = some a ∧ ∀ j u, inner[j]? = some u → w.cell? (a.add j) = some u)
theorem Lo.appS {P : Program} (h : Lo enc k e w base v xs) (hn : ∀ x, (enc x).length = k) (h1c : ∀ x, ∀ u ∈ enc x, u.oneCell' = true) (t ty : TypeId) (z : Value) (bytes : Nat) (ht : P.underlying t = some (.slice e)) (hinfo : (P.info? e).map (fun i => (i.zero, i.size, i.bytes)) = some (some z, k, bytes)) (hzs : z.cells.size = k) (hk : 0 < k) (hb0 : 0 < bytes)
    (A : Option Addr) (c : Nat) (hs : Src enc k w A ys) (hbytes : (xs.length + ys.length) * bytes ≤ 140737488355328) (hbase : base ≤ w.heap.size) :
    ∃ v' w', (Builtin.append_ #[t, t] ty #[v, .slice A ys.length c]).run P w = .ok v' w' ∧ Lo enc k e w' base v' (xs ++ ys) ∧ w.grownBy w' v.ownBlock := by
  obtain ⟨i0, hi0, hzz⟩ := Option.map_eq_some_iff.1 hinfo
  simp only [Prod.mk.injEq] at hzz
  obtain ⟨hz0, hz1, hz2⟩ := hzz
  have hlen : xs.length + ys.length ≤ 140737488355328 := Nat.le_trans (Nat.le_mul_of_pos_right _ hb0) hbytes
  obtain ⟨news, hl, hr, hc⟩ := hs
  rcases Nat.eq_zero_or_pos ys.length with h0 | h0
  · have hy : ys = [] := List.eq_nil_of_length_eq_zero h0
    obtain ⟨B, cB, hv, hle, _⟩ := h.slice
    refine ⟨v, w, ?_, by rw [hy, List.append_nil]; exact h, ⟨rfl, rfl, rfl, Nat.le_refl _, fun _ _ _ => rfl⟩⟩
    rw [h0, hv]
    exact run_append_zero t ty e i0 ht hi0 B xs.length cB A c hle
  · obtain ⟨a, rfl, hcells⟩ := hc h0
    obtain ⟨inner, h1, h2⟩ := h
    obtain ⟨v', w', hrun, ho, hg⟩ := l_append (P := P) w base t ty e i0 z k bytes ht hi0 hz0 hz1 hz2 hzs hk v xs.length inner h1 a ys.length c news hl hcells (fun u hu => by
      obtain ⟨j, hj⟩ := List.mem_iff_getElem?.1 hu
      have hjl : j < ys.length * k := by rw [← hl]; exact (List.getElem?_eq_some_iff.1 hj).1
      have hd : j / k < ys.length := by rw [Nat.div_lt_iff_lt_mul hk]; exact hjl
      have hm := Nat.mod_lt j hk
      have e0 : j / k * k + j % k = j := Nat.div_add_mod' j k
      have h3 : (news.drop (j / k * k)).take k = enc ys[j / k] := hr.2 (j / k) _ (List.getElem?_eq_getElem hd)
      have h4 : ((news.drop (j / k * k)).take k)[j % k]? = news[j]? := by rw [List.getElem?_take, if_pos hm, List.getElem?_drop, e0]
      rw [h3, hj] at h4
      exact h1c _ u (List.mem_of_getElem? h4)) h0 (by simp only [maxLen]; omega) hbytes hbase
    exact ⟨v', w', hrun, ⟨_, by rw [List.length_append]; exact ho, Kd.reps_append h2 hr⟩, hg⟩
/-- a loose row's beginning, read off -/
theorem Lo.srcTake (h : Lo enc k e w base v xs) {A : Option Addr} {n c i : Nat} (hv : v = .slice A n c) (hi : i ≤ xs.length) : Src enc k w A (xs.take i) := by
  obtain ⟨inner, h1, h2⟩ := h
  have hle : i * k ≤ xs.length * k := Nat.mul_le_mul_right _ hi
  have e0 : (xs.take i).length = i := by rw [List.length_take]; omega
  refine ⟨inner.take (i * k), by rw [List.length_take, h1.1, e0]; omega, Kd.reps_take h2 hi, fun h0 => ?_⟩
  rcases h1.2 with ⟨hv', hn⟩ | ⟨g, cap, cur, hv', _⟩
  · rw [e0] at h0; omega
  · rw [hv] at hv'
    injection hv' with e1 e2 e3
    refine ⟨_, e1, fun j u hu => ?_⟩
    rw [add_plain]
    rw [List.getElem?_take] at hu
    split at hu
    · have h3 := h1
      rw [hv, e1, e2] at h3
      exact l_cells h3 j u hu
    · cases hu
/-- .. its end -/
theorem Lo.srcDrop (h : Lo enc k e w base v xs) {A : Option Addr} {n c i : Nat} (hv : v = .slice A n c) (hi : i ≤ xs.length) : Src enc k w (if c = i then A else A.map (·.add (i * k))) (xs.drop i) := by
  obtain ⟨inner, h1, h2⟩ := h
  refine ⟨inner.drop (i * k), by rw [List.length_drop, h1.1, List.length_drop, Nat.sub_mul], Kd.reps_drop h2, fun h0 => ?_⟩
  rw [List.length_drop] at h0
  rcases h1.2 with ⟨hv', hn⟩ | ⟨g, cap, cur, hv', _, _, hnc, _⟩
  · omega
  · rw [hv] at hv'
    injection hv' with e1 e2 e3
    subst e1 e2 e3
    rw [if_neg (by omega)]
    refine ⟨_, rfl, fun j u hu => ?_⟩
    show w.cell? (((⟨g, 0, none⟩ : Addr).add (i * k)).add j) = some u
    rw [add_plain]
    have e4 : (⟨g, i * k, none⟩ : Addr).add j = ⟨g, i * k + j, none⟩ := by unfold Addr.add; split <;> simp_all
    rw [e4]
    rw [List.getElem?_drop] at hu
    rw [hv] at h1
    exact l_cells h1 _ u hu
theorem Lo.src (h : Lo enc k e w base v xs) {A : Option Addr} {n c : Nat} (hv : v = .slice A n c) : Src enc k w A xs := by
  have := h.srcTake hv (Nat.le_refl _)
  rwa [List.take_length] at this
theorem Src.grown {A : Option Addr} (h : Src enc k w A ys) (hm : 0 < k → ∀ a, A = some a → w1.heap[a.block]? = w.heap[a.block]?) : Src enc k w1 A ys := by
  obtain ⟨inner, h1, h2, h3⟩ := h
  refine ⟨inner, h1, h2, fun h0 => ?_⟩
  obtain ⟨a, ha, hc⟩ := h3 h0
  refine ⟨a, ha, fun j u hu => ?_⟩
  have hk : 0 < k := by
    rcases Nat.eq_zero_or_pos k with e | e
    · rw [e, Nat.mul_zero] at h1
      have := List.eq_nil_of_length_eq_zero h1
      rw [this] at hu; cases hu
    · exact e
  have e1 : (a.add j).block = a.block := by unfold Addr.add; split <;> rfl
  exact (World.cell?_of_block (a := a.add j) (by rw [e1]; exact hm hk a ha)).trans (hc j u hu)
end
/-! ### rows of one cell an element -/
section
variable {α : Type} [Inhabited α] {enc : α → Value}
theorem flat_one (d : Array α) : flatK (fun x => [enc x]) 1 d = d.map enc := by
  refine Array.ext (by simp) fun t h1 h2 => ?_
  have ht : t < d.size := by simpa using h2
  have := get_flatK (fun x => [enc x]) 1 d t (by simpa using ht)
  rw [getElem!_pos (flatK (fun x => [enc x]) 1 d) t h1] at this
  rw [this, Nat.mod_one, Nat.div_one, getElem!_pos d t ht, Array.getElem_map]
  rfl
theorem putRow_one (w : World) (g : Nat) (d : Array α) : putRow enc w g 0 d = putRow id w g 0 (d.map enc) := by
  unfold putRow
  refine mapBlock_congr _ _ _ _ fun c e fr _ => ?_
  unfold putCells
  congr 1
  funext k x
  rw [Array.size_map]
  split
  · rename_i h
    have hk : k - 0 < d.size := by omega
    rw [getElem!_pos (d.map enc) (k - 0) (by simpa using hk), Array.getElem_map, getElem!_pos d (k - 0) hk]
    rfl
  · rfl
variable {hn : ∀ x : α, [enc x].length = 1} {h1 : ∀ x, ∀ u ∈ [enc x], u.oneCell' = true}
theorem one_holds {w : World} {base e g cap : Nat} {ok : Nat → Prop} {xs : List α} (h : (Kd.flat (fun x => [enc x]) 1 hn h1).R e w base ok (.slice (some ⟨g, 0, none⟩) xs.length cap) xs) : Holds enc w g 0 xs.toArray := by
  have h2 := flat_holds h
  unfold HoldsK at h2
  rw [flat_one] at h2
  intro j hj
  obtain ⟨h3, h4⟩ := h2 j (by simpa using hj)
  refine ⟨?_, h4⟩
  rw [h3, getElem!_pos _ _ (by simpa using hj), Array.getElem_map, getElem!_pos xs.toArray j hj]
  rfl
theorem one_put {w : World} {base e g cap : Nat} {ok : Nat → Prop} {xs ys : List α} (h : (Kd.flat (fun x => [enc x]) 1 hn h1).R e w base ok (.slice (some ⟨g, 0, none⟩) xs.length cap) xs) (hl : ys.length = xs.length) (m : Nat) (os : Array Obj) :
    (Kd.flat (fun x => [enc x]) 1 hn h1).R e (grow (putRow enc (Sort.ahead w m) g 0 ys.toArray) os) base ok (.slice (some ⟨g, 0, none⟩) ys.length cap) ys ∧ w.grownBy (grow (putRow enc (Sort.ahead w m) g 0 ys.toArray) os) (some g) := by
  have := flat_sorted h hl m os
  unfold sortWorldK putRowK at this
  rw [flat_one, ← putRow_one] at this
  exact this
end
theorem Lo.lower {α : Type} {enc : α → List Value} {k e base base' : Nat} {w : World} {v : Value} {xs : List α} (h : Lo enc k e w base v xs) (hb : base' ≤ base) : Lo enc k e w base' v xs := by
  obtain ⟨inner, h1, h2⟩ := h
  exact ⟨inner, l_lower h1 hb, h2⟩
theorem Lo.ofR {α : Type} {enc : α → List Value} {k e base : Nat} {hn : ∀ x, (enc x).length = k} {h1 : ∀ x, ∀ u ∈ enc x, u.oneCell' = true} {w : World} {ok : Nat → Prop} {v : Value} {xs : List α} (h : (Kd.flat enc k hn h1).R e w base ok v xs) : Lo enc k e w base v xs := by
  obtain ⟨_, inner, ho, hr⟩ := h
  exact ⟨inner, l_of_own ho, hr⟩
theorem cut3 {P : Program} (t e : TypeId) (ht : P.underlying t = some (.slice e)) {z : Option Value} {size bytes : Nat} (hinfo : (P.info? e).map (fun i => (i.zero, i.size, i.bytes)) = some (z, size, bytes)) (g : Addr) (n c k : Nat) (hk : k ≤ c) (W : World) :
    (Instr.slice t (.slice (some g) n c) none (some (.int .i64 k)) (some (.int .i64 k))).run P W = .ok (.slice (some g) k k) W := by
  obtain ⟨i, hi, _⟩ := Option.map_eq_some_iff.1 hinfo
  simp [Instr.slice, Instr.sliceBounds, Instr.sliceBound, run_underlying ht, sizeOf, typeInfo, hi, asIntOf, go_sem, hk]
theorem cutBehind {P : Program} (t e : TypeId) (ht : P.underlying t = some (.slice e)) {z : Option Value} {size bytes : Nat} (hinfo : (P.info? e).map (fun i => (i.zero, i.size, i.bytes)) = some (z, size, bytes)) (g n c k : Nat) (hk : k < n) (W : World) :
    (Instr.slice t (.slice (some ⟨g, 0, none⟩) n c) (some (.int .i64 ((k : Int) + 1))) none none).run P W = .ok (.slice (if c = k + 1 then some ⟨g, 0, none⟩ else some ⟨g, (k + 1) * size, none⟩) (n - (k + 1)) (c - (k + 1))) W := by
  obtain ⟨i, hi, hz⟩ := Option.map_eq_some_iff.1 hinfo
  simp only [Prod.mk.injEq] at hz
  have := cut_from (P := P) t e .i64 ht hi size hz.2.1 (some ⟨g, 0, none⟩) n c ((k : Int) + 1) (by omega) (by omega) W
  rw [this, show ((k : Int) + 1).toNat = k + 1 by omega]
  simp only [Option.map_some, add_plain]
theorem app_step {P : Program} {ops : Array Oper} {o : Oper} {a : Act} {Q' : Exit → Act → World → Prop} {Kc : Act → World → Prop} {W w1 : World} {s x : Operand} {t : TypeId} {v u v1 : Value} (hw : Region.wanted o (yielded ops a.tmps) = true)
    (ho : o.op = .call { callee := .builtin .append, args := #[s, x], argTypes := #[t, t] }) (hs : a.eval s = v) (hx : a.eval x = u) (hr : (Builtin.append_ #[t, t] o.type #[v, u]).run P W = .ok v1 w1) (h : Kc (a.put o.dst v1) w1) :
    if Region.wanted o (yielded ops a.tmps) = true then Oper.wp P o a W Kc Q' else Kc (a.put o.dst undef) W := by
  rw [if_pos hw]
  unfold Oper.wp execOp
  simp only [ho, resolve, invoke, builtin, Sem.run_bind, Sem.run_pure, Result.andThen_ok, List.map_toArray, List.map_cons, List.map_nil, hs, hx, hr]
  exact h
theorem app_list {P : Program} {ops : Array Oper} {o : Oper} {rest : List Oper} {a : Act} {Q' : Exit → Act → World → Prop} {W w1 : World} {s x : Operand} {t : TypeId} {v u v1 : Value} (hgd : o.guard = none)
    (ho : o.op = .call { callee := .builtin .append, args := #[s, x], argTypes := #[t, t] }) (hs : a.eval s = v) (hx : a.eval x = u) (hr : (Builtin.append_ #[t, t] o.type #[v, u]).run P W = .ok v1 w1) (h : wpList P ops Q' rest (a.put o.dst v1) w1) :
    wpList P ops Q' (o :: rest) a W := by
  refine wpList_plain hgd fun K hK => ?_
  unfold Oper.wp execOp
  simp only [ho, resolve, invoke, builtin, Sem.run_bind, Sem.run_pure, Result.andThen_ok, List.map_toArray, List.map_cons, List.map_nil, hs, hx, hr]
  exact hK _ _ h
theorem map_erase {α β : Type} (f : α → β) (l : List α) (i : Nat) : (l.eraseIdx i).map f = (l.map f).eraseIdx i := by
  rw [List.eraseIdx_eq_take_drop_succ, List.eraseIdx_eq_take_drop_succ, List.map_append, List.map_take, List.map_drop]
theorem cutTo {P : Program} (t e : TypeId) (ht : P.underlying t = some (.slice e)) {z : Option Value} {size bytes : Nat} (hinfo : (P.info? e).map (fun i => (i.zero, i.size, i.bytes)) = some (z, size, bytes)) (A : Option Addr) (n c k : Nat) (hk : k ≤ c) (W : World) :
    (Instr.slice t (.slice A n c) none (some (.int .i64 k)) none).run P W = .ok (.slice A k c) W := by
  obtain ⟨i, hi, _⟩ := Option.map_eq_some_iff.1 hinfo
  cases A <;> simp [Instr.slice, Instr.sliceBounds, Instr.sliceBound, run_underlying ht, sizeOf, typeInfo, hi, asIntOf, go_sem, hk, Addr.add]
theorem cutOff {P : Program} (t e : TypeId) (ht : P.underlying t = some (.slice e)) {z : Option Value} {size bytes : Nat} (hinfo : (P.info? e).map (fun i => (i.zero, i.size, i.bytes)) = some (z, size, bytes)) (A : Option Addr) (n c k : Nat) (hk : k ≤ n) (W : World) :
    (Instr.slice t (.slice A n c) (some (.int .i64 k)) none none).run P W = .ok (.slice (if c = k then A else A.map (·.add (k * size))) (n - k) (c - k)) W := by
  obtain ⟨i, hi, hz⟩ := Option.map_eq_some_iff.1 hinfo
  simp only [Prod.mk.injEq] at hz
  have := cut_from (P := P) t e .i64 ht hi size hz.2.1 A n c (k : Int) (by omega) (by omega) W
  rw [this, Int.toNat_natCast]
/-- a row that is spoilt: nothing but its block changes -/
structure Spoil (w1 : World) (v : Value) (n sz ty : Nat) (wr : World) : Prop where
  chg : w1.grownBy wr v.ownBlock
  blk : ∀ g, v.ownBlock = some g → ∃ cur, wr.heap[g]? = some (.cells cur ty (0, 0)) ∧ n * sz ≤ cur.size
theorem Spoil.start {α : Type} {d : Kd α} {e base : Nat} {ok : Nat → Prop} {w : World} {v : Value} {xs : List α} (h : d.R e w base ok v xs) : Spoil w v xs.length d.sz e w := by
  refine ⟨World.grownBy.refl w _, fun g hg => ?_⟩
  obtain ⟨inner, ho⟩ := Kd.R_own h
  rcases ho.2 with ⟨rfl, _⟩ | ⟨g', cap, cur, rfl, _, hh, hnc, _, hcs, _⟩
  · cases hg
  · injection hg with hg
    have hg : g' = g := hg
    subst hg
    exact ⟨cur, hh, by rw [hcs]; exact Nat.mul_le_mul_right _ hnc⟩
theorem Spoil.set {w1 wr : World} {g n c sz ty : Nat} (h : Spoil w1 (.slice (some ⟨g, 0, none⟩) n c) n sz ty wr) (j : Nat) (u : Value) : Spoil w1 (.slice (some ⟨g, 0, none⟩) n c) n sz ty (wr.setCell ⟨g, j, none⟩ u) := by
  obtain ⟨cur, hb, hs⟩ := h.blk g rfl
  refine ⟨trans_grown h.chg (grown_set wr g j u), fun g' hg' => ?_⟩
  injection hg' with hg'
  have hg' : g = g' := hg'
  subst hg'
  exact ⟨_, blk_set hb j u, by simpa using hs⟩
theorem Spoil.cell {w1 wr : World} {g n c sz ty : Nat} (h : Spoil w1 (.slice (some ⟨g, 0, none⟩) n c) n sz ty wr) (j : Nat) (hj : j < n * sz) : (∃ u, wr.cell? ⟨g, j, none⟩ = some u) ∧ wr.frozen? ⟨g, j, none⟩ = false := by
  obtain ⟨cur, hb, hs⟩ := h.blk g rfl
  refine ⟨?_, blk_frozen hb _⟩
  rw [cell_of_row wr g _ cur ty (0, 0) hb]
  exact ⟨_, Array.getElem?_eq_getElem (by omega)⟩
end Go.Proofs.Ytedcnpaomphffaa
