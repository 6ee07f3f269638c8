import Derived.Test.YtbellkkheppofaaN
namespace Go.Proofs.Ytbellkkheppofaa
open Go.RowKit Go.Maps Go.Sort Go.Proofs.YtbellkkheppofaaW.PrintWords Go.Proofs.YtbellkkheppofaaW.PrintLast Go.Proofs.YtbellkkheppofaaW.PrintMore
set_option linter.unusedVariables false
set_option linter.unusedSimpArgs false
set_option linter.unusedSectionVars false
/-! ### a row whose block may be larger than its capacity (cut by three indexes) -/
def LRow (w : World) (base : Nat) (e : TypeId) (size : Nat) (v : Value) (n : Nat) (xs : List Value) : Prop :=
  xs.length = n * size ∧
  ((v = .slice none 0 0 ∧ n = 0) ∨
   ∃ g cap cur, v = .slice (some ⟨g, 0, none⟩) n cap ∧ base ≤ g ∧ w.heap[g]? = some (.cells cur e (0, 0)) ∧ n ≤ cap ∧ cap ≤ maxLen ∧ cap * size ≤ cur.size ∧ cur.toList.take (n * size) = xs)
section
variable {P : Program} {w w1 : World} {base n size : Nat} {e : TypeId} {v : Value} {xs : List Value}
theorem l_of_own (h : w.ownsRow base e size v n xs) : LRow w base e size v n xs := by
  obtain ⟨h1, h2⟩ := h
  refine ⟨h1, ?_⟩
  rcases h2 with h2 | ⟨g, cap, cur, rfl, hb, hh, hnc, hcm, hcs, ht⟩
  · exact .inl h2
  · exact .inr ⟨g, cap, cur, rfl, hb, hh, hnc, hcm, by omega, ht⟩
theorem l_move (h : LRow w base e size v n xs) (hm : ∀ k, v.ownBlock = some k → w1.heap[k]? = w.heap[k]?) : LRow w1 base e size v n xs := by
  obtain ⟨h1, h2⟩ := h
  refine ⟨h1, ?_⟩
  rcases h2 with h2 | ⟨g, cap, cur, rfl, hb, hh, r⟩
  · exact .inl h2
  · exact .inr ⟨g, cap, cur, rfl, hb, (hm g rfl).trans hh, r⟩
theorem l_typed (h : LRow w base e size v n xs) (k : Nat) (hk : v.ownBlock = some k) : base ≤ k ∧ ∃ cells, w.heap[k]? = some (.cells cells e (0, 0)) := by
  rcases h.2 with ⟨rfl, _⟩ | ⟨g, cap, cur, rfl, hb, hh, _⟩
  · cases hk
  · injection hk with hk
    have hk : g = k := hk
    subst hk
    exact ⟨hb, _, hh⟩
theorem l_lower {base' : Nat} (h : LRow w base e size v n xs) (hb : base' ≤ base) : LRow w base' e size v n xs := by
  obtain ⟨h1, h2⟩ := h
  refine ⟨h1, ?_⟩
  rcases h2 with h2 | ⟨g, cap, cur, hv, hb', r⟩
  · exact .inl h2
  · exact .inr ⟨g, cap, cur, hv, by omega, r⟩
theorem l_cells {g c : Nat} (h : LRow w base e size (.slice (some ⟨g, 0, none⟩) n c) n xs) : ∀ j u, xs[j]? = some u → w.cell? ⟨g, j, none⟩ = some u := by
  intro j u hu
  rcases h.2 with ⟨hv, _⟩ | ⟨g', cap, cur, hv, hb, hh, _, _, _, ht⟩
  · cases hv
  · injection hv with hv _ _
    injection hv with hv
    injection hv with hv
    subst hv
    rw [cell_of_row w g _ cur e (0, 0) hh]
    rw [← ht, List.getElem?_take] at hu
    split at hu
    · rw [← Array.getElem?_toList]; exact hu
    · cases hu
theorem run_append_zero (t ty e : TypeId) (i : TypeInfo) (ht : P.underlying t = some (.slice e)) (hi : P.info? e = some i) (b : Option Addr) (n c : Nat) (x : Option Addr) (c' : Nat) (h : n ≤ c) :
    (Builtin.append_ #[t, t] ty #[.slice b n c, .slice x 0 c']).run P w = .ok (.slice b n c) w := by
  cases x <;> cases b <;> simp [Builtin.append_, run_underlying ht, sizeOf, typeInfo, hi, Builtin.lenOf, Builtin.firstCells, h, go_sem, loadCells, loadCellsFrom, storeCells]
theorem l_append (w : World) (base : Nat) (t ty e : TypeId) (i : TypeInfo) (z : Value) (size bytes : Nat) (ht : P.underlying t = some (.slice e)) (hi : P.info? e = some i) (hz : i.zero = some z)
    (hsize : i.size = size) (hby : i.bytes = bytes) (hzs : z.cells.size = size) (hsz : 0 < size)
    (v : Value) (n : Nat) (xs : List Value) (hown : LRow w base e size v n xs)
    (a : Addr) (m c : Nat) (news : List Value) (hl : news.length = m * size) (hnews : ∀ j u, news[j]? = some u → w.cell? (a.add j) = some u) (h1 : ∀ u ∈ news, u.oneCell' = true) (hm : 0 < m)
    (h63 : n + m ≤ maxLen) (hbytes : (n + m) * bytes ≤ 140737488355328) (hbase : base ≤ w.heap.size) :
    ∃ v' w', (Builtin.append_ #[t, t] ty #[v, .slice (some a) m c]).run P w = .ok v' w' ∧ LRow w' base e size v' (n + m) (xs ++ news) ∧ w.grownBy w' v.ownBlock := by
  rcases hown.2 with ⟨rfl, rfl⟩ | ⟨g, cap, cur, rfl, hbg, hg, hnc, hcm, hcs, htake⟩
  · have ho : w.ownsRow base e size (.slice none 0 0) 0 xs := ⟨hown.1, .inl ⟨rfl, rfl⟩⟩
    obtain ⟨v', w', hr, ho', hg, _⟩ := run_append_own_at (P := P) w base t ty e i z size bytes ht hi hz hsize hby hzs hsz _ 0 xs ho a m c news hl hnews h1 h63 hbytes hbase
    exact ⟨v', w', hr, l_of_own ho', hg⟩
  · by_cases hroom : n + m ≤ cap
    · have hfit : 0 + n * size + news.length ≤ cur.size := by
        have := Nat.mul_le_mul_right size hroom
        rw [Nat.add_mul] at this
        rw [hl]
        omega
      subst hsize
      have hr := run_append_room_cells (P := P) (w := w) t ty e i ht hi g 0 n cap a m c news hl hnews h1 hroom
        (fun j hj => by rw [cell_of_row w g _ cur e (0, 0) hg]; simp; omega) (fun j _ => blk_frozen hg _)
      obtain ⟨cur', h3, h4, h5⟩ := setCells_row news (0 + n * i.size) w cur hg hfit
      obtain ⟨s1, s2, s3, s4⟩ := setCells_same g news (0 + n * i.size) w
      refine ⟨_, _, hr, ⟨by rw [List.length_append, hown.1, hl, Nat.add_mul], .inr ⟨g, cap, cur', rfl, hbg, h3, hroom, hcm, by omega, ?_⟩⟩,
        ⟨s1, s2, s3, by rw [s4]; exact Nat.le_refl _, fun k _ hk => setCells_far news _ k (fun he => hk (by rw [he]; simp [Value.ownBlock]))⟩⟩
      rw [h5, Nat.zero_add, htake]
      exact List.take_left' (by rw [List.length_append, hown.1, hl, Nat.add_mul])
    · obtain ⟨v', w', hr, ho, hg'⟩ := run_append_arg_grows (P := P) (w := w) t ty e i z size bytes ht hi hz hsize hby hzs hsz ⟨g, 0, none⟩ n cap xs hown.1 (fun j u hu => by rw [add_plain]; exact l_cells hown j u hu) a m c news hl hnews (by omega) h63 hbytes
      exact ⟨v', w', hr, l_lower (l_of_own ho) hbase, ⟨hg'.os, hg'.tape, hg'.output, hg'.size, fun k hk _ => hg'.block k hk (by simp)⟩⟩
theorem l_delete (w : World) (base : Nat) (t ty e : TypeId) (i : TypeInfo) (z : Value) (size bytes : Nat) (ht : P.underlying t = some (.slice e)) (hi : P.info? e = some i) (hz : i.zero = some z)
    (hsize : i.size = size) (hby : i.bytes = bytes) (hzs : z.cells.size = size) (hsz : 0 < size)
    (g c n : Nat) (xs : List Value) (hown : LRow w base e size (.slice (some ⟨g, 0, none⟩) n c) n xs) (k : Nat) (hk : k < n) (hbytes : n * bytes ≤ 140737488355328) (hb0 : 0 < bytes) (hbase : base ≤ w.heap.size) :
    ∃ v' w', (Builtin.append_ #[t, t] ty #[.slice (some ⟨g, 0, none⟩) k k, .slice (if c = k + 1 then some ⟨g, 0, none⟩ else some ⟨g, (k + 1) * size, none⟩) (n - (k + 1)) (c - (k + 1))]).run P w = .ok v' w' ∧
      LRow w' base e size v' (n - 1) (xs.take (k * size) ++ xs.drop ((k + 1) * size)) ∧ w.grownBy w' none := by
  have hcell := l_cells hown
  have hlen := hown.1
  have hkn : (k + 1) * size ≤ n * size := Nat.mul_le_mul_right _ hk
  have hk0 : k * size ≤ n * size := Nat.mul_le_mul_right _ (by omega)
  have hn0 : n ≤ 140737488355328 := Nat.le_trans (Nat.le_mul_of_pos_right _ hb0) hbytes
  by_cases hm : n = k + 1
  · refine ⟨.slice (some ⟨g, 0, none⟩) k k, w, ?_, ?_, World.grownBy.refl w _⟩
    · rw [show n - (k + 1) = 0 by omega]
      exact run_append_zero t ty e i ht hi _ k k _ _ (Nat.le_refl _)
    · rcases hown.2 with ⟨hv, _⟩ | ⟨g', cap, cur, hv, hb, hh, h1, h2, h3, h4⟩
      · cases hv
      · injection hv with hv _ hc
        injection hv with hv
        injection hv with hv
        subst hv hc
        have e1 : xs.drop ((k + 1) * size) = [] := List.drop_eq_nil_of_le (by rw [hlen, hm]; exact Nat.le_refl _)
        rw [e1, List.append_nil, show n - 1 = k by omega]
        refine ⟨by rw [List.length_take, hlen, Nat.min_eq_left hk0], .inr ⟨g, k, cur, rfl, hb, hh, Nat.le_refl _, by omega, ?_, ?_⟩⟩
        · have := Nat.mul_le_mul_right size (show k ≤ c by omega)
          omega
        · rw [← h4, List.take_take, Nat.min_eq_left hk0]
  · have hcn : n ≤ c := by
      rcases hown.2 with ⟨hv, _⟩ | ⟨g', cap, cur, hv, hb, hh, h1, _⟩
      · cases hv
      · injection hv with _ _ hc
        omega
    rw [if_neg (by omega)]
    obtain ⟨v', w', hr, ho, hg'⟩ := run_append_arg_grows (P := P) (w := w) t ty e i z size bytes ht hi hz hsize hby hzs hsz ⟨g, 0, none⟩ k k (xs.take (k * size)) (by rw [List.length_take, hlen, Nat.min_eq_left hk0])
      (fun j u hu => by
        rw [add_plain]
        rw [List.getElem?_take] at hu
        split at hu
        · exact hcell j u hu
        · cases hu) ⟨g, (k + 1) * size, none⟩ (n - (k + 1)) (c - (k + 1)) (xs.drop ((k + 1) * size)) (by rw [List.length_drop, hlen, ← Nat.sub_mul])
      (fun j u hu => by
        rw [List.getElem?_drop] at hu
        have e1 : (⟨g, (k + 1) * size, none⟩ : Addr).add j = ⟨g, (k + 1) * size + j, none⟩ := by unfold Addr.add; split <;> simp_all
        rw [e1]
        exact hcell _ u hu) (by omega) (by simp only [maxLen]; omega) (by
        refine Nat.le_trans (Nat.mul_le_mul_right _ ?_) hbytes
        omega)
    rw [show k + (n - (k + 1)) = n - 1 by omega] at ho
    exact ⟨v', w', hr, l_lower (l_of_own ho) hbase, hg'⟩
end
/-! ### the same, by what the elements are -/
section
variable {α : Type} {enc : α → List Value} {k : Nat} {e base : Nat} {w w1 : World} {v : Value} {xs : List α}
def Lo (enc : α → List Value) (k e : Nat) (w : World) (base : Nat) (v : Value) (xs : List α) : Prop := ∃ inner, LRow w base e k v xs.length inner ∧ Reps (fun x cs => cs = enc x) k xs inner
theorem Lo.nil (w : World) (base : Nat) : Lo enc k e w base (.slice none 0 0) [] := ⟨[], ⟨by simp, .inl ⟨rfl, rfl⟩⟩, Reps.none _ _⟩
theorem Lo.move (h : Lo enc k e w base v xs) (hm : ∀ b, v.ownBlock = some b → w1.heap[b]? = w.heap[b]?) : Lo enc k e w1 base v xs := by
  obtain ⟨inner, h1, h2⟩ := h
  exact ⟨inner, l_move h1 hm, h2⟩
theorem Lo.typed (h : Lo enc k e w base v xs) (b : Nat) (hb : v.ownBlock = some b) : base ≤ b ∧ b < w.heap.size ∧ ∃ cells, w.heap[b]? = some (.cells cells e (0, 0)) := by
  obtain ⟨inner, h1, _⟩ := h
  obtain ⟨h2, cells, h3⟩ := l_typed h1 b hb
  exact ⟨h2, (Array.getElem?_eq_some_iff.1 h3).1, cells, h3⟩
theorem Lo.grown (h : Lo enc k e w base v xs) {row : Option Nat} (hg : w.grownBy w1 row) (hne : ∀ b, row = some b → v.ownBlock ≠ some b) : Lo enc k e w1 base v xs :=
  h.move fun b hb => hg.block b (h.typed b hb).2.1 (fun e => hne b e.symm hb)
theorem Lo.apart {β : Type} {enc' : β → List Value} {k' e' base' : Nat} {v' : Value} {ys : List β} (h : Lo enc k e w base v xs) (h' : Lo enc' k' e' w base' v' ys) (he : e ≠ e') : ∀ b, v'.ownBlock = some b → v.ownBlock ≠ some b := by
  intro b hb hb'
  obtain ⟨_, _, c1, h1⟩ := h.typed b hb'
  obtain ⟨_, _, c2, h2⟩ := h'.typed b hb
  rw [h1] at h2
  injection h2 with h2
  injection h2 with _ h2
  exact he h2
theorem Lo.slice (h : Lo enc k e w base v xs) : ∃ A c, v = .slice A xs.length c ∧ xs.length ≤ c ∧ (0 < xs.length → ∃ g, A = some ⟨g, 0, none⟩ ∧ base ≤ g) := by
  obtain ⟨inner, h1, _⟩ := h
  rcases h1.2 with ⟨rfl, h⟩ | ⟨g, c, cur, rfl, hb, _, hc, _⟩
  · exact ⟨none, 0, by rw [h], by omega, fun h0 => by omega⟩
  · exact ⟨_, c, rfl, hc, fun _ => ⟨g, rfl, hb⟩⟩
theorem Lo.cell (h : Lo enc k e w base v xs) (hn : ∀ x, (enc x).length = k) {g n c : Nat} (hv : v = .slice (some ⟨g, 0, none⟩) n c) (j : Nat) (x : α) (hj : xs[j]? = some x) : ∀ i u, (enc x)[i]? = some u → w.cell? ⟨g, j * k + i, none⟩ = some u := by
  intro i u hu
  obtain ⟨inner, h1, h2⟩ := h
  have e0 : n = xs.length := by
    rcases h1.2 with ⟨hv', _⟩ | ⟨g', c', cur, hv', _⟩
    · rw [hv] at hv'; cases hv'
    · rw [hv] at hv'; injection hv'
  subst hv
  subst e0
  have h3 : (inner.drop (j * k)).take k = enc x := h2.2 j x hj
  refine l_cells h1 _ _ ?_
  rw [← h3, List.getElem?_take] at hu
  split at hu
  · rw [List.getElem?_drop] at hu; exact hu
  · cases hu
theorem reps_erase (hn : ∀ x, (enc x).length = k) {inner : List Value} (h : Reps (fun x cs => cs = enc x) k xs inner) (i : Nat) (hi : i < xs.length) : Reps (fun x cs => cs = enc x) k (xs.eraseIdx i) (inner.take (i * k) ++ inner.drop ((i + 1) * k)) := by
  rw [List.eraseIdx_eq_take_drop_succ]
  exact Kd.reps_append (Kd.reps_take h (by omega)) (Kd.reps_drop h)
theorem Lo.delete {P : Program} (h : Lo enc k e w base v xs) (hn : ∀ x, (enc x).length = k) (t ty : TypeId) (z : Value) (bytes : Nat) (ht : P.underlying t = some (.slice e)) (hinfo : (P.info? e).map (fun i => (i.zero, i.size, i.bytes)) = some (some z, k, bytes)) (hzs : z.cells.size = k) (hk : 0 < k) (hb0 : 0 < bytes)
    {g c : Nat} (hv : v = .slice (some ⟨g, 0, none⟩) xs.length c) (i : Nat) (hi : i < xs.length) (hbytes : xs.length * bytes ≤ 140737488355328) (hbase : base ≤ w.heap.size) :
    ∃ v' w', (Builtin.append_ #[t, t] ty #[.slice (some ⟨g, 0, none⟩) i i, .slice (if c = i + 1 then some ⟨g, 0, none⟩ else some ⟨g, (i + 1) * k, none⟩) (xs.length - (i + 1)) (c - (i + 1))]).run P w = .ok v' w' ∧ Lo enc k e w' base v' (xs.eraseIdx i) ∧ w.grownBy w' none := by
  obtain ⟨inner, h1, h2⟩ := h
  obtain ⟨i0, hi0, hzz⟩ := Option.map_eq_some_iff.1 hinfo
  simp only [Prod.mk.injEq] at hzz
  obtain ⟨hz0, hz1, hz2⟩ := hzz
  subst hv
  obtain ⟨v', w', hr, ho, hg⟩ := l_delete (P := P) w base t ty e i0 z k bytes ht hi0 hz0 hz1 hz2 hzs hk g c xs.length inner h1 i hi hbytes hb0 hbase
  exact ⟨v', w', hr, ⟨_, by rw [List.length_eraseIdx, if_pos hi]; exact ho, reps_erase hn h2 i hi⟩, hg⟩
theorem Lo.append {P : Program} (h : Lo enc k e w base v xs) (hn : ∀ x, (enc x).length = k) (h1c : ∀ x, ∀ u ∈ enc x, u.oneCell' = true) (t ty : TypeId) (z : Value) (bytes : Nat) (ht : P.underlying t = some (.slice e)) (hinfo : (P.info? e).map (fun i => (i.zero, i.size, i.bytes)) = some (some z, k, bytes)) (hzs : z.cells.size = k) (hk : 0 < k) (hb0 : 0 < bytes)
    (x : α) (hbytes : (xs.length + 1) * bytes ≤ 140737488355328) (hbase : base ≤ w.heap.size) :
    ∃ v' w', (Builtin.append_ #[t, t] ty #[v, .slice (some ⟨w.heap.size, 0, none⟩) 1 1]).run P (w.alloc (.cells (enc x).toArray e)) = .ok v' w' ∧ Lo enc k e w' base v' (xs ++ [x]) ∧ w.grownBy w' v.ownBlock := by
  have hw := h.grown (World.grownBy_alloc w (.cells (enc x).toArray e) none) (fun b e => by cases e)
  obtain ⟨inner, h1, h2⟩ := hw
  obtain ⟨i0, hi0, hzz⟩ := Option.map_eq_some_iff.1 hinfo
  simp only [Prod.mk.injEq] at hzz
  obtain ⟨hz0, hz1, hz2⟩ := hzz
  have hlen : xs.length + 1 ≤ 140737488355328 := Nat.le_trans (Nat.le_mul_of_pos_right _ hb0) hbytes
  obtain ⟨v', w', hr, ho, hg⟩ := l_append (P := P) (w.alloc (.cells (enc x).toArray e)) base t ty e i0 z k bytes ht hi0 hz0 hz1 hz2 hzs hk v xs.length inner h1 ⟨w.heap.size, 0, none⟩ 1 1 (enc x) (by rw [hn, Nat.one_mul])
    (by simpa using World.news_of_block (cs := (enc x).toArray) (t := e) (fr := (0, 0)) (heap_alloc_new w (.cells (enc x).toArray e))) (h1c x) (by omega) (by simp only [maxLen]; omega) hbytes (by simp; omega)
  refine ⟨v', w', hr, ⟨_, by rw [List.length_append]; exact ho, h2.snoc rfl (hn x)⟩, trans_grown (World.grownBy_alloc w _ _) hg⟩
end
end Go.Proofs.Ytbellkkheppofaa
