/- Cut by a program out of the seat's texts (RH RI RJ RQ RR RK RL): what the theorem needs, one behind the other. -/
import Derived.Test.YthaoedfalkebbaaGreatPCN
namespace Go.Proofs.YthaoedfalkebbaaGreat
open Go.RowKit Go.Maps Go.Sort Go.Lib Go.Shelf Go.Proofs.YthaoedfalkebbaaGreatW.PrintWords Go.Proofs.YthaoedfalkebbaaGreatW.PrintLast Go.Proofs.YthaoedfalkebbaaGreatW.PrintMore
set_option linter.unusedVariables false
set_option linter.unusedSimpArgs false
set_option linter.unusedSectionVars false
section
variable {w w' : World} {base q p : Nat} {F U : Nat → Prop} {W : Wld St} {rv vv lv : Value} {xs : List Rx}
/-- one more version: the row has been appended to (w5), then the world's cell is stored -/
theorem Wm.addVer (h : Wm w base q p F U W rv vv lv xs) {w5 : World} {v5 : Value} {v : Ver} (h5 : RowV w5 base v5 (W.vers ++ [v])) (F5 : Fr (fun k => vv.ownBlock = some k) w w5) (hv5 : ∀ b, v5.ownBlock = some b → vv.ownBlock = some b ∨ w.heap.size ≤ b) :
    Wm (w5.setCell ⟨q, 2, none⟩ v5) base q p F U { W with vers := W.vers ++ [v] } rv v5 lv xs ∧ KeepW U w (w5.setCell ⟨q, 2, none⟩ v5) := by
  have qlt := (Array.getElem?_eq_some_iff.1 h.cells).1
  have G := grown_set w5 q 2 v5
  have hqV : vv.ownBlock ≠ some q := lo_kind h.vers h.cells (by decide)
  have f : Fr (fun k => vv.ownBlock = some k ∨ k = q) w (w5.setCell ⟨q, 2, none⟩ v5) := (F5.mono (fun k hk _ => .inl hk)).trans (Fr.grown G) (fun k hk _ => by injection hk with hk; exact .inr hk.symm)
  have kv : ∀ k, vv.ownBlock = some k → ∃ cs, w.heap[k]? = some (.cells cs 125 (0, 0)) := fun k hk => by
    obtain ⟨_, _, cs, hc⟩ := h.vers.typed k hk
    exact ⟨cs, hc⟩
  obtain ⟨h1, h2, h3⟩ := h.next f (fun k hk => by
    rcases hk with hk | rfl
    · obtain ⟨cs, hc⟩ := kv k hk
      exact ⟨h.vU k hk, cs, 125, hc, .inr (.inr (.inl rfl))⟩
    · exact ⟨h.qU, _, 50, h.cells, .inl rfl⟩)
  have mv : ∀ {α : Type} {enc : α → List Value} {m e : Nat} {v : Value} {l : List α}, Lo enc m e w base v l → e ≠ 125 → e ≠ 50 → Lo enc m e (w5.setCell ⟨q, 2, none⟩ v5) base v l := fun hlo n1 n2 => lo_mv hlo f (fun k hk hb => by
    rcases hk with hk | rfl
    · obtain ⟨cs, hc⟩ := kv k hk
      exact lo_kind hlo hc n1 hb
    · exact lo_kind hlo h.cells n2 hb)
  have hq5 : w5.heap[q]? = some (wCells p rv vv lv W.bad) := F5.block q _ hqV h.cells
  have hv5q : v5.ownBlock ≠ some q := fun e => by
    rcases hv5 q e with h1 | h1
    · exact hqV h1
    · omega
  exact ⟨⟨by rw [blk_set hq5 2 _]; rfl, h.low, h1, h2, h5.grown G (fun b hb => by injection hb with hb; subst hb; exact hv5q), mv h.list (by decide) (by decide), h.fst, fun x hx => mv (h.rd x hx) (by decide) (by decide), fun x hx => mv (h.wr x hx) (by decide) (by decide), h.rdd, h.wrd, h.wF, h.rF, fun b hb => Nat.lt_of_lt_of_le (h.Flt b hb) f.size, h.qU, fun b hb => by rcases hv5 b hb with e | e; exact h.vU b e; exact h.top b e, h.lU, h.rdU, h.wrU, h.top.later f.size⟩, h3⟩
/-- one more run -/
theorem Wm.addRun (h : Wm w base q p F U W rv vv lv xs) {w5 : World} {v5 : Value} {x : Run} (h5 : RowX w5 base v5 (xs ++ [(x, .slice none 0 0, .slice none 0 0)])) (hxr : x.reads = []) (hxw : x.writes = []) (F5 : Fr (fun k => lv.ownBlock = some k) w w5) (hv5 : ∀ b, v5.ownBlock = some b → lv.ownBlock = some b ∨ w.heap.size ≤ b) :
    Wm (w5.setCell ⟨q, 3, none⟩ v5) base q p F U { W with list := W.list ++ [x] } rv vv v5 (xs ++ [(x, .slice none 0 0, .slice none 0 0)]) ∧ KeepW U w (w5.setCell ⟨q, 3, none⟩ v5) := by
  have qlt := (Array.getElem?_eq_some_iff.1 h.cells).1
  have G := grown_set w5 q 3 v5
  have hqV : lv.ownBlock ≠ some q := lo_kind h.list h.cells (by decide)
  have f : Fr (fun k => lv.ownBlock = some k ∨ k = q) w (w5.setCell ⟨q, 3, none⟩ v5) := (F5.mono (fun k hk _ => .inl hk)).trans (Fr.grown G) (fun k hk _ => by injection hk with hk; exact .inr hk.symm)
  have kv : ∀ k, lv.ownBlock = some k → ∃ cs, w.heap[k]? = some (.cells cs 57 (0, 0)) := fun k hk => by
    obtain ⟨_, _, cs, hc⟩ := h.list.typed k hk
    exact ⟨cs, hc⟩
  obtain ⟨h1, h2, h3⟩ := h.next f (fun k hk => by
    rcases hk with hk | rfl
    · obtain ⟨cs, hc⟩ := kv k hk
      exact ⟨h.lU k hk, cs, 57, hc, .inr (.inl rfl)⟩
    · exact ⟨h.qU, _, 50, h.cells, .inl rfl⟩)
  have mv : ∀ {α : Type} {enc : α → List Value} {m e : Nat} {v : Value} {l : List α}, Lo enc m e w base v l → e ≠ 57 → e ≠ 50 → Lo enc m e (w5.setCell ⟨q, 3, none⟩ v5) base v l := fun hlo n1 n2 => lo_mv hlo f (fun k hk hb => by
    rcases hk with hk | rfl
    · obtain ⟨cs, hc⟩ := kv k hk
      exact lo_kind hlo hc n1 hb
    · exact lo_kind hlo h.cells n2 hb)
  have hq5 : w5.heap[q]? = some (wCells p rv vv lv W.bad) := F5.block q _ hqV h.cells
  have hv5q : v5.ownBlock ≠ some q := fun e => by
    rcases hv5 q e with h1 | h1
    · exact hqV h1
    · omega
  have cs_ : ∀ (j : Nat) y, (xs ++ [(x, (.slice none 0 0 : Value), (.slice none 0 0 : Value))])[j]? = some y → xs[j]? = some y ∨ y = (x, .slice none 0 0, .slice none 0 0) := fun j y hy => by
    rcases Nat.lt_or_ge j xs.length with hj | hj
    · rw [List.getElem?_append_left hj] at hy
      exact .inl hy
    · rw [List.getElem?_append_right hj] at hy
      exact .inr (List.mem_singleton.1 (List.mem_of_getElem? hy))
  have ms_ : ∀ y, y ∈ xs ++ [(x, (.slice none 0 0 : Value), (.slice none 0 0 : Value))] → y ∈ xs ∨ y = (x, .slice none 0 0, .slice none 0 0) := fun y hy => by
    rcases List.mem_append.1 hy with e | e
    · exact .inl e
    · exact .inr (List.mem_singleton.1 e)
  refine ⟨⟨by rw [blk_set hq5 3 _]; rfl, h.low, h1, h2, mv h.vers (by decide) (by decide), h5.grown G (fun b hb => by injection hb with hb; subst hb; exact hv5q), ?_, ?_, ?_, ?_, ?_, ?_, h.rF, fun b hb => Nat.lt_of_lt_of_le (h.Flt b hb) f.size, h.qU, h.vU, fun b hb => by rcases hv5 b hb with e | e; exact h.lU b e; exact h.top b e, ?_, ?_, h.top.later f.size⟩, h3⟩
  · rw [List.map_append, h.fst]
    rfl
  · intro y hy
    rcases ms_ y hy with e | rfl
    · exact mv (h.rd y e) (by decide) (by decide)
    · show RowS _ base _ x.reads
      rw [hxr]
      exact Lo.nil _ _
  · intro y hy
    rcases ms_ y hy with e | rfl
    · exact mv (h.wr y e) (by decide) (by decide)
    · show RowL _ base _ x.writes
      rw [hxw]
      exact Lo.nil _ _
  · intro a b y z hab hy hz c hc
    rcases cs_ a y hy with e1 | rfl
    · rcases cs_ b z hz with e2 | rfl
      · exact h.rdd a b y z hab e1 e2 c hc
      · exact fun e => by cases e
    · cases hc
  · intro a b y z hab hy hz c hc
    rcases cs_ a y hy with e1 | rfl
    · rcases cs_ b z hz with e2 | rfl
      · exact h.wrd a b y z hab e1 e2 c hc
      · exact fun e => by cases e
    · cases hc
  · intro y hy b hb
    rcases ms_ y hy with e | rfl
    · exact h.wF y e b hb
    · cases hb
  · intro y hy b hb
    rcases ms_ y hy with e | rfl
    · exact h.rdU y e b hb
    · cases hb
  · intro y hy b hb
    rcases ms_ y hy with e | rfl
    · exact h.wrU y e b hb
    · cases hb
/-- a run's writes are another row now -/
theorem Wm.setWr (h : Wm w base q p F U W rv vv lv xs) {i : Nat} {x : Rx} (hx : xs[i]? = some x) {g n c : Nat} (hlv : lv = .slice (some ⟨g, 0, none⟩) n c) {w5 : World} {v5 : Value} {ws : List Lk} {x' : Run} (h5 : RowL w5 base v5 ws) (hx' : x' = { x.1 with writes := ws })
    (F5 : Fr (fun k => x.2.2.ownBlock = some k) w w5) (hv5 : ∀ b, v5.ownBlock = some b → x.2.2.ownBlock = some b ∨ w.heap.size ≤ b) (hs5 : ∀ b, v5.ownBlock = some b → b < w5.heap.size) :
    Wm (w5.setCell ⟨g, i * 8 + 7, none⟩ v5) base q p (fun k => F k ∨ v5.ownBlock = some k) U { W with list := W.list.set i x' } rv vv lv (xs.set i (x', x.2.1, v5)) ∧ KeepW U w (w5.setCell ⟨g, i * 8 + 7, none⟩ v5) := by
  have hi := (List.getElem?_eq_some_iff.1 hx).1
  have hxe : xs[i] = x := (List.getElem?_eq_some_iff.1 hx).2
  have hmem : x ∈ xs := List.mem_of_getElem? hx
  have hl := h.list
  rw [hlv] at hl
  obtain ⟨gc, hg⟩ := hl.blk
  have glt := (Array.getElem?_eq_some_iff.1 hg).1
  have G6 := grown_set w5 g (i * 8 + 7) v5
  have hwx := h.wr x hmem
  have hgR : x.2.2.ownBlock ≠ some g := lo_kind hwx hg (by decide)
  have f : Fr (fun k => x.2.2.ownBlock = some k ∨ k = g) w (w5.setCell ⟨g, i * 8 + 7, none⟩ v5) := (F5.mono (fun k hk _ => .inl hk)).trans (Fr.grown G6) (fun k hk _ => by injection hk with hk; exact .inr hk.symm)
  have kv : ∀ k, x.2.2.ownBlock = some k → ∃ cs, w.heap[k]? = some (.cells cs 23 (0, 0)) := fun k hk => by
    obtain ⟨_, _, cs, hc⟩ := hwx.typed k hk
    exact ⟨cs, hc⟩
  obtain ⟨h1, h2, h3⟩ := h.next f (fun k hk => by
    rcases hk with hk | rfl
    · obtain ⟨cs, hc⟩ := kv k hk
      exact ⟨h.wrU x hmem k hk, cs, 23, hc, .inr (.inr (.inr (.inr ⟨rfl, h.wF x hmem k hk⟩)))⟩
    · exact ⟨h.lU k (by rw [hlv]; rfl), gc, 57, hg, .inr (.inl rfl)⟩)
  have mv : ∀ {α : Type} {enc : α → List Value} {m e : Nat} {v : Value} {l : List α}, Lo enc m e w base v l → e ≠ 23 → e ≠ 57 → Lo enc m e (w5.setCell ⟨g, i * 8 + 7, none⟩ v5) base v l := fun hlo n1 n2 => lo_mv hlo f (fun k hk hb => by
    rcases hk with hk | rfl
    · obtain ⟨cs, hc⟩ := kv k hk
      exact lo_kind hlo hc n1 hb
    · exact lo_kind hlo hg n2 hb)
  have hl5 : RowX w5 base (.slice (some ⟨g, 0, none⟩) n c) xs := lo_mv hl F5 (fun k hk hb => by
    injection hb with hb
    subst hb
    exact hgR hk)
  have hg5 : w5.heap[g]? = some (.cells gc 57 (0, 0)) := F5.block g _ hgR hg
  have hv5g : v5.ownBlock ≠ some g := fun e => by
    rcases hv5 g e with h1 | h1
    · exact hgR h1
    · omega
  have hF5 : ∀ b, v5.ownBlock = some b → ∀ j y, j ≠ i → xs[j]? = some y → y.2.2.ownBlock ≠ some b := fun b hb j y hj hy hyb => by
    rcases hv5 b hb with h1 | h1
    · exact h.wrd j i y x hj hy hx b hyb h1
    · have := ((h.wr y (List.mem_of_getElem? hy)).typed b hyb).2.1
      omega
  have wro : ∀ (j : Nat) y, j ≠ i → xs[j]? = some y → RowL (w5.setCell ⟨g, i * 8 + 7, none⟩ v5) base y.2.2 y.1.writes := fun j y hj hy => lo_mv (h.wr y (List.mem_of_getElem? hy)) f (fun k hk hb => by
    rcases hk with hk | rfl
    · exact h.wrd j i y x hj hy hx k hb hk
    · exact lo_kind (h.wr y (List.mem_of_getElem? hy)) hg (by decide) hb)
  have wrn : RowL (w5.setCell ⟨g, i * 8 + 7, none⟩ v5) base v5 ws := h5.grown G6 (fun b hb => by injection hb with hb; subst hb; exact hv5g)
  refine ⟨⟨f.block q _ (fun e => ?_) h.cells, h.low, ?_, h2, mv h.vers (by decide) (by decide), ?_, ?_, ?_, ?_, ?_, ?_, ?_, ?_, ?_, h.qU, h.vU, h.lU, ?_, ?_, h.top.later f.size⟩, h3⟩
  · rcases e with e | e
    · exact lo_kind hwx h.cells (by decide) e
    · have e : q = g := e
      have := h.cells
      rw [e] at this
      exact absurd (kind_eq this hg) (by decide)
  · have hm5 : MgrO base (fun k => F k ∨ v5.ownBlock = some k) U p W.m w := h.m.moreF (fun k hk => by
      rcases hk with hk | hk
      · exact .inl hk
      · rcases hv5 k hk with h4 | h4
        · exact .inl (h.wF x hmem k h4)
        · exact .inr h4)
    refine hm5.frF f (fun k hk => ?_)
    rcases hk with hk | rfl
    · obtain ⟨cs, hc⟩ := kv k hk
      exact ⟨cs, 23, _, hc, by decide, by decide, by decide, by decide, by decide, fun _ => .inl (h.wF x hmem k hk)⟩
    · exact ⟨gc, 57, _, hg, by decide, by decide, by decide, by decide, by decide, fun h => by cases h⟩
  · rw [hlv]
    refine hl5.setf i 7 hi (by decide) (x', x.2.1, v5) v5 ?_
    rw [hxe, hx']
    rfl
  · rw [List.map_set, h.fst]
  · intro y hy
    obtain ⟨k, hk⟩ := List.mem_iff_getElem?.1 hy
    rcases xs_cases hi hk with ⟨_, rfl⟩ | ⟨_, hk2⟩
    · rw [hx']
      exact mv (h.rd x hmem) (by decide) (by decide)
    · exact mv (h.rd y (List.mem_of_getElem? hk2)) (by decide) (by decide)
  · intro y hy
    obtain ⟨k, hk⟩ := List.mem_iff_getElem?.1 hy
    rcases xs_cases hi hk with ⟨_, rfl⟩ | ⟨e, hk2⟩
    · rw [hx']
      exact wrn
    · exact wro k y e hk2
  · intro a b y z hab hy hz
    rcases xs_cases hi hy with ⟨e1, rfl⟩ | ⟨_, hy2⟩ <;> rcases xs_cases hi hz with ⟨e2, rfl⟩ | ⟨_, hz2⟩
    · omega
    · subst e1; exact h.rdd a b x z hab hx hz2
    · subst e2; exact h.rdd a b y x hab hy2 hx
    · exact h.rdd a b y z hab hy2 hz2
  · intro a b y z hab hy hz d hd
    rcases xs_cases hi hy with ⟨e1, rfl⟩ | ⟨e1, hy2⟩ <;> rcases xs_cases hi hz with ⟨e2, rfl⟩ | ⟨e2, hz2⟩
    · omega
    · exact hF5 d hd b z e2 hz2
    · exact fun hb2 => hF5 d hb2 a y e1 hy2 hd
    · exact h.wrd a b y z hab hy2 hz2 d hd
  · intro y hy b hb
    obtain ⟨k, hk⟩ := List.mem_iff_getElem?.1 hy
    rcases xs_cases hi hk with ⟨_, rfl⟩ | ⟨_, hk2⟩
    · exact .inr hb
    · exact .inl (h.wF y (List.mem_of_getElem? hk2) b hb)
  · intro b hb hF
    rcases hF with hF | hF
    · exact h.rF b hb hF
    · rcases hv5 b hF with h4 | h4
      · exact h.rF b hb (h.wF x hmem b h4)
      · have := (h.rows.typed b hb).2.1
        omega
  · intro b hb
    have hsz : w5.heap.size ≤ (w5.setCell ⟨g, i * 8 + 7, none⟩ v5).heap.size := G6.size
    rcases hb with hb | hb
    · exact Nat.lt_of_lt_of_le (h.Flt b hb) f.size
    · exact Nat.lt_of_lt_of_le (hs5 b hb) hsz
  · intro y hy b hb
    obtain ⟨k, hk⟩ := List.mem_iff_getElem?.1 hy
    rcases xs_cases hi hk with ⟨_, rfl⟩ | ⟨_, hk2⟩
    · exact h.rdU x hmem b hb
    · exact h.rdU y (List.mem_of_getElem? hk2) b hb
  · intro y hy b hb
    obtain ⟨k, hk⟩ := List.mem_iff_getElem?.1 hy
    rcases xs_cases hi hk with ⟨_, rfl⟩ | ⟨_, hk2⟩
    · rcases hv5 b hb with e | e
      · exact h.wrU x hmem b e
      · exact h.top b e
    · exact h.wrU y (List.mem_of_getElem? hk2) b hb
end
end Go.Proofs.YthaoedfalkebbaaGreat
namespace Go.Proofs.YthaoedfalkebbaaGreat
open Go.RowKit Go.Maps Go.Sort Go.Lib Go.Shelf Go.Proofs.YthaoedfalkebbaaGreatW.PrintWords Go.Proofs.YthaoedfalkebbaaGreatW.PrintLast Go.Proofs.YthaoedfalkebbaaGreatW.PrintMore
set_option linter.unusedVariables false
set_option linter.unusedSimpArgs false
set_option linter.unusedSectionVars false
set_option maxHeartbeats 16000000 in
set_option maxRecDepth 100000 in
theorem commit_walk (q g i n c nw cw : Nat) (Aw : Option Addr) (num : Int) (w w0 : World) (b0 : Bool) (R : Nat → World → Prop) (hi : i < n) (hnb : n ≤ 1000000000000000) (hnw : nw ≤ 1000000000000000)
    (c3 : w.cell? ⟨q, 3, none⟩ = some (.slice (some ⟨g, 0, none⟩) n c)) (e4 : w.cell? ⟨g, i * 8 + 4, none⟩ = some (.bool b0)) (fz : w.frozen? ⟨g, i * 8 + 4, none⟩ = false)
    (hw0 : w0 = w.setCell ⟨g, i * 8 + 4, none⟩ (.bool true))
    (e7 : w0.cell? ⟨g, i * 8 + 7, none⟩ = some (.slice Aw nw cw)) (R0 : R 0 w0)
    (RND : ∀ j W, j < nw → R j W → ∃ (a : Lk) (k m cv : Nat) (r : Int) (Av : Option Addr) (M M2 : World → Prop), Aw = some ⟨k, 0, none⟩ ∧ W.cell? ⟨k, j * 2, none⟩ = some (.string a.1) ∧ W.cell? ⟨k, j * 2 + 1, none⟩ = some (.string a.2) ∧
      (Calls Tryz.prog 58 #[ptr q, .agg #[.string a.1, .string a.2], .int .i64 num] (W.alloc (.cells #[.string a.1, .string a.2] 23)) fun e w3 => e = .returned (.int .i64 r) ∧ M w3) ∧
      (0 ≤ r → ∃ h rn : Nat, Av = some ⟨h, 0, none⟩ ∧ r = (rn : Int) ∧ rn < m ∧ m ≤ 1000000000000000 ∧ ∀ V, M V → V.cell? ⟨q, 2, none⟩ = some (.slice Av m cv) ∧ (∃ u, V.cell? ⟨h, rn * 5 + 4, none⟩ = some u) ∧ V.frozen? ⟨h, rn * 5 + 4, none⟩ = false ∧ M2 (V.setCell ⟨h, rn * 5 + 4, none⟩ (.int .i64 m))) ∧
      (r < 0 → ∀ V, M V → M2 V) ∧ (∀ V, M V → M V.drew) ∧ (∀ V, M2 V → M2 V.drew) ∧
      ∀ V, M2 V → V.cell? ⟨q, 2, none⟩ = some (.slice Av m cv) ∧ V.cell? ⟨W.heap.size, 0, none⟩ = some (.string a.1) ∧ V.cell? ⟨W.heap.size, 1, none⟩ = some (.string a.2) ∧
        ∃ A5 n5 c5 w5, (Builtin.append_ #[47, 47] 47 #[.slice Av m cv, .slice (some ⟨V.heap.size, 0, none⟩) 1 1]).run Tryz.prog (V.alloc (.cells #[.string a.1, .string a.2, .int .i64 num, .int .i64 i, .int .i64 (-1)] 125)) = .ok (.slice A5 n5 c5) w5 ∧ w5.cell? ⟨q, 2, none⟩ = some (.slice Av m cv) ∧ w5.cell? ⟨W.heap.size, 0, none⟩ = some (.string a.1) ∧ w5.cell? ⟨W.heap.size, 1, none⟩ = some (.string a.2) ∧ w5.frozen? ⟨q, 2, none⟩ = false ∧ R (j + 1) (w5.setCell ⟨q, 2, none⟩ (.slice A5 n5 c5))) :
    Calls Tryz.prog 59 #[ptr q, .int .i64 i, .int .i64 num] w fun e w' => e = .returned (.tuple #[]) ∧ R nw w' := by
  replace RND := Aside0.mk RND
  go_enter Tryz.func59, Tryz.ntmps59
  go_upto_region 2 with (fail)
  rw [← hw0]
  clear hw0 c3 e4 fz
  go_wp2_with fail
  go_loopw [24] (fun iv wr => ∃ j : Nat, j ≤ nw ∧ iv = .int .i64 j ∧ R j wr) (fun iv _ => nw - (intOf iv).toNat)
  case atStart => exact ⟨0, Nat.zero_le _, rfl, R0⟩
  case round =>
    clear e7 R0
    obtain ⟨j, hj, rfl, hR⟩ := hrel
    by_cases hjl : j < nw
    · obtain ⟨a, k, m, cv, r, Av, M, M2, rfl, y0, y1, NW, GE, LT, MD, MD2, APP⟩ := RND.out j wr hjl hR
      replace GE := Aside0.mk GE
      replace LT := Aside0.mk LT
      replace MD := Aside0.mk MD
      replace MD2 := Aside0.mk MD2
      replace APP := Aside0.mk APP
      obtain ⟨x0, x1⟩ := (fun h => ⟨cell_of_row _ wr.heap.size 0 _ 23 (0, 0) h, cell_of_row _ wr.heap.size 1 _ 23 (0, 0) h⟩ : (wr.alloc (.cells #[.string a.1, .string a.2] 23)).heap[wr.heap.size]? = some (.cells #[.string a.1, .string a.2] 23 (0, 0)) → (wr.alloc (.cells #[.string a.1, .string a.2] 23)).cell? ⟨wr.heap.size, 0, none⟩ = some (.string a.1) ∧ (wr.alloc (.cells #[.string a.1, .string a.2] 23)).cell? ⟨wr.heap.size, 1, none⟩ = some (.string a.2)) (heap_alloc_new wr _)
      obtain ⟨W4, hW4⟩ : ∃ W4, W4 = wr.alloc (.cells #[.string a.1, .string a.2] 23) := ⟨_, rfl⟩
      rw [← hW4] at x0 x1 NW
      have hsz4 : wr.heap.size < W4.heap.size := by rw [hW4]; simp
      clear hR
      go_upto_region 5 with (fail)
      rw [← hW4]
      clear hW4 y0 y1
      have NEXT : ∀ V, R (j + 1) V → (∃ j' : Nat, j' ≤ nw ∧ Value.int .i64 ((j : Int) + 1) = .int .i64 j' ∧ R j' V) ∧ nw - (intOf (.int .i64 ((j : Int) + 1))).toNat < nw - (intOf (.int .i64 (j : Int))).toNat := fun V hV => ⟨⟨j + 1, hjl, by push_cast; rfl, hV⟩, by simp [intOf]; omega⟩
      replace NEXT := Aside0.mk NEXT
      by_cases hr : 0 ≤ r
      · obtain ⟨h, rn, rfl, rfl, hrm, hmb, GEV⟩ := GE.out hr
        replace GEV := Aside0.mk GEV
        clear LT GE
        go_wp2_with (go_at_call 58; refine NW.mono ?_; rintro e w3 ⟨rfl, hM⟩)
        obtain ⟨v2, ⟨u0, hu0⟩, fz, _⟩ := GEV.out _ (MD.out _ hM)
        have h2 := MD2.out _ (GEV.out _ hM).2.2.2
        obtain ⟨V8, hV8⟩ : ∃ V8, V8 = (w3.setCell ⟨h, rn * 5 + 4, none⟩ (.int .i64 m)).drew := ⟨_, rfl⟩
        rw [← hV8] at h2
        replace h2 := Aside0.mk h2
        replace hV8 := Aside0.mk hV8
        clear hM NW x0 x1
        refine start_ (n := 13) (S := fun w' => w'.cell? ⟨q, 2, none⟩ = some (.slice (some ⟨h, 0, none⟩) m cv)) (ds := [12]) #[false, false, false, false, false, false, false, false, false, false, false, false, false] (by kernel_rfl) rfl rfl (v2) (fun hHeld => ?_)
        refine pure_ (i := 0) (N := some 34) (v := ?_) (a' := ?_) #[true, false, false, false, false, false, false, false, false, false, false, false, false] rfl rfl (by kernel_rfl) (fun _ _ _ h => h) (Or.inl ⟨by rfl, ?_⟩) ?_ ?_
        rotate_left
        · intro w'
          go_simp
          with_reducible rfl
        rotate_left
        · simp only [Act.put, List.setIfInBounds_toArray, List.set_cons_zero, List.set_cons_succ, i64_w, i32_w]
          rfl
        refine pure_ (i := 1) (N := some 35) (v := ?_) (a' := ?_) #[true, true, false, false, false, false, false, false, false, false, false, false, false] rfl rfl (by kernel_rfl) (fun _ _ _ h => h) (Or.inl ⟨by rfl, ?_⟩) ?_ ?_
        rotate_left
        · intro w'
          go_simp
          with_reducible rfl
        rotate_left
        · simp only [Act.put, List.setIfInBounds_toArray, List.set_cons_zero, List.set_cons_succ, i64_w, i32_w]
          rfl
        refine pure_ (i := 2) (N := some 36) (v := ?_) (a' := ?_) #[true, true, true, false, false, false, false, false, false, false, false, false, false] rfl rfl (by kernel_rfl) (fun _ _ _ h => h) (Or.inl ⟨by rfl, ?_⟩) ?_ ?_
        rotate_left
        · intro w'
          go_simp
          with_reducible rfl
        rotate_left
        · simp only [Act.put, List.setIfInBounds_toArray, List.set_cons_zero, List.set_cons_succ, i64_w, i32_w]
          rfl
        refine pure_ (i := 4) (N := some 38) (v := ?_) (a' := ?_) #[true, true, true, false, true, false, false, false, false, false, false, false, false] rfl rfl (by kernel_rfl) (fun _ _ _ h => h) (Or.inl ⟨by rfl, ?_⟩) ?_ ?_
        rotate_left
        · intro w'
          go_simp
          with_reducible rfl
        rotate_left
        · simp only [Act.put, List.setIfInBounds_toArray, List.set_cons_zero, List.set_cons_succ, i64_w, i32_w]
          rfl
        refine pure_ (i := 5) (N := some 39) (v := ?_) (a' := ?_) #[true, true, true, false, true, true, false, false, false, false, false, false, false] rfl rfl (by kernel_rfl) (fun _ _ _ h => h) (Or.inl ⟨by rfl, ?_⟩) ?_ ?_
        rotate_left
        · intro w'
          go_simp
          with_reducible rfl
        rotate_left
        · simp only [Act.put, List.setIfInBounds_toArray, List.set_cons_zero, List.set_cons_succ, i64_w, i32_w]
          rfl
        refine pure_ (i := 6) (N := some 40) (v := ?_) (a' := ?_) #[true, true, true, false, true, true, true, false, false, false, false, false, false] rfl rfl (by kernel_rfl) (fun _ _ _ h => h) (Or.inl ⟨by rfl, ?_⟩) ?_ ?_
        rotate_left
        · intro w'
          go_simp
          with_reducible rfl
        rotate_left
        · simp only [Act.put, List.setIfInBounds_toArray, List.set_cons_zero, List.set_cons_succ, i64_w, i32_w]
          rfl
        refine pure_ (i := 7) (N := some 41) (v := ?_) (a' := ?_) #[true, true, true, false, true, true, true, true, false, false, false, false, false] rfl rfl (by kernel_rfl) (fun _ _ _ h => h) (Or.inl ⟨by rfl, ?_⟩) ?_ ?_
        rotate_left
        · intro w'
          go_simp
          with_reducible rfl
        rotate_left
        · simp only [Act.put, List.setIfInBounds_toArray, List.set_cons_zero, List.set_cons_succ, i64_w, i32_w]
          rfl
        refine take_ (i := 3) (N := some 37) (v := ?_) (a' := ?_) #[true, true, true, true, true, true, true, true, false, false, false, false, false] rfl rfl (by kernel_rfl) (fun _ _ _ h => h) (Or.inl ⟨by rfl, ?_⟩) hHeld ?_ ?_
        rotate_left
        · intro w' s0
          go_simp
          with_reducible rfl
        rotate_left
        · simp only [Act.put, List.setIfInBounds_toArray, List.set_cons_zero, List.set_cons_succ, i64_w, i32_w]
          rfl
        refine take_ (i := 8) (N := some 42) (v := ?_) (a' := ?_) #[true, true, true, true, true, true, true, true, true, false, false, false, false] rfl rfl (by kernel_rfl) (fun _ _ _ h => h) (Or.inl ⟨by rfl, ?_⟩) hHeld ?_ ?_
        rotate_left
        · intro w' s0
          go_simp
          with_reducible rfl
        rotate_left
        · simp only [Act.put, List.setIfInBounds_toArray, List.set_cons_zero, List.set_cons_succ, i64_w, i32_w]
          rfl
        refine pure_ (i := 9) (N := some 43) (v := ?_) (a' := ?_) #[true, true, true, true, true, true, true, true, true, true, false, false, false] rfl rfl (by kernel_rfl) (fun _ _ _ h => h) (Or.inl ⟨by rfl, ?_⟩) ?_ ?_
        rotate_left
        · intro w'
          go_simp
          with_reducible rfl
        rotate_left
        · simp only [Act.put, List.setIfInBounds_toArray, List.set_cons_zero, List.set_cons_succ, i64_w, i32_w]
          rfl
        refine pure_ (i := 10) (N := some 44) (v := ?_) (a' := ?_) #[true, true, true, true, true, true, true, true, true, true, true, false, false] rfl rfl (by kernel_rfl) (fun _ _ _ h => h) (Or.inl ⟨by rfl, ?_⟩) ?_ ?_
        rotate_left
        · intro w'
          go_simp
          with_reducible rfl
        rotate_left
        · simp only [Act.put, List.setIfInBounds_toArray, List.set_cons_zero, List.set_cons_succ, i64_w, i32_w]
          rfl
        refine pure_ (i := 11) (N := some 45) (v := ?_) (a' := ?_) #[true, true, true, true, true, true, true, true, true, true, true, true, false] rfl rfl (by kernel_rfl) (fun _ _ _ h => h) (Or.inl ⟨by rfl, ?_⟩) ?_ ?_
        rotate_left
        · intro w'
          go_simp
          with_reducible rfl
        rotate_left
        · simp only [Act.put, List.setIfInBounds_toArray, List.set_cons_zero, List.set_cons_succ, i64_w, i32_w]
          rfl
        refine last_ (i := 12) (N := none) #[true, true, true, true, true, true, true, true, true, true, true, true, true] rfl rfl (by kernel_rfl) (by decide) (fun K hK => ?_)
        refine skip_ (w1 := ?_) (by rfl) rfl ?_ ?_
        rotate_left
        · go_simp
          rfl
        refine hK.out _ _ ?_
        clear hK K
        refine done_ (by kernel_rfl) ?_

        rw [← hV8.out]
        clear v2 hu0 fz hV8
        obtain ⟨v2, b0, b1, A5, n5, c5, w5, hrun, f2, g0, g1, fz, HP⟩ := APP.out _ (MD2.out _ h2.out)
        replace HP := Aside0.mk HP
        clear h2
        go_wp2_with fail
        refine start_ (n := 14) (S := fun w' => w'.cell? ⟨q, 2, none⟩ = some (.slice (some ⟨h, 0, none⟩) m cv) ∧ w'.cell? ⟨wr.heap.size, 0, none⟩ = some (.string a.1) ∧ w'.cell? ⟨wr.heap.size, 1, none⟩ = some (.string a.2)) (ds := [13]) #[false, false, false, false, false, false, false, false, false, false, false, false, false, false] (by kernel_rfl) rfl rfl ⟨v2, b0, b1⟩ (fun hHeld => ?_)
        refine pure_ (i := 0) (N := some 46) (v := ?_) (a' := ?_) #[true, false, false, false, false, false, false, false, false, false, false, false, false, false] rfl rfl (by kernel_rfl) (fun _ _ _ h => h) (Or.inl ⟨by rfl, ?_⟩) ?_ ?_
        rotate_left
        · intro w'
          go_simp
          with_reducible rfl
        rotate_left
        · simp only [Act.put, List.setIfInBounds_toArray, List.set_cons_zero, List.set_cons_succ, i64_w, i32_w]
          rfl
        refine pure_ (i := 1) (N := some 47) (v := ?_) (a' := ?_) #[true, true, false, false, false, false, false, false, false, false, false, false, false, false] rfl rfl (by kernel_rfl) (fun _ _ _ h => h) (Or.inl ⟨by rfl, ?_⟩) ?_ ?_
        rotate_left
        · intro w'
          go_simp
          with_reducible rfl
        rotate_left
        · simp only [Act.put, List.setIfInBounds_toArray, List.set_cons_zero, List.set_cons_succ, i64_w, i32_w]
          rfl
        refine pure_ (i := 2) (N := some 48) (v := ?_) (a' := ?_) #[true, true, true, false, false, false, false, false, false, false, false, false, false, false] rfl rfl (by kernel_rfl) (fun _ _ _ h => h) (Or.inl ⟨by rfl, ?_⟩) ?_ ?_
        rotate_left
        · intro w'
          go_simp
          with_reducible rfl
        rotate_left
        · simp only [Act.put, List.setIfInBounds_toArray, List.set_cons_zero, List.set_cons_succ, i64_w, i32_w]
          rfl
        refine pure_ (i := 3) (N := some 49) (v := ?_) (a' := ?_) #[true, true, true, true, false, false, false, false, false, false, false, false, false, false] rfl rfl (by kernel_rfl) (fun _ _ _ h => h) (Or.inl ⟨by rfl, ?_⟩) ?_ ?_
        rotate_left
        · intro w'
          go_simp
          with_reducible rfl
        rotate_left
        · simp only [Act.put, List.setIfInBounds_toArray, List.set_cons_zero, List.set_cons_succ, i64_w, i32_w]
          rfl
        refine pure_ (i := 6) (N := some 52) (v := ?_) (a' := ?_) #[true, true, true, true, false, false, true, false, false, false, false, false, false, false] rfl rfl (by kernel_rfl) (fun _ _ _ h => h) (Or.inl ⟨by rfl, ?_⟩) ?_ ?_
        rotate_left
        · intro w'
          go_simp
          with_reducible rfl
        rotate_left
        · simp only [Act.put, List.setIfInBounds_toArray, List.set_cons_zero, List.set_cons_succ, i64_w, i32_w]
          rfl
        refine pure_ (i := 7) (N := some 53) (v := ?_) (a' := ?_) #[true, true, true, true, false, false, true, true, false, false, false, false, false, false] rfl rfl (by kernel_rfl) (fun _ _ _ h => h) (Or.inl ⟨by rfl, ?_⟩) ?_ ?_
        rotate_left
        · intro w'
          go_simp
          with_reducible rfl
        rotate_left
        · simp only [Act.put, List.setIfInBounds_toArray, List.set_cons_zero, List.set_cons_succ, i64_w, i32_w]
          rfl
        refine take_ (i := 4) (N := some 50) (v := ?_) (a' := ?_) #[true, true, true, true, true, false, true, true, false, false, false, false, false, false] rfl rfl (by kernel_rfl) (fun _ _ _ h => h) (Or.inl ⟨by rfl, ?_⟩) hHeld ?_ ?_
        rotate_left
        · rintro w' ⟨s0, s1, s2⟩
          go_simp
          with_reducible rfl
        rotate_left
        · simp only [Act.put, List.setIfInBounds_toArray, List.set_cons_zero, List.set_cons_succ, i64_w, i32_w]
          rfl
        refine take_ (i := 5) (N := some 51) (v := ?_) (a' := ?_) #[true, true, true, true, true, true, true, true, false, false, false, false, false, false] rfl rfl (by kernel_rfl) (fun _ _ _ h => h) (Or.inl ⟨by rfl, ?_⟩) hHeld ?_ ?_
        rotate_left
        · rintro w' ⟨s0, s1, s2⟩
          go_simp
          with_reducible rfl
        rotate_left
        · simp only [Act.put, List.setIfInBounds_toArray, List.set_cons_zero, List.set_cons_succ, i64_w, i32_w]
          rfl
        refine pure_ (i := 8) (N := some 54) (v := ?_) (a' := ?_) #[true, true, true, true, true, true, true, true, true, false, false, false, false, false] rfl rfl (by kernel_rfl) (fun _ _ _ h => h) (Or.inl ⟨by rfl, ?_⟩) ?_ ?_
        rotate_left
        · intro w'
          go_simp
          with_reducible rfl
        rotate_left
        · simp only [Act.put, List.setIfInBounds_toArray, List.set_cons_zero, List.set_cons_succ, i64_w, i32_w]
          rfl
        refine one_ (i := 9) (N := some 55) #[true, true, true, true, true, true, true, true, true, true, false, false, false, false] rfl rfl (by kernel_rfl) (by decide) (fun K hK => ?_)
        refine value_ (w1 := ?_) (v := ?_) (by rfl) rfl ?_ ?_
        rotate_left 2
        · go_simp
          constructor
          · rfl
          · rfl
        refine hK.out _ _ ⟨below_cell (allocB _ _) v2, below_cell (allocB _ _) b0, below_cell (allocB _ _) b1⟩ (fun hHeld => ?_)
        clear hK K
        refine norm_ (a' := ?_) ?_ ?_
        rotate_left
        · show Act.put _ (some 55) _ = _
          simp only [Act.put, List.setIfInBounds_toArray, List.set_cons_zero, List.set_cons_succ, i64_w, i32_w]
          rfl
        refine one_ (i := 10) (N := some 56) #[true, true, true, true, true, true, true, true, true, true, true, false, false, false] rfl rfl (by kernel_rfl) (by decide) (fun K hK => ?_)
        refine app_step (by rfl) (by rfl) (by rfl) (by rfl) hrun ?_
        refine hK.out _ _ ⟨f2, g0, g1⟩ (fun hHeld => ?_)
        clear hK K
        refine norm_ (a' := ?_) ?_ ?_
        rotate_left
        · show Act.put _ (some 56) _ = _
          simp only [Act.put, List.setIfInBounds_toArray, List.set_cons_zero, List.set_cons_succ, i64_w, i32_w]
          rfl
        refine pure_ (i := 11) (N := some 57) (v := ?_) (a' := ?_) #[true, true, true, true, true, true, true, true, true, true, true, true, false, false] rfl rfl (by kernel_rfl) (fun _ _ _ h => h) (Or.inl ⟨by rfl, ?_⟩) ?_ ?_
        rotate_left
        · intro w'
          go_simp
          with_reducible rfl
        rotate_left
        · simp only [Act.put, List.setIfInBounds_toArray, List.set_cons_zero, List.set_cons_succ, i64_w, i32_w]
          rfl
        refine pure_ (i := 12) (N := some 58) (v := ?_) (a' := ?_) #[true, true, true, true, true, true, true, true, true, true, true, true, true, false] rfl rfl (by kernel_rfl) (fun _ _ _ h => h) (Or.inl ⟨by rfl, ?_⟩) ?_ ?_
        rotate_left
        · intro w'
          go_simp
          with_reducible rfl
        rotate_left
        · simp only [Act.put, List.setIfInBounds_toArray, List.set_cons_zero, List.set_cons_succ, i64_w, i32_w]
          rfl
        refine last_ (i := 13) (N := none) #[true, true, true, true, true, true, true, true, true, true, true, true, true, true] rfl rfl (by kernel_rfl) (by decide) (fun K hK => ?_)
        refine skip_ (w1 := ?_) (by rfl) rfl ?_ ?_
        rotate_left
        · go_simp
          rfl
        refine hK.out _ _ ?_
        clear hK K
        refine done_ (by kernel_rfl) ?_

        clear v2 b0 b1 hrun f2 g0 g1 fz
        go_wp2
        exact NEXT.out _ HP.out
      · replace LT := Aside0.mk (LT.out (by omega))
        clear GE
        go_wp2_with (go_at_call 58; refine NW.mono ?_; rintro e w3 ⟨rfl, hM⟩)
        obtain ⟨v2, b0, b1, A5, n5, c5, w5, hrun, f2, g0, g1, fz, HP⟩ := APP.out _ (MD2.out _ (LT.out _ hM))
        replace HP := Aside0.mk HP
        clear hM NW x0 x1
        go_wp2_with fail
        refine start_ (n := 14) (S := fun w' => w'.cell? ⟨q, 2, none⟩ = some (.slice Av m cv) ∧ w'.cell? ⟨wr.heap.size, 0, none⟩ = some (.string a.1) ∧ w'.cell? ⟨wr.heap.size, 1, none⟩ = some (.string a.2)) (ds := [13]) #[false, false, false, false, false, false, false, false, false, false, false, false, false, false] (by kernel_rfl) rfl rfl ⟨v2, b0, b1⟩ (fun hHeld => ?_)
        refine pure_ (i := 0) (N := some 46) (v := ?_) (a' := ?_) #[true, false, false, false, false, false, false, false, false, false, false, false, false, false] rfl rfl (by kernel_rfl) (fun _ _ _ h => h) (Or.inl ⟨by rfl, ?_⟩) ?_ ?_
        rotate_left
        · intro w'
          go_simp
          with_reducible rfl
        rotate_left
        · simp only [Act.put, List.setIfInBounds_toArray, List.set_cons_zero, List.set_cons_succ, i64_w, i32_w]
          rfl
        refine pure_ (i := 1) (N := some 47) (v := ?_) (a' := ?_) #[true, true, false, false, false, false, false, false, false, false, false, false, false, false] rfl rfl (by kernel_rfl) (fun _ _ _ h => h) (Or.inl ⟨by rfl, ?_⟩) ?_ ?_
        rotate_left
        · intro w'
          go_simp
          with_reducible rfl
        rotate_left
        · simp only [Act.put, List.setIfInBounds_toArray, List.set_cons_zero, List.set_cons_succ, i64_w, i32_w]
          rfl
        refine pure_ (i := 2) (N := some 48) (v := ?_) (a' := ?_) #[true, true, true, false, false, false, false, false, false, false, false, false, false, false] rfl rfl (by kernel_rfl) (fun _ _ _ h => h) (Or.inl ⟨by rfl, ?_⟩) ?_ ?_
        rotate_left
        · intro w'
          go_simp
          with_reducible rfl
        rotate_left
        · simp only [Act.put, List.setIfInBounds_toArray, List.set_cons_zero, List.set_cons_succ, i64_w, i32_w]
          rfl
        refine pure_ (i := 3) (N := some 49) (v := ?_) (a' := ?_) #[true, true, true, true, false, false, false, false, false, false, false, false, false, false] rfl rfl (by kernel_rfl) (fun _ _ _ h => h) (Or.inl ⟨by rfl, ?_⟩) ?_ ?_
        rotate_left
        · intro w'
          go_simp
          with_reducible rfl
        rotate_left
        · simp only [Act.put, List.setIfInBounds_toArray, List.set_cons_zero, List.set_cons_succ, i64_w, i32_w]
          rfl
        refine pure_ (i := 6) (N := some 52) (v := ?_) (a' := ?_) #[true, true, true, true, false, false, true, false, false, false, false, false, false, false] rfl rfl (by kernel_rfl) (fun _ _ _ h => h) (Or.inl ⟨by rfl, ?_⟩) ?_ ?_
        rotate_left
        · intro w'
          go_simp
          with_reducible rfl
        rotate_left
        · simp only [Act.put, List.setIfInBounds_toArray, List.set_cons_zero, List.set_cons_succ, i64_w, i32_w]
          rfl
        refine pure_ (i := 7) (N := some 53) (v := ?_) (a' := ?_) #[true, true, true, true, false, false, true, true, false, false, false, false, false, false] rfl rfl (by kernel_rfl) (fun _ _ _ h => h) (Or.inl ⟨by rfl, ?_⟩) ?_ ?_
        rotate_left
        · intro w'
          go_simp
          with_reducible rfl
        rotate_left
        · simp only [Act.put, List.setIfInBounds_toArray, List.set_cons_zero, List.set_cons_succ, i64_w, i32_w]
          rfl
        refine take_ (i := 4) (N := some 50) (v := ?_) (a' := ?_) #[true, true, true, true, true, false, true, true, false, false, false, false, false, false] rfl rfl (by kernel_rfl) (fun _ _ _ h => h) (Or.inl ⟨by rfl, ?_⟩) hHeld ?_ ?_
        rotate_left
        · rintro w' ⟨s0, s1, s2⟩
          go_simp
          with_reducible rfl
        rotate_left
        · simp only [Act.put, List.setIfInBounds_toArray, List.set_cons_zero, List.set_cons_succ, i64_w, i32_w]
          rfl
        refine take_ (i := 5) (N := some 51) (v := ?_) (a' := ?_) #[true, true, true, true, true, true, true, true, false, false, false, false, false, false] rfl rfl (by kernel_rfl) (fun _ _ _ h => h) (Or.inl ⟨by rfl, ?_⟩) hHeld ?_ ?_
        rotate_left
        · rintro w' ⟨s0, s1, s2⟩
          go_simp
          with_reducible rfl
        rotate_left
        · simp only [Act.put, List.setIfInBounds_toArray, List.set_cons_zero, List.set_cons_succ, i64_w, i32_w]
          rfl
        refine pure_ (i := 8) (N := some 54) (v := ?_) (a' := ?_) #[true, true, true, true, true, true, true, true, true, false, false, false, false, false] rfl rfl (by kernel_rfl) (fun _ _ _ h => h) (Or.inl ⟨by rfl, ?_⟩) ?_ ?_
        rotate_left
        · intro w'
          go_simp
          with_reducible rfl
        rotate_left
        · simp only [Act.put, List.setIfInBounds_toArray, List.set_cons_zero, List.set_cons_succ, i64_w, i32_w]
          rfl
        refine one_ (i := 9) (N := some 55) #[true, true, true, true, true, true, true, true, true, true, false, false, false, false] rfl rfl (by kernel_rfl) (by decide) (fun K hK => ?_)
        refine value_ (w1 := ?_) (v := ?_) (by rfl) rfl ?_ ?_
        rotate_left 2
        · go_simp
          constructor
          · rfl
          · rfl
        refine hK.out _ _ ⟨below_cell (allocB _ _) v2, below_cell (allocB _ _) b0, below_cell (allocB _ _) b1⟩ (fun hHeld => ?_)
        clear hK K
        refine norm_ (a' := ?_) ?_ ?_
        rotate_left
        · show Act.put _ (some 55) _ = _
          simp only [Act.put, List.setIfInBounds_toArray, List.set_cons_zero, List.set_cons_succ, i64_w, i32_w]
          rfl
        refine one_ (i := 10) (N := some 56) #[true, true, true, true, true, true, true, true, true, true, true, false, false, false] rfl rfl (by kernel_rfl) (by decide) (fun K hK => ?_)
        refine app_step (by rfl) (by rfl) (by rfl) (by rfl) hrun ?_
        refine hK.out _ _ ⟨f2, g0, g1⟩ (fun hHeld => ?_)
        clear hK K
        refine norm_ (a' := ?_) ?_ ?_
        rotate_left
        · show Act.put _ (some 56) _ = _
          simp only [Act.put, List.setIfInBounds_toArray, List.set_cons_zero, List.set_cons_succ, i64_w, i32_w]
          rfl
        refine pure_ (i := 11) (N := some 57) (v := ?_) (a' := ?_) #[true, true, true, true, true, true, true, true, true, true, true, true, false, false] rfl rfl (by kernel_rfl) (fun _ _ _ h => h) (Or.inl ⟨by rfl, ?_⟩) ?_ ?_
        rotate_left
        · intro w'
          go_simp
          with_reducible rfl
        rotate_left
        · simp only [Act.put, List.setIfInBounds_toArray, List.set_cons_zero, List.set_cons_succ, i64_w, i32_w]
          rfl
        refine pure_ (i := 12) (N := some 58) (v := ?_) (a' := ?_) #[true, true, true, true, true, true, true, true, true, true, true, true, true, false] rfl rfl (by kernel_rfl) (fun _ _ _ h => h) (Or.inl ⟨by rfl, ?_⟩) ?_ ?_
        rotate_left
        · intro w'
          go_simp
          with_reducible rfl
        rotate_left
        · simp only [Act.put, List.setIfInBounds_toArray, List.set_cons_zero, List.set_cons_succ, i64_w, i32_w]
          rfl
        refine last_ (i := 13) (N := none) #[true, true, true, true, true, true, true, true, true, true, true, true, true, true] rfl rfl (by kernel_rfl) (by decide) (fun K hK => ?_)
        refine skip_ (w1 := ?_) (by rfl) rfl ?_ ?_
        rotate_left
        · go_simp
          rfl
        refine hK.out _ _ ?_
        clear hK K
        refine done_ (by kernel_rfl) ?_

        clear v2 b0 b1 hrun f2 g0 g1 fz
        go_wp2
        exact NEXT.out _ HP.out
    · obtain rfl : j = nw := by omega
      go_wp2
      go_end0
      exact ⟨rfl, hR⟩
end Go.Proofs.YthaoedfalkebbaaGreat
namespace Go.Proofs.YthaoedfalkebbaaGreat
open Go.RowKit Go.Maps Go.Sort Go.Lib Go.Shelf Go.Proofs.YthaoedfalkebbaaGreatW.PrintWords Go.Proofs.YthaoedfalkebbaaGreatW.PrintLast Go.Proofs.YthaoedfalkebbaaGreatW.PrintMore
set_option linter.unusedVariables false
set_option linter.unusedSimpArgs false
set_option linter.unusedSectionVars false
theorem info125 : (Tryz.prog.info? 125).map (fun i => (i.zero, i.size, i.bytes)) = some (some (.agg #[.string ByteArray.empty, .string ByteArray.empty, .int .i64 0, .int .i64 0, .int .i64 0]), 5, 56) := by kernel_rfl
theorem encV_one : ∀ x, ∀ u ∈ encV x, u.oneCell' = true := fun x u hu => by
  simp only [encV, List.mem_cons, List.not_mem_nil, or_false] at hu
  rcases hu with rfl | rfl | rfl | rfl | rfl <;> rfl
theorem drewB1 (w : World) : Below w.heap.size w w.drew := (Below.refl _ w).grown (drewG w) (Nat.le_refl _) (by simp)
section
variable {w w' : World} {base q p : Nat} {F U : Nat → Prop} {W : Wld St} {rv vv lv : Value} {xs : List Rx}
theorem Wm.drew (h : Wm w base q p F U W rv vv lv xs) : Wm w.drew base q p F U W rv vv lv xs := h.below (drewB1 w)
theorem KeepW.drew {a b : World} (k : KeepW U a b) (h : base ≤ b.heap.size) : KeepW U a b.drew := k.trans (KeepW.ofBelow (drewB1 b) h)
theorem Wm.list_at (h : Wm w base q p F U W rv vv lv xs) {i : Nat} {x : Rx} (hx : xs[i]? = some x) : W.list[i]? = some x.1 := by rw [← h.fst, List.getElem?_map, hx]; rfl
theorem lay_at (vs : List Ver) (ws : List Lk) (num : Int) (i j : Nat) (a : Lk) (h : ws[j]? = some a) : commitV vs (ws.take (j + 1)) num i = lay (commitV vs (ws.take j) num i) num i a := by
  have : ws.take (j + 1) = ws.take j ++ [a] := by
    rw [List.take_add_one, h]
    rfl
  rw [this]
  unfold commitV
  rw [List.foldl_append]
  rfl
set_option maxHeartbeats 4000000 in
theorem commit_calls (h : Wm w base q p F U W rv vv lv xs) {i : Nat} {x : Rx} (hx : xs[i]? = some x) (num : Int) (hb : W.vers.length + x.1.writes.length ≤ 2000000000000) (hxs : xs.length ≤ 2000000000000) :
    Calls Tryz.prog 59 #[ptr q, .int .i64 i, .int .i64 num] w fun e w' => e = .returned (.tuple #[]) ∧ ∃ vv', Wm w' base q p F U { W with vers := commitV W.vers x.1.writes num i, list := W.list.set i { x.1 with committed := true } } rv vv' lv (xs.set i ({ x.1 with committed := true }, x.2.1, x.2.2)) ∧ KeepW U w w' := by
  have hi := (List.getElem?_eq_some_iff.1 hx).1
  have hmem : x ∈ xs := List.mem_of_getElem? hx
  have low : base ≤ w.heap.size := h.m.size
  obtain ⟨A, c, hlv, hlc, hA⟩ := h.list.slice
  obtain ⟨g, rfl, _⟩ := hA (by omega)
  obtain ⟨Aw, cw, hwv, _, hAw⟩ := (h.wr x hmem).slice
  have hl := h.list
  rw [hlv] at hl
  obtain ⟨gc, hg⟩ := hl.blk
  obtain ⟨_, _, _, _, y4, _⟩ := RowX.at hl i x hx
  have c3 := h.cell.2.2.2.1
  rw [hlv] at c3
  obtain ⟨H0, K0⟩ := h.setX hx hlv (j := 4) (by decide) (u := .bool true) (x' := { x.1 with committed := true }) rfl rfl rfl
  have hx0 : (xs.set i (({ x.1 with committed := true } : Run), x.2.1, x.2.2))[i]? = some ({ x.1 with committed := true }, x.2.1, x.2.2) := by rw [List.getElem?_set, if_pos rfl, if_pos hi]
  have hm0 := List.mem_of_getElem? hx0
  have hl0 := H0.list
  rw [hlv] at hl0
  obtain ⟨_, _, _, _, _, _, _, z7⟩ := RowX.at hl0 i _ hx0
  have z7 : (w.setCell ⟨g, i * 8 + 4, none⟩ (.bool true)).cell? ⟨g, i * 8 + 7, none⟩ = some (.slice Aw x.1.writes.length cw) := by rw [z7, ← hwv]
  refine (commit_walk q g i xs.length c x.1.writes.length cw Aw num w _ x.1.committed (fun j W' => ∃ vv', Wm W' base q p F U { W with vers := commitV W.vers (x.1.writes.take j) num i, list := W.list.set i { x.1 with committed := true } } rv vv' lv (xs.set i ({ x.1 with committed := true }, x.2.1, x.2.2)) ∧ KeepW U w W') hi (by omega) (by omega) c3 y4 (blk_frozen hg _) rfl z7 ⟨vv, H0, K0⟩ ?_).mono ?_
  · intro j V hj ⟨v1, H, K⟩
    generalize hxs' : xs.set i (({ x.1 with committed := true } : Run), x.2.1, x.2.2) = xs' at H hm0
    obtain ⟨a, ha⟩ : ∃ a, x.1.writes[j]? = some a := ⟨_, List.getElem?_eq_getElem hj⟩
    generalize hvs : commitV W.vers (x.1.writes.take j) num i = vs at H
    have hvl : vs.length ≤ 2000000000000 := by rw [← hvs, (commitV_ext _ _ _ _).len, List.length_take]; omega
    obtain ⟨Av, cv, hv1, _, hAv⟩ := H.vers.slice
    obtain ⟨k, rfl, _⟩ := hAw (by omega)
    have hw := H.wr _ hm0
    have hw : RowL V base (.slice (some ⟨k, 0, none⟩) x.1.writes.length cw) x.1.writes := by rw [← hwv]; exact hw
    obtain ⟨a0, a1⟩ := RowL.at hw j a ha
    obtain ⟨W4, hW4⟩ : ∃ W4, W4 = V.alloc (.cells #[.string a.1, .string a.2] 23) := ⟨_, rfl⟩
    obtain ⟨B4, hsz, x0, x1⟩ := lk_box V W4 a hW4
    have H4 := H.below B4
    have c24 := H4.cell.2.2.1
    have lowV : base ≤ V.heap.size := H.m.size
    have hvt : ∀ b, v1.ownBlock = some b → b < V.heap.size := fun b hb => (H.vers.typed b hb).2.1
    obtain ⟨vs2, hvs2⟩ : ∃ vs2, vs2 = if 0 ≤ newest vs a num then vs.modify (newest vs a num).toNat (fun v => { v with next := (vs.length : Int) }) else vs := ⟨_, rfl⟩
    have hlen : vs2.length = vs.length := by
      rw [hvs2]
      split
      · exact List.length_modify ..
      · rfl
    have hlay : lay vs num i a = vs2 ++ [⟨a, num, i, -1⟩] := by rw [hvs2]; rfl
    refine ⟨a, k, vs.length, cv, newest vs a num, Av, fun V' => Below W4.heap.size W4 V', fun V' => Wm V' base q p F U { W with vers := vs2, list := W.list.set i { x.1 with committed := true } } rv v1 lv xs' ∧ KeepW U w V' ∧ V'.cell? ⟨V.heap.size, 0, none⟩ = some (.string a.1) ∧ V'.cell? ⟨V.heap.size, 1, none⟩ = some (.string a.2), rfl, a0, a1, ?_, ?_, ?_, ?_, ?_, ?_⟩
    · rw [← hW4]
      refine (newest_calls base q v1 vs a num W4 c24 H4.vers (by omega)).mono ?_
      rintro e w3 ⟨rfl, B⟩
      exact ⟨rfl, B⟩
    · intro hr
      rcases newest_cases vs a num with ⟨e, _⟩ | ⟨rn, u, e, hu, _, _⟩
      · omega
      · have hrn := (List.getElem?_eq_some_iff.1 hu).1
        obtain ⟨hb', rfl, _⟩ := hAv (by show 0 < vs.length; omega)
        refine ⟨hb', rn, rfl, e, hrn, by omega, fun V' B => ?_⟩
        have HV := H4.below B
        have hlV := HV.vers
        rw [hv1] at hlV
        obtain ⟨vc, hvc⟩ := hlV.blk
        have c2 := HV.cell.2.2.1
        rw [hv1] at c2
        have hne : ¬ (some hb' = some V.heap.size) := fun e => by
          injection e with e
          have := hvt hb' (by rw [hv1]; rfl)
          omega
        obtain ⟨HN, KN⟩ := HV.setNext hrn hv1 (vs.length : Int)
        have fN : Fr (fun k => some hb' = some k) V' _ := Fr.grown (grown_set V' hb' (rn * 5 + 4) (.int .i64 (vs.length : Int)))
        refine ⟨c2, ⟨_, (RowV.at hlV rn u hu).2.2.2.2⟩, blk_frozen hvc _, ?_, (K.trans (KeepW.ofBelow (below_then B4 B4.size B) lowV)).trans KN, fN.cell (below_cell B x0) hne, fN.cell (below_cell B x1) hne⟩
        rw [if_pos hr, e] at hvs2
        rw [hvs2]
        exact HN
    · intro hr V' B
      refine ⟨?_, K.trans (KeepW.ofBelow (below_then B4 B4.size B) lowV), below_cell B x0, below_cell B x1⟩
      rw [if_neg (by omega)] at hvs2
      rw [hvs2]
      exact H4.below B
    · intro V' B
      exact B.grown (drewG V') B.size (by simp)
    · rintro V' ⟨q1, q2, q3, q4⟩
      exact ⟨q1.drew, q2.drew q1.m.size, below_cell (drewB1 V') q3, below_cell (drewB1 V') q4⟩
    · rintro V' ⟨q1, q2, q3, q4⟩
      have c2 := q1.cell.2.2.1
      rw [hv1] at c2
      obtain ⟨v5, w5, hrun, L5, g5, hown⟩ := Lo.append2 (P := Tryz.prog) (xs := vs2) q1.vers (fun _ => rfl) encV_one 47 47 _ 56 Tryz.underlying47 info125 rfl (by decide) (by decide) ⟨a, num, i, -1⟩ (by show (vs2.length + 1) * 56 ≤ _; omega) q1.m.size
      have L5k := L5
      obtain ⟨A5, c5, rfl, _⟩ := L5.slice
      rw [hv1] at hrun
      have F5 : Fr (fun k => v1.ownBlock = some k) V' w5 := Fr.grown g5
      have hbR : v1.ownBlock ≠ some V.heap.size := fun e => by
        have := hvt _ e
        omega
      have hqR : v1.ownBlock ≠ some q := lo_kind q1.vers q1.cells (by decide)
      have hq5 := F5.block q _ hqR q1.cells
      obtain ⟨H6, K6⟩ := q1.addVer L5k F5 hown
      refine ⟨c2, q3, q4, A5, _, c5, w5, hrun, F5.cell c2 hqR, F5.cell q3 hbR, F5.cell q4 hbR, blk_frozen hq5 _, ?_⟩
      refine ⟨.slice A5 (vs2 ++ [(⟨a, num, i, -1⟩ : Ver)]).length c5, ?_, q2.trans K6⟩
      rw [lay_at W.vers x.1.writes num i j a ha, hvs, hlay]
      exact H6
  · rintro e w' ⟨rfl, vv', H, K⟩
    rw [List.take_length] at H
    exact ⟨rfl, vv', H, K⟩
end
end Go.Proofs.YthaoedfalkebbaaGreat
namespace Go.Proofs.YthaoedfalkebbaaGreat
open Go.RowKit Go.Maps Go.Sort Go.Lib Go.Shelf Go.Proofs.YthaoedfalkebbaaGreatW.PrintWords Go.Proofs.YthaoedfalkebbaaGreatW.PrintLast Go.Proofs.YthaoedfalkebbaaGreatW.PrintMore
set_option linter.unusedVariables false
set_option linter.unusedSimpArgs false
set_option linter.unusedSectionVars false
def rowsN (xs : List Opn) : Nat → List Lk
  | 0 => []
  | k + 1 => match xs[k]? with
    | some o => if o.at_ ∈ rowsN xs k then rowsN xs k else rowsN xs k ++ [o.at_]
    | none => rowsN xs k
theorem rowsN_succ {xs : List Opn} {k : Nat} {o : Opn} (h : xs[k]? = some o) : rowsN xs (k + 1) = if o.at_ ∈ rowsN xs k then rowsN xs k else rowsN xs k ++ [o.at_] := by
  show (match xs[k]? with | some o => if o.at_ ∈ rowsN xs k then rowsN xs k else rowsN xs k ++ [o.at_] | none => rowsN xs k) = _
  rw [h]
theorem rowsN_len (xs : List Opn) : ∀ k, (rowsN xs k).length ≤ k
  | 0 => Nat.le_refl _
  | k + 1 => by
    have := rowsN_len xs k
    unfold rowsN
    split
    · split
      · omega
      · rw [List.length_append]; simp; omega
    · omega
theorem mem_take_succ {l : List Lk} {a x : Lk} {k : Nat} (h : l[k]? = some x) : decide (a ∈ l.take (k + 1)) = (decide (a ∈ l.take k) || decide (x = a)) := by
  rw [List.take_add_one, h, ← Bool.decide_or]
  apply decide_eq_decide.2
  rw [List.mem_append]
  constructor
  · rintro (h | h)
    · exact .inl h
    · exact .inr (List.mem_singleton.1 h).symm
  · rintro (h | h)
    · exact .inl h
    · exact .inr (List.mem_singleton.2 h.symm)
theorem oneLk : ∀ x : Lk, ∀ u ∈ Lck.cellsL x, u.oneCell' = true := fun x u hu => by simp [Lck.cellsL] at hu; rcases hu with rfl | rfl <;> rfl
set_option maxHeartbeats 16000000 in
set_option maxRecDepth 100000 in
theorem rows_calls (z : Scp) (w : World) (hz : z.OK w) : Calls Tryz.prog 56 #[z.val] w fun e w' => ∃ v, e = .returned v ∧ RowL w' w.heap.size v (rowsN z.xs z.xs.length) ∧ Below w.heap.size w w' := by
  obtain ⟨A, c, xs⟩ := z
  obtain ⟨hC, hops, hlen⟩ := hz
  unfold Scp.val
  dsimp only at hC hops hlen ⊢
  have hlen2 : xs.length ≤ 2000000000000 := by
    have : reachBytes = 140737488351232 := by decide
    omega
  clear hlen hops
  replace hC := Aside0.mk hC
  go_enter Tryz.func56, Tryz.ntmps56
  go_wp2_with fail
  go_loopw [3, 11] (fun lv iv wr => ∃ k : Nat, iv = .int .i64 k ∧ k ≤ xs.length ∧ RowL wr w.heap.size lv (rowsN xs k) ∧ Below w.heap.size w wr) (fun _ iv _ => xs.length - (intOf iv).toNat)
  case atStart => exact ⟨0, rfl, Nat.zero_le _, Lo.nil _ _, Below.refl _ _⟩
  case round =>
    obtain ⟨k, rfl, hk, hR, hB⟩ := hrel
    by_cases hlt : k < xs.length
    · have C := Kd.C_below hC.out hB
      obtain ⟨ad, rfl, q0, q1, q2, q3, q4, q5⟩ := opn_at C k hlt
      have hrs := rowsN_succ (List.getElem?_eq_getElem hlt)
      generalize xs[k] = o at q0 q1 q2 q3 q4 q5 hrs
      obtain ⟨W4, hW4⟩ : ∃ W4, W4 = wr.alloc (boxOn o) := ⟨_, rfl⟩
      unfold boxOn at hW4
      have B4 : Below wr.heap.size wr W4 := by rw [hW4]; exact (Below.refl _ wr).alloc (Nat.le_refl _) _
      have ob4 : W4.heap[wr.heap.size]? = some (boxOn o) := by rw [hW4]; exact heap_alloc_new wr _
      obtain ⟨r0, r1, r2, r3, r4, r5⟩ := opn_cells ob4
      have hR4 := hR.grown (grown_of_below B4 none) (by simp)
      have hB4 := below_then hB hB.size B4
      have hll := rowsN_len xs k
      generalize rowsN xs k = l at hR4 hrs hll
      obtain ⟨Al, cl, rfl, hlc, hAl⟩ := hR4.slice
      have CEL : ∀ W, Below W4.heap.size W4 W → W.cell? ⟨wr.heap.size, 2, none⟩ = some (.string o.at_.1) ∧ W.cell? ⟨wr.heap.size, 3, none⟩ = some (.string o.at_.2) := fun W B => ⟨below_cell B r2, below_cell B r3⟩
      have EQ : ∀ (x : Lk) W, (binOp .eql 23 (.agg #[.string x.1, .string x.2]) (.agg #[.string o.at_.1, .string o.at_.2])).run Tryz.prog W = .ok (.bool (decide (x = o.at_))) W := fun x W => Lck.eqLk x o.at_ W
      replace CEL := Aside0.mk CEL
      replace EQ := Aside0.mk EQ
      replace hrs := Aside0.mk hrs
      replace hB4 := Aside0.mk hB4
      clear ob4 B4 hR hB C r0 r1 r4 r5
      go_upto_region 5 with (fail)
      rw [← hW4]
      clear hW4 q0 q1 q2 q3 q4 q5
      go_wp2_with fail
      go_loopw [6, 17] (fun bv iv wr2 => ∃ j : Nat, j ≤ l.length ∧ iv = .int .i64 j ∧ bv = .bool (decide (o.at_ ∈ l.take j)) ∧ RowL wr2 w.heap.size (.slice Al l.length cl) l ∧ Below W4.heap.size W4 wr2) (fun _ iv _ => l.length - (intOf iv).toNat)
      case atStart => exact ⟨0, Nat.zero_le _, rfl, by rw [List.take_zero]; rfl, hR4, Below.refl _ _⟩
      case round =>
        clear hR4 r2 r3
        obtain ⟨j, hj, rfl, rfl, hR5, hB5⟩ := hrel
        obtain ⟨b2, b3⟩ := CEL.out _ hB5
        by_cases hjl : j < l.length
        · obtain ⟨g, rfl, _⟩ := hAl (by omega)
          obtain ⟨y0, y1⟩ := RowL.at hR5 j l[j] (List.getElem?_eq_getElem hjl)
          have hms := mem_take_succ (a := o.at_) (List.getElem?_eq_getElem hjl)
          have EQx := EQ.out l[j]
          generalize l[j] = x at y0 y1 hms EQx
          obtain ⟨W6, hW6⟩ : ∃ W6, W6 = wr.alloc (.cells #[.string x.1, .string x.2] 23) := ⟨_, rfl⟩
          obtain ⟨B6, _, x0, x1⟩ := lk_box wr W6 x hW6
          have c2' := below_cell B6 b2
          have c3' := below_cell B6 b3
          have hR6 := hR5.grown (grown_of_below B6 none) (by simp)
          have hB6 := below_then hB5 hB5.size B6
          generalize decide (o.at_ ∈ l.take j) = bj at hms ⊢
          generalize decide (x = o.at_) = bx at hms EQx
          have NEXT : ∃ j' : Nat, j' ≤ l.length ∧ Value.int .i64 ((j : Int) + 1) = .int .i64 j' ∧ Value.bool (bj || bx) = .bool (decide (o.at_ ∈ l.take j')) ∧ RowL W6 w.heap.size (.slice (some ⟨g, 0, none⟩) l.length cl) l ∧ Below W4.heap.size W4 W6 := ⟨j + 1, hjl, by push_cast; rfl, by rw [hms], hR6, hB6⟩
          replace NEXT := Aside0.mk NEXT
          clear hR5 hB5 hR6 hB6 B6 hms
          go_upto_region 9 with (fail)
          rw [← hW6]
          clear hW6 y0 y1 b2 b3
          cases bj with
          | true =>
            clear EQx
            go_wp2
            exact ⟨NEXT.out, by simp [intOf]; omega⟩
          | false =>
            go_wp2
            exact ⟨NEXT.out, by simp [intOf]; omega⟩
        · obtain rfl : j = l.length := by omega
          rw [List.take_length]
          by_cases hm : o.at_ ∈ l
          · rw [decide_eq_true hm]
            have NEXT : (∃ k' : Nat, Value.int .i64 ((k : Int) + 1) = .int .i64 k' ∧ k' ≤ xs.length ∧ RowL wr w.heap.size (.slice Al l.length cl) (rowsN xs k') ∧ Below w.heap.size w wr) := ⟨k + 1, by push_cast; rfl, hlt, by rw [hrs.out, if_pos hm]; exact hR5, below_then hB4.out hB4.out.size hB5⟩
            replace NEXT := Aside0.mk NEXT
            clear hR5 hB5
            replace hm := Aside0.mk hm
            go_wp2
            exact ⟨NEXT.out, by simp [intOf]; omega⟩
          · rw [decide_eq_false hm]
            have hBn := below_then hB4.out hB4.out.size hB5
            obtain ⟨v5, w5, hrun, L5, g5⟩ := Lo.append (P := Tryz.prog) hR5 (fun _ => rfl) oneLk 46 46 _ 32 Tryz.underlying46 Lck.info23 rfl (by decide) (by decide) o.at_ (by omega) hBn.size
            have B5 : Below w.heap.size w w5 := hBn.grown g5 hBn.size (fun b hb => (hR5.typed b hb).1)
            have NEXT : (∃ k' : Nat, Value.int .i64 ((k : Int) + 1) = .int .i64 k' ∧ k' ≤ xs.length ∧ RowL w5 w.heap.size v5 (rowsN xs k') ∧ Below w.heap.size w w5) := ⟨k + 1, by push_cast; rfl, hlt, by rw [hrs.out, if_neg hm]; exact L5, B5⟩
            replace NEXT := Aside0.mk NEXT
            clear hR5 hB5 g5 L5 B5 hBn
            replace hm := Aside0.mk hm
            go_wp2_with (at_builtin; refine app_list rfl rfl rfl rfl hrun ?_)
            exact ⟨NEXT.out, by simp [intOf]; omega⟩
    · obtain rfl : k = xs.length := by omega
      go_wp2
      go_ret
      exact ⟨_, rfl, hR, hB⟩
theorem mayC_eq (c : Cp) : mayC c = (decide (1 ≤ c.active) && decide (c.active ≤ 64) && decide (0 ≤ c.kept) && decide (c.kept ≤ 1024) && decide (1 ≤ c.reads) && decide (c.reads ≤ 65536) && decide (1 ≤ c.locks) && decide (c.locks ≤ 4096)) := rfl
set_option maxHeartbeats 8000000 in
set_option maxRecDepth 100000 in
theorem mayC_calls (c : Cp) (w : World) (h : mayC c = false) : Calls Tryz.prog 18 #[.agg c.cells] w fun e w' => e = .returned (.bool false) ∧ Below w.heap.size w w' := by
  obtain ⟨ac, kp, rd, lk⟩ := c
  rw [mayC_eq] at h
  unfold Cp.cells
  dsimp only at h ⊢
  have B1 : Below w.heap.size w (w.alloc (.cells #[.int .i64 ac, .int .i64 kp, .int .i64 rd, .int .i64 lk] 31)) := (Below.refl _ w).alloc (Nat.le_refl _) _
  replace B1 := Aside0.mk B1
  by_cases h1 : 1 ≤ ac
  · by_cases h2 : ac ≤ 64
    · by_cases h3 : 0 ≤ kp
      · by_cases h4 : kp ≤ 1024
        · by_cases h5 : 1 ≤ rd
          · by_cases h6 : rd ≤ 65536
            · by_cases h7 : 1 ≤ lk
              · have h8 : ¬ lk ≤ 4096 := by simpa [h1, h2, h3, h4, h5, h6, h7] using h
                clear h
                go_enter Tryz.func18, Tryz.ntmps18
                go_wp2
                go_ret
                exact ⟨rfl, B1.out⟩
              · clear h
                go_enter Tryz.func18, Tryz.ntmps18
                go_wp2
                go_ret
                exact ⟨rfl, B1.out⟩
            · clear h
              go_enter Tryz.func18, Tryz.ntmps18
              go_wp2
              go_ret
              exact ⟨rfl, B1.out⟩
          · clear h
            go_enter Tryz.func18, Tryz.ntmps18
            go_wp2
            go_ret
            exact ⟨rfl, B1.out⟩
        · clear h
          go_enter Tryz.func18, Tryz.ntmps18
          go_wp2
          go_ret
          exact ⟨rfl, B1.out⟩
      · clear h
        go_enter Tryz.func18, Tryz.ntmps18
        go_wp2
        go_ret
        exact ⟨rfl, B1.out⟩
    · clear h
      go_enter Tryz.func18, Tryz.ntmps18
      go_wp2
      go_ret
      exact ⟨rfl, B1.out⟩
  · clear h
    go_enter Tryz.func18, Tryz.ntmps18
    go_wp2
    go_ret
    exact ⟨rfl, B1.out⟩
end Go.Proofs.YthaoedfalkebbaaGreat
namespace Go.Proofs.YthaoedfalkebbaaGreat
open Go.RowKit Go.Maps Go.Sort Go.Lib Go.Shelf Go.Proofs.YthaoedfalkebbaaGreatW.PrintWords Go.Proofs.YthaoedfalkebbaaGreatW.PrintLast Go.Proofs.YthaoedfalkebbaaGreatW.PrintMore
set_option linter.unusedVariables false
set_option linter.unusedSimpArgs false
set_option linter.unusedSectionVars false
abbrev F0 : Nat → Prop := fun _ => False
def W0 (c : Cp) (xs : List Opn) : Wld St := ⟨S0 c 0, rowsN xs xs.length, [], [], false⟩
set_option maxHeartbeats 16000000 in
set_option maxRecDepth 100000 in
theorem start_calls (U : Nat → Prop) (c : Cp) (z : Scp) (w : World) (hU : Top U w) (hz : z.OK w) (h : mayC c = true) :
    Calls Tryz.prog 17 #[.agg c.cells, z.val] w fun e w' => ∃ q p rv, e = .returned (.tuple #[ptr q, .bool true]) ∧ Wm w' w.heap.size q p F0 U (W0 c z.xs) rv (.slice none 0 0) (.slice none 0 0) [] ∧ Below w.heap.size w w' := by
  obtain ⟨w1, hw1⟩ : ∃ w1, w1 = w.alloc (.cells c.cells 31) := ⟨_, rfl⟩
  have B1 : Below w.heap.size w w1 := by rw [hw1]; exact allocB w _
  have NEW := fun W (B : Below w1.heap.size w1 W) => New_s c 0 w.heap.size F0 W (by have := B.size; have := B1.size; omega) h (Int.le_refl _)
  have ROW := fun W (B : Below w.heap.size w W) => rows_calls z W ⟨Kd.C_below hz.reads B, hz.ops, hz.len⟩
  obtain ⟨ac, kp, rd, lk⟩ := c
  unfold Cp.cells at hw1 NEW ⊢
  dsimp only at hw1 NEW ⊢
  have ob1 : w1.heap[w.heap.size]? = some (.cells #[.int .i64 ac, .int .i64 kp, .int .i64 rd, .int .i64 lk] 31 (0, 0)) := by rw [hw1]; exact heap_alloc_new w _
  have x0 := cell_of_row w1 _ 0 _ 31 (0, 0) ob1
  have x1 := cell_of_row w1 _ 1 _ 31 (0, 0) ob1
  have x2 := cell_of_row w1 _ 2 _ 31 (0, 0) ob1
  have x3 := cell_of_row w1 _ 3 _ 31 (0, 0) ob1
  have NEWw := NEW w1 (Below.refl _ _)
  replace ROW := Aside0.mk ROW
  replace B1 := Aside0.mk B1
  clear NEW ob1 hz h
  unfold Scp.val at ROW ⊢
  go_enter Tryz.func17, Tryz.ntmps17
  go_upto_region 1 with (fail)
  rw [← hw1]
  clear hw1
  go_wp2_with (go_at_call 12; refine NEWw.mono ?_; rintro e w2 ⟨l, rfl, hP, hB2, hlp, hlF⟩; replace hP := Aside0.mk hP; replace hlF := Aside0.mk hlF; replace hB2 := Aside0.mk (below_then B1.out B1.out.size hB2))
  have ROWw := ROW.out w2 hB2.out
  go_wp2_with (go_at_call 56; refine ROWw.mono ?_; rintro e w3 ⟨v, rfl, hR, hB3⟩; obtain ⟨A3, c3, rfl, _⟩ := hR.slice; generalize hnn : (rowsN z.xs z.xs.length).length = nn at hR; replace hR := Aside0.mk hR; replace hnn := Aside0.mk hnn; replace hB3 := Aside0.mk hB3)
  go_ret2
  have hB23 := below_then hB2.out hB2.out.size hB3.out
  have B4 : Below w3.heap.size w3 (w3.alloc (wCells l.p (.slice A3 nn c3) (.slice none 0 0) (.slice none 0 0) false)) := allocB w3 _
  have low : w.heap.size ≤ w2.heap.size := hB2.out.size
  refine ⟨w3.heap.size, l.p, .slice A3 nn c3, rfl, ⟨?_, ?_, ?_, ?_, ?_, ?_, rfl, ?_, ?_, ?_, ?_, ?_, ?_, ?_, ?_, ?_, ?_, ?_, ?_, ?_⟩, below_then hB23 hB23.size B4⟩
  · exact heap_alloc_new w3 _
  · have := hB23.size
    omega
  · have hM : MgrO w.heap.size F0 U l.p (S0 ⟨ac, kp, rd, lk⟩ 0) w2 := ⟨l, rfl, hlF.out, fun k hk => hU k (hP.out.ownLow k hk), hP.out⟩
    exact (hM.below hB3.out).below B4
  · exact (hR.out.lower low).grown (grown_of_below B4 none) (by simp)
  · exact Lo.nil _ _
  · exact Lo.nil _ _
  · intro x hx; cases hx
  · intro x hx; cases hx
  · intro i j x y _ hx; cases hx
  · intro i j x y _ hx; cases hx
  · intro x hx; cases hx
  · exact fun _ _ h => h
  · exact fun _ h => h.elim
  · exact hU _ hB23.size
  · intro b hb; cases hb
  · intro b hb; cases hb
  · intro x hx; cases hx
  · intro x hx; cases hx
  · exact hU.later (below_then hB23 hB23.size B4).size
set_option maxHeartbeats 16000000 in
set_option maxRecDepth 100000 in
theorem start_no (c : Cp) (z : Scp) (w : World) (h : mayC c = false) :
    Calls Tryz.prog 17 #[.agg c.cells, z.val] w fun e w' => e = .returned (.tuple #[.pointer none, .bool false]) ∧ Below w.heap.size w w' := by
  obtain ⟨w1, hw1⟩ : ∃ w1, w1 = w.alloc (.cells c.cells 31) := ⟨_, rfl⟩
  have B1 : Below w.heap.size w w1 := by rw [hw1]; exact allocB w _
  have NEWw := New_no c 0 w1 (by rw [h]; rfl)
  obtain ⟨ac, kp, rd, lk⟩ := c
  unfold Cp.cells at hw1 NEWw ⊢
  dsimp only at hw1 NEWw ⊢
  have ob1 : w1.heap[w.heap.size]? = some (.cells #[.int .i64 ac, .int .i64 kp, .int .i64 rd, .int .i64 lk] 31 (0, 0)) := by rw [hw1]; exact heap_alloc_new w _
  have x0 := cell_of_row w1 _ 0 _ 31 (0, 0) ob1
  have x1 := cell_of_row w1 _ 1 _ 31 (0, 0) ob1
  have x2 := cell_of_row w1 _ 2 _ 31 (0, 0) ob1
  have x3 := cell_of_row w1 _ 3 _ 31 (0, 0) ob1
  replace B1 := Aside0.mk B1
  clear ob1 h
  unfold Scp.val
  go_enter Tryz.func17, Tryz.ntmps17
  go_upto_region 1 with (fail)
  rw [← hw1]
  clear hw1
  go_wp2_with (go_at_call 12; refine NEWw.mono ?_; rintro e w2 ⟨rfl, hB2⟩; replace hB2 := Aside0.mk (below_then B1.out B1.out.size hB2))
  go_ret2
  exact ⟨rfl, hB2.out⟩
end Go.Proofs.YthaoedfalkebbaaGreat
namespace Go.Proofs.YthaoedfalkebbaaGreat
open Go.RowKit Go.Maps Go.Sort Go.Lib Go.Shelf Go.Proofs.YthaoedfalkebbaaGreatW.PrintWords Go.Proofs.YthaoedfalkebbaaGreatW.PrintLast Go.Proofs.YthaoedfalkebbaaGreatW.PrintMore
set_option linter.unusedVariables false
set_option linter.unusedSimpArgs false
set_option linter.unusedSectionVars false
/-- what one that is over leaves of the row of runs -/
def EndAt (g i : Nat) (moment : Int) (Q : World → Prop) (V : World) : Prop :=
  (∃ u, V.cell? ⟨g, i * 8 + 5, none⟩ = some u) ∧ V.frozen? ⟨g, i * 8 + 5, none⟩ = false ∧ ∀ V5, V5 = V.setCell ⟨g, i * 8 + 5, none⟩ (.bool true) → (∃ u, V5.cell? ⟨g, i * 8 + 3, none⟩ = some u) ∧ V5.frozen? ⟨g, i * 8 + 3, none⟩ = false ∧ Q (V5.setCell ⟨g, i * 8 + 3, none⟩ (.int .i64 moment))
abbrev BoxAt (b : Nat) (k tx : Int) (s1 s2 u : ByteArray) (V : World) : Prop :=
  V.cell? ⟨b, 0, none⟩ = some (.int .i64 k) ∧ V.cell? ⟨b, 1, none⟩ = some (.int .i64 tx) ∧ V.cell? ⟨b, 2, none⟩ = some (.string s1) ∧ V.cell? ⟨b, 3, none⟩ = some (.string s2) ∧ V.cell? ⟨b, 4, none⟩ = some (.string u)
set_option maxHeartbeats 16000000 in
set_option maxRecDepth 100000 in
theorem do_read (q p g i n c : Nat) (tx last moment r : Int) (s1 s2 u : ByteArray) (w w1 : World) (hw1 : w1 = w.alloc (.cells #[.int .i64 1, .int .i64 tx, .string s1, .string s2, .string u, .int .i64 last] 36)) (M M2 Q : World → Prop) (hi : i < n) (hnb : n ≤ 1000000000000000)
    (CEL : ∀ W, Below w1.heap.size w1 W → W.cell? ⟨q, 0, none⟩ = some (ptr p) ∧ W.cell? ⟨q, 3, none⟩ = some (.slice (some ⟨g, 0, none⟩) n c) ∧ BoxAt w.heap.size 1 tx s1 s2 u W)
    (OF : Calls Tryz.prog 23 #[ptr q, .int .i64 tx] w1 fun e w2 => e = .returned (.int .i64 i) ∧ Below w1.heap.size w1 w2)
    (RD : ∀ V k, Below w1.heap.size w1 V → Calls Tryz.prog 14 #[ptr p, .int .i64 tx, .agg #[.string s1, .string s2]] (V.drewN k) fun e w3 => e = .returned (.int .i64 r) ∧ M w3)
    (MB : ∀ V, M V → V.cell? ⟨q, 0, none⟩ = some (ptr p) ∧ BoxAt w.heap.size 1 tx s1 s2 u V) (MB2 : ∀ V, M2 V → BoxAt w.heap.size 1 tx s1 s2 u V ∧ Q V)
    (SEE : r = 0 → ∀ V, M V → Calls Tryz.prog 57 #[ptr q, .int .i64 i, .agg #[.string s1, .string s2]] V fun e w3 => e = .returned (.tuple #[]) ∧ M2 w3)
    (END : r ≠ 0 → ∀ V, M V → EndAt g i moment Q V) :
    Calls Tryz.prog 19 #[ptr q, .agg #[.int .i64 1, .int .i64 tx, .string s1, .string s2, .string u, .int .i64 last], .int .i64 moment] w fun e w' => e = .returned (.int .i64 r) ∧ Q w' := by
  obtain ⟨c0, c3, x0, x1, x2, x3, x4⟩ := CEL w1 (Below.refl _ _)
  replace CEL := Aside0.mk CEL
  replace END := Aside0.mk END
  replace SEE := Aside0.mk SEE
  replace MB := Aside0.mk MB
  replace MB2 := Aside0.mk MB2
  replace RD := Aside0.mk RD
  go_enter Tryz.func19, Tryz.ntmps19
  go_upto_region 1 with (fail)
  rw [← hw1]
  clear hw1
  go_wp2_with (go_at_call 23; refine OF.mono ?_; rintro e w2 ⟨rfl, B2⟩; obtain ⟨c0', c3', x0', x1', x2', x3', x4'⟩ := CEL.out w2 B2)
  clear c0 c3 x0 x1 x2 x3 x4 OF
  have RDw := fun k => RD.out w2 k B2
  go_region_held3 (fun V => V.cell? ⟨q, 0, none⟩ = some (ptr p) ∧ V.cell? ⟨w.heap.size, 1, none⟩ = some (.int .i64 tx) ∧ V.cell? ⟨w.heap.size, 2, none⟩ = some (.string s1) ∧ V.cell? ⟨w.heap.size, 3, none⟩ = some (.string s2)) (first | exact K3 | exact ⟨c0', x1', x2', x3'⟩)
    ((go_at_call 14; refine (RDw _).mono ?_; rintro e w3 ⟨rfl, hM⟩; have K3 : w3.cell? ⟨q, 0, none⟩ = some (ptr p) ∧ w3.cell? ⟨w.heap.size, 1, none⟩ = some (.int .i64 tx) ∧ w3.cell? ⟨w.heap.size, 2, none⟩ = some (.string s1) ∧ w3.cell? ⟨w.heap.size, 3, none⟩ = some (.string s2) := ⟨(MB.out _ hM).1, (MB.out _ hM).2.2.1, (MB.out _ hM).2.2.2.1, (MB.out _ hM).2.2.2.2.1⟩))
  clear K3 RDw c0' c3' x0' x1' x2' x3' x4' B2
  obtain ⟨_, x0, x1, x2, x3, x4⟩ := MB.out _ hM
  by_cases hr : r = 0
  · subst hr
    have SEEw := SEE.out rfl _ hM
    clear hM
    go_wp2_with (go_at_call 57; refine SEEw.mono ?_; rintro e w4 ⟨rfl, hM2⟩; obtain ⟨⟨y0, y1, y2, y3, y4⟩, hQ⟩ := MB2.out _ hM2)
    clear hM2
    replace hQ := Aside0.mk hQ
    go_wp2
    go_ret
    exact ⟨rfl, hQ.out⟩
  · obtain ⟨⟨u5, hu5⟩, fz5, E⟩ := END.out hr _ hM
    clear hM
    obtain ⟨V5, hV5⟩ : ∃ V5, V5 = w3.setCell ⟨g, i * 8 + 5, none⟩ (.bool true) := ⟨_, rfl⟩
    obtain ⟨⟨u3, hu3⟩, fz3, hQ⟩ := E V5 hV5
    replace hQ := Aside0.mk hQ
    clear E
    go_upto_region 49 with (fail)
    rw [← hV5]
    clear hV5
    go_wp2
    go_ret
    exact ⟨rfl, hQ.out⟩
end Go.Proofs.YthaoedfalkebbaaGreat
namespace Go.Proofs.YthaoedfalkebbaaGreat
open Go.RowKit Go.Maps Go.Sort Go.Lib Go.Shelf Go.Proofs.YthaoedfalkebbaaGreatW.PrintWords Go.Proofs.YthaoedfalkebbaaGreatW.PrintLast Go.Proofs.YthaoedfalkebbaaGreatW.PrintMore
set_option linter.unusedVariables false
set_option linter.unusedSimpArgs false
set_option linter.unusedSectionVars false
set_option maxHeartbeats 16000000 in
set_option maxRecDepth 100000 in
theorem do_scan (q p g i n c nr cr : Nat) (Ar : Option Addr) (tx last moment r : Int) (s1 s2 u : ByteArray) (w w1 : World) (hw1 : w1 = w.alloc (.cells #[.int .i64 2, .int .i64 tx, .string s1, .string s2, .string u, .int .i64 last] 36)) (M Q : World → Prop) (R : Nat → World → Prop) (hi : i < n) (hnb : n ≤ 1000000000000000) (hnr : nr ≤ 1000000000000000)
    (CEL : ∀ W, Below w1.heap.size w1 W → W.cell? ⟨q, 0, none⟩ = some (ptr p) ∧ W.cell? ⟨q, 3, none⟩ = some (.slice (some ⟨g, 0, none⟩) n c) ∧ BoxAt w.heap.size 2 tx s1 s2 u W)
    (OF : Calls Tryz.prog 23 #[ptr q, .int .i64 tx] w1 fun e w2 => e = .returned (.int .i64 i) ∧ Below w1.heap.size w1 w2)
    (RD : ∀ V k, Below w1.heap.size w1 V → Calls Tryz.prog 33 #[ptr p, .int .i64 tx, .string s1, .string s2, .string u] (V.drewN k) fun e w3 => e = .returned (.int .i64 r) ∧ M w3)
    (MB : ∀ V, M V → V.cell? ⟨q, 0, none⟩ = some (ptr p) ∧ BoxAt w.heap.size 2 tx s1 s2 u V)
    (M0 : r = 0 → ∀ V, M V → V.cell? ⟨q, 1, none⟩ = some (.slice Ar nr cr) ∧ R 0 V)
    (RND : ∀ j V, j < nr → R j V → ∃ (a : Lk) (h : Nat), Ar = some ⟨h, 0, none⟩ ∧ V.cell? ⟨h, j * 2, none⟩ = some (.string a.1) ∧ V.cell? ⟨h, j * 2 + 1, none⟩ = some (.string a.2) ∧ BoxAt w.heap.size 2 tx s1 s2 u (V.alloc (.cells #[.string a.1, .string a.2] 23)) ∧
      ((eqS a.1 s1 && inR a.2 s2 u) = true → Calls Tryz.prog 57 #[ptr q, .int .i64 i, .agg #[.string a.1, .string a.2]] (V.alloc (.cells #[.string a.1, .string a.2] 23)) fun e w3 => e = .returned (.tuple #[]) ∧ R (j + 1) w3) ∧
      ((eqS a.1 s1 && inR a.2 s2 u) = false → R (j + 1) (V.alloc (.cells #[.string a.1, .string a.2] 23))))
    (RN : ∀ V, R nr V → BoxAt w.heap.size 2 tx s1 s2 u V ∧ Q V)
    (END : r ≠ 0 → ∀ V, M V → EndAt g i moment Q V) :
    Calls Tryz.prog 19 #[ptr q, .agg #[.int .i64 2, .int .i64 tx, .string s1, .string s2, .string u, .int .i64 last], .int .i64 moment] w fun e w' => e = .returned (.int .i64 r) ∧ Q w' := by
  obtain ⟨c0, c3, x0, x1, x2, x3, x4⟩ := CEL w1 (Below.refl _ _)
  replace CEL := Aside0.mk CEL
  replace END := Aside0.mk END
  replace M0 := Aside0.mk M0
  replace MB := Aside0.mk MB
  replace RND := Aside0.mk RND
  replace RN := Aside0.mk RN
  replace RD := Aside0.mk RD
  go_enter Tryz.func19, Tryz.ntmps19
  go_upto_region 1 with (fail)
  rw [← hw1]
  clear hw1
  go_wp2_with (go_at_call 23; refine OF.mono ?_; rintro e w2 ⟨rfl, B2⟩; obtain ⟨c0', c3', x0', x1', x2', x3', x4'⟩ := CEL.out w2 B2)
  clear c0 c3 x0 x1 x2 x3 x4 OF
  have RDw := fun k => RD.out w2 k B2
  go_region_held3 (fun V => V.cell? ⟨q, 0, none⟩ = some (ptr p) ∧ V.cell? ⟨w.heap.size, 1, none⟩ = some (.int .i64 tx) ∧ V.cell? ⟨w.heap.size, 2, none⟩ = some (.string s1) ∧ V.cell? ⟨w.heap.size, 3, none⟩ = some (.string s2) ∧ V.cell? ⟨w.heap.size, 4, none⟩ = some (.string u)) (first | exact K3 | exact ⟨c0', x1', x2', x3', x4'⟩)
    ((go_at_call 33; refine (RDw _).mono ?_; rintro e w3 ⟨rfl, hM⟩; have K3 : w3.cell? ⟨q, 0, none⟩ = some (ptr p) ∧ w3.cell? ⟨w.heap.size, 1, none⟩ = some (.int .i64 tx) ∧ w3.cell? ⟨w.heap.size, 2, none⟩ = some (.string s1) ∧ w3.cell? ⟨w.heap.size, 3, none⟩ = some (.string s2) ∧ w3.cell? ⟨w.heap.size, 4, none⟩ = some (.string u) := ⟨(MB.out _ hM).1, (MB.out _ hM).2.2.1, (MB.out _ hM).2.2.2.1, (MB.out _ hM).2.2.2.2.1, (MB.out _ hM).2.2.2.2.2⟩))
  clear K3 RDw c0' c3' x0' x1' x2' x3' x4' B2
  obtain ⟨_, x0, x1, x2, x3, x4⟩ := MB.out _ hM
  by_cases hr : r = 0
  · subst hr
    obtain ⟨c1, R0⟩ := M0.out rfl _ hM
    clear hM
    go_wp2_with fail
    go_loopw [121] (fun iv wr => ∃ j : Nat, j ≤ nr ∧ iv = .int .i64 j ∧ R j wr) (fun iv _ => nr - (intOf iv).toNat)
    case atStart => exact ⟨0, Nat.zero_le _, rfl, R0⟩
    case round =>
      clear c1 R0 x0 x1 x2 x3 x4
      obtain ⟨j, hj, rfl, hR⟩ := hrel
      by_cases hjl : j < nr
      · obtain ⟨a, h, rfl, y0, y1, ⟨x0, x1, x2, x3, x4⟩, HIT, MISS⟩ := RND.out j wr hjl hR
        obtain ⟨W4, hW4⟩ : ∃ W4, W4 = wr.alloc (.cells #[.string a.1, .string a.2] 23) := ⟨_, rfl⟩
        obtain ⟨B4, hsz4, z0, z1⟩ := lk_box wr W4 a hW4
        rw [← hW4] at x0 x1 x2 x3 x4 HIT MISS
        have NEXT : ∀ V, R (j + 1) V → (∃ j' : Nat, j' ≤ nr ∧ Value.int .i64 ((j : Int) + 1) = .int .i64 j' ∧ R j' V) ∧ nr - (intOf (.int .i64 ((j : Int) + 1))).toNat < nr - (intOf (.int .i64 (j : Int))).toNat := fun V hV => ⟨⟨j + 1, hjl, by push_cast; rfl, hV⟩, by simp [intOf]; omega⟩
        replace NEXT := Aside0.mk NEXT
        clear hR
        unfold eqS inR at HIT MISS
        go_upto_region 24 with (fail)
        rw [← hW4]
        clear hW4 y0 y1 B4
        have hle := leq_less s2.toList a.2.toList
        have hem : (u.toList == []) = u.toList.isEmpty := isEmpty_eq _
        cases e1 : (a.1.toList == s1.toList) with
        | false =>
          rw [e1] at MISS
          replace MISS := Aside0.mk (MISS rfl)
          clear HIT
          go_wp2
          exact NEXT.out _ MISS.out
        | true =>
          rw [e1] at MISS HIT
          cases e2 : Op.bytesLess a.2.toList s2.toList with
          | true =>
            rw [e2] at MISS hle
            replace MISS := Aside0.mk (MISS rfl)
            clear HIT
            go_wp2
            exact NEXT.out _ MISS.out
          | false =>
            rw [e2] at MISS HIT hle
            cases e3 : u.toList.isEmpty with
            | true =>
              rw [hem, e3] at HIT
              replace HIT := HIT rfl
              clear MISS
              go_wp2_with (go_at_call 57; refine HIT.mono ?_; rintro e w4 ⟨rfl, hR2⟩)
              exact NEXT.out _ hR2
            | false =>
              rw [hem, e3] at HIT MISS
              cases e4 : Op.bytesLess a.2.toList u.toList with
              | true =>
                rw [e4] at HIT
                replace HIT := HIT rfl
                clear MISS
                go_wp2_with (go_at_call 57; refine HIT.mono ?_; rintro e w4 ⟨rfl, hR2⟩)
                exact NEXT.out _ hR2
              | false =>
                rw [e4] at MISS
                replace MISS := Aside0.mk (MISS rfl)
                clear HIT
                go_wp2
                exact NEXT.out _ MISS.out
      · obtain rfl : j = nr := by omega
        obtain ⟨⟨x0, x1, x2, x3, x4⟩, hQ⟩ := RN.out _ hR
        replace hQ := Aside0.mk hQ
        clear hR
        go_wp2
        go_ret
        exact ⟨rfl, hQ.out⟩
  · obtain ⟨⟨u5, hu5⟩, fz5, E⟩ := END.out hr _ hM
    clear hM
    obtain ⟨V5, hV5⟩ : ∃ V5, V5 = w3.setCell ⟨g, i * 8 + 5, none⟩ (.bool true) := ⟨_, rfl⟩
    obtain ⟨⟨u3, hu3⟩, fz3, hQ⟩ := E V5 hV5
    replace hQ := Aside0.mk hQ
    clear E
    go_upto_region 49 with (fail)
    rw [← hV5]
    clear hV5
    go_wp2
    go_ret
    exact ⟨rfl, hQ.out⟩
end Go.Proofs.YthaoedfalkebbaaGreat
