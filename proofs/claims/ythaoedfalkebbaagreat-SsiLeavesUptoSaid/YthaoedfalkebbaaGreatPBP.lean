/- Cut by a program out of the seat's texts (RT RU RW RX): what the theorem needs, one behind the other. -/
import Derived.Test.YthaoedfalkebbaaGreatPBO
import Derived.Test.YthaoedfalkebbaaGreatPBN
import Derived.Test.YthaoedfalkebbaaGreatPBK
namespace Go.Proofs.YthaoedfalkebbaaGreat
open Go.RowKit Go.Maps Go.Sort Go.Lib Go.Shelf Go.Proofs.YthaoedfalkebbaaGreatW.PrintWords Go.Proofs.YthaoedfalkebbaaGreatW.PrintLast Go.Proofs.YthaoedfalkebbaaGreatW.PrintMore
set_option linter.unusedVariables false
set_option linter.unusedSimpArgs false
set_option linter.unusedSectionVars false
section
variable {w w' : World} {base q p : Nat} {F U : Nat → Prop} {W : Wld St} {rv vv lv : Value} {xs : List Rx} {K N : Int}
def scanT (W : Wld St) (o : Opn) (x : Run) (j : Nat) : Run := ((W.rows.take j).filter (fun a => eqS a.1 o.at_.1 && inR a.2 o.at_.2 o.to_)).foldl (sees W.vers) x
theorem scanT_succ (W : Wld St) (o : Opn) (x : Run) (j : Nat) (a : Lk) (h : W.rows[j]? = some a) : scanT W o x (j + 1) = if (eqS a.1 o.at_.1 && inR a.2 o.at_.2 o.to_) = true then sees W.vers (scanT W o x j) a else scanT W o x j := by
  unfold scanT
  rw [List.take_add_one, h, List.filter_append, List.foldl_append]
  simp only [Option.toList_some, List.filter_cons, List.filter_nil]
  split <;> rfl
theorem scanT_len (W : Wld St) (o : Opn) (x : Run) : ∀ j, (scanT W o x j).reads.length ≤ x.reads.length + j ∧ (scanT W o x j).writes = x.writes
  | 0 => ⟨by show x.reads.length ≤ _; omega, rfl⟩
  | j + 1 => by
    obtain ⟨h1, h2⟩ := scanT_len W o x j
    rcases hc : W.rows[j]? with _ | a
    · have : scanT W o x (j + 1) = scanT W o x j := by
        unfold scanT
        rw [List.take_add_one, hc]
        simp
      rw [this]
      exact ⟨by omega, h2⟩
    · rw [scanT_succ W o x j a hc]
      split
      · obtain ⟨h3, h4⟩ := sees_len W.vers (scanT W o x j) a
        exact ⟨by omega, h4.trans h2⟩
      · exact ⟨by omega, h2⟩
theorem do_scan_s (h : Wm w base q p F U W rv vv lv xs) (hC : Cap W.m K N) (o : Opn) (ho : o.OK) (m : Int) (hkd : o.kind = 2) (hxl : xs.length ≤ 2000000000000) (hvl : W.vers.length ≤ 2000000000000) (hrw : W.rows.length ≤ 2000000000000) {i : Nat} {x : Rx} (hx : xs[i]? = some x) (hof : ofR W.list o.tx = (i : Int)) (hrl : x.1.reads.length + W.rows.length ≤ 2000000000000) (hwl : x.1.writes.length ≤ 2000000000000) :
    Calls Tryz.prog 19 #[ptr q, .agg #[.int .i64 o.kind, .int .i64 o.tx, .string o.at_.1, .string o.at_.2, .string o.to_, .int .i64 o.last], .int .i64 m] w fun e w' => e = .returned (.int .i64 (W.step (iS W.m.caps.reads) o m).1) ∧ DoQ base q p U rv w (W.step (iS W.m.caps.reads) o m).2 w' := by
  have hi := (List.getElem?_eq_some_iff.1 hx).1
  have hlx := h.list_at hx
  obtain ⟨A, c, hlv, hlc, hA⟩ := h.list.slice
  obtain ⟨g, rfl, _⟩ := hA (by omega)
  obtain ⟨Ar, cr, hrv, _, hAr⟩ := h.rows.slice
  have hst := step_op (I := iS W.m.caps.reads) (m := m) (by omega) hof hlx
  have hop : W.opAt (iS W.m.caps.reads) o i x.1 = ((W.m.scan (iS W.m.caps.reads) o.tx o.at_.1 o.at_.2 o.to_).1, { W with m := (W.m.scan (iS W.m.caps.reads) o.tx o.at_.1 o.at_.2 o.to_).2, list := if (W.m.scan (iS W.m.caps.reads) o.tx o.at_.1 o.at_.2 o.to_).1 = 0 then W.list.set i (scanT W o x.1 W.rows.length) else W.list }) := by
    unfold Wld.opAt scanT
    rw [if_neg (by omega), if_pos hkd, List.take_length]
  obtain ⟨w1, hw1⟩ : ∃ w1, w1 = w.alloc (.cells #[.int .i64 o.kind, .int .i64 o.tx, .string o.at_.1, .string o.at_.2, .string o.to_, .int .i64 o.last] 36) := ⟨_, rfl⟩
  have M0 := MA.start h o hw1
  have hr1 : (W.step (iS W.m.caps.reads) o m).1 = (W.m.scan (iS W.m.caps.reads) o.tx o.at_.1 o.at_.2 o.to_).1 := by
    rw [hst]
    split <;> rw [hop]
  rw [hr1]
  have OF := M0.of hxl o.tx
  rw [hof] at OF
  have hE : (W.m.scan (iS W.m.caps.reads) o.tx o.at_.1 o.at_.2 o.to_).1 ≠ 0 → (W.step (iS W.m.caps.reads) o m).2 = { ({ W with m := (W.m.scan (iS W.m.caps.reads) o.tx o.at_.1 o.at_.2 o.to_).2 } : Wld St) with list := W.list.modify i (fun x => overR x m) } := fun hr => by
    rw [hst, hop, if_pos (.inl hr)]
    dsimp only
    rw [if_neg hr]
  have hG : (W.m.scan (iS W.m.caps.reads) o.tx o.at_.1 o.at_.2 o.to_).1 = 0 → (W.step (iS W.m.caps.reads) o m).2 = { W with m := (W.m.scan (iS W.m.caps.reads) o.tx o.at_.1 o.at_.2 o.to_).2, list := W.list.set i (scanT W o x.1 W.rows.length) } := fun hr => by
    rw [hst, hop, if_neg (by dsimp only; omega)]
    dsimp only
    rw [if_pos hr]
  rw [hkd] at hw1 ⊢
  let S' := (W.m.scan (iS W.m.caps.reads) o.tx o.at_.1 o.at_.2 o.to_).2
  let R : Nat → World → Prop := fun j V => (W.m.scan (iS W.m.caps.reads) o.tx o.at_.1 o.at_.2 o.to_).1 = 0 ∧ ∃ v5, MA w base q p F U { W with m := S', list := W.list.set i (scanT W o x.1 j) } rv vv lv (xs.set i (scanT W o x.1 j, v5, x.2.2)) o V
  refine do_scan q p g i xs.length c W.rows.length cr Ar o.tx o.last m (W.m.scan (iS W.m.caps.reads) o.tx o.at_.1 o.at_.2 o.to_).1 o.at_.1 o.at_.2 o.to_ w w1 hw1 (MA w base q p F U { W with m := S' } rv vv lv xs o) _ R hi (by omega) (by omega) ?_ OF ?_ ?_ ?_ ?_ ?_ ?_
  · intro V B
    have H := M0.below B
    have c3 := H.1.cell.2.2.2.1
    rw [hlv] at c3
    have b := H.box
    rw [hkd] at b
    exact ⟨H.pcell, c3, b⟩
  · intro V k B
    have H := (M0.below B).below (drewB2 V k)
    refine (H.1.m.scan H.1.top hC ho.tx ho.at_.t ho.at_.k ho.to_).mono ?_
    rintro e w3 ⟨rfl, hM, hK⟩
    exact ⟨rfl, H.go hM hK⟩
  · intro V H
    have b := H.box
    rw [hkd] at b
    exact ⟨H.pcell, b⟩
  · intro hr V H
    have c1 := H.1.cell.2.1
    rw [hrv] at c1
    refine ⟨c1, hr, x.2.1, ?_⟩
    have e : scanT W o x.1 0 = x.1 := rfl
    rw [e, show (x.1, x.2.1, x.2.2) = x from rfl, set_same hx, set_same hlx]
    exact H
  · rintro j V hj ⟨hr, v5, H⟩
    obtain ⟨h', rfl, _⟩ := hAr (by omega)
    have ha : W.rows[j]? = some W.rows[j] := List.getElem?_eq_getElem hj
    have hs := scanT_succ W o x.1 j _ ha
    have hln := scanT_len W o x.1 j
    have hR := H.1.rows
    rw [hrv] at hR
    obtain ⟨y0, y1⟩ := RowL.at hR j _ ha
    generalize W.rows[j] = a at ha hs y0 y1
    have B4 := allocB V (.cells #[.string a.1, .string a.2] 23)
    have H4 := H.below B4
    have b := H4.box
    rw [hkd] at b
    refine ⟨a, h', rfl, y0, y1, b, fun hh => ?_, fun hh => ?_⟩
    · rw [if_pos hh] at hs
      have hx4 : (xs.set i (scanT W o x.1 j, v5, x.2.2))[i]? = some (scanT W o x.1 j, v5, x.2.2) := by rw [List.getElem?_set, if_pos rfl, if_pos hi]
      refine (sees_calls H4.1 hx4 a (by dsimp only; omega) (by dsimp only; rw [hln.2]; exact hwl) hvl (by rw [List.length_set]; exact hxl)).mono ?_
      rintro e w3 ⟨rfl, v6, H5, K5⟩
      refine ⟨rfl, hr, v6, ?_⟩
      have M5 := H4.next H5 K5
      dsimp only at M5
      rw [List.set_set, List.set_set, ← hs] at M5
      exact M5
    · rw [if_neg (by rw [hh]; simp)] at hs
      exact ⟨hr, v5, by rw [hs]; exact H4⟩
  · rintro V ⟨hr, v5, H⟩
    have b := H.box
    rw [hkd] at b
    refine ⟨b, ?_⟩
    rw [hG hr]
    exact ⟨F, vv, lv, _, H.1, H.2.1⟩
  · intro hr V H
    exact end_at H.1 H.2.1 hx hlv m (hE hr)
theorem do_write_s (h : Wm w base q p F U W rv vv lv xs) (hC : Cap W.m K N) (o : Opn) (ho : o.OK) (m : Int) (hkd : o.kind = 3) (hxl : xs.length ≤ 2000000000000) (hvl : W.vers.length ≤ 2000000000000) {i : Nat} {x : Rx} (hx : xs[i]? = some x) (hof : ofR W.list o.tx = (i : Int)) (hwl : x.1.writes.length ≤ 2000000000000) :
    Calls Tryz.prog 19 #[ptr q, .agg #[.int .i64 o.kind, .int .i64 o.tx, .string o.at_.1, .string o.at_.2, .string o.to_, .int .i64 o.last], .int .i64 m] w fun e w' => e = .returned (.int .i64 (W.step (iS W.m.caps.reads) o m).1) ∧ DoQ base q p U rv w (W.step (iS W.m.caps.reads) o m).2 w' := by
  have hi := (List.getElem?_eq_some_iff.1 hx).1
  have hlx := h.list_at hx
  have hmem : x ∈ xs := List.mem_of_getElem? hx
  obtain ⟨A, c, hlv, hlc, hA⟩ := h.list.slice
  obtain ⟨g, rfl, _⟩ := hA (by omega)
  obtain ⟨Av, cv, hvv, _, hAv⟩ := h.vers.slice
  obtain ⟨Aw, cw, hwv, _, hAw⟩ := (h.wr x hmem).slice
  have hst := step_op (I := iS W.m.caps.reads) (m := m) (by omega) hof hlx
  obtain ⟨r, S', hrS⟩ : ∃ r S', (r, S') = W.m.write (iS W.m.caps.reads) o.tx o.at_ (lastNum W.vers o.at_) := ⟨_, _, rfl⟩
  have hop : W.opAt (iS W.m.caps.reads) o i x.1 = (r, { W with m := S', list := if r = 0 ∧ o.at_ ∉ x.1.writes then W.list.set i { x.1 with writes := x.1.writes ++ [o.at_] } else W.list }) := by
    unfold Wld.opAt
    rw [if_neg (by omega), if_neg (by omega), if_pos hkd]
    show ((W.m.write (iS W.m.caps.reads) o.tx o.at_ (lastNum W.vers o.at_)).1, { W with m := (W.m.write (iS W.m.caps.reads) o.tx o.at_ (lastNum W.vers o.at_)).2, list := if (W.m.write (iS W.m.caps.reads) o.tx o.at_ (lastNum W.vers o.at_)).1 = 0 ∧ o.at_ ∉ x.1.writes then W.list.set i { x.1 with writes := x.1.writes ++ [o.at_] } else W.list }) = _
    rw [← hrS]
  obtain ⟨w1, hw1⟩ : ∃ w1, w1 = w.alloc (.cells #[.int .i64 o.kind, .int .i64 o.tx, .string o.at_.1, .string o.at_.2, .string o.to_, .int .i64 o.last] 36) := ⟨_, rfl⟩
  have M0 := MA.start h o hw1
  have hr1 : (W.step (iS W.m.caps.reads) o m).1 = r := by
    rw [hst]
    split <;> rw [hop]
  rw [hr1]
  have OF := M0.of hxl o.tx
  rw [hof] at OF
  have hE : r ≠ 0 → (W.step (iS W.m.caps.reads) o m).2 = { ({ W with m := S' } : Wld St) with list := W.list.modify i (fun x => overR x m) } := fun hr => by
    rw [hst, hop, if_pos (.inl hr)]
    dsimp only
    rw [if_neg (by omega)]
  have hG : r = 0 → o.at_ ∉ x.1.writes → (W.step (iS W.m.caps.reads) o m).2 = { W with m := S', list := W.list.set i { x.1 with writes := x.1.writes ++ [o.at_] } } := fun hr hn => by
    rw [hst, hop, if_neg (by dsimp only; omega)]
    dsimp only
    rw [if_pos ⟨hr, hn⟩]
  have hI : r = 0 → o.at_ ∈ x.1.writes → (W.step (iS W.m.caps.reads) o m).2 = { W with m := S' } := fun hr hn => by
    rw [hst, hop, if_neg (by dsimp only; omega)]
    dsimp only
    rw [if_neg (fun e => e.2 hn)]
  rw [hkd] at hw1 ⊢
  refine do_write q p g i xs.length c x.1.writes.length cw W.vers.length cv Aw Av o.tx o.last m r (lastNum W.vers o.at_) (newest W.vers o.at_ 4611686018427387904) o.at_.1 o.at_.2 o.to_ (decide (o.at_ ∈ x.1.writes)) w w1 hw1 (MA w base q p F U { W with m := S' } rv vv lv xs o) (DoQ base q p U rv w (W.step (iS W.m.caps.reads) o m).2) hi (by omega) (by omega) ?_ OF ?_ ?_ ?_ ?_ ?_ ?_ ?_ ?_ ?_ ?_ ?_
  · intro V B
    have H := M0.below B
    have c3 := H.1.cell.2.2.2.1
    rw [hlv] at c3
    have b := H.box
    rw [hkd] at b
    exact ⟨H.pcell, c3, b⟩
  · intro V B
    have H := M0.below B
    refine (newest_calls base q vv W.vers o.at_ _ V H.1.cell.2.2.1 H.1.vers (by omega)).mono ?_
    rintro e w3 ⟨rfl, B3⟩
    exact ⟨rfl, below_then B B.size B3⟩
  · intro hn0
    rcases newest_cases W.vers o.at_ 4611686018427387904 with ⟨e, _⟩ | ⟨k, u, e, hu, _, _⟩
    · omega
    · have hk := (List.getElem?_eq_some_iff.1 hu).1
      obtain ⟨h', rfl, _⟩ := hAv (by omega)
      refine ⟨h', k, rfl, e, hk, fun V B => ?_⟩
      have H := M0.below B
      have c2 := H.1.cell.2.2.1
      have hV := H.1.vers
      rw [hvv] at c2 hV
      refine ⟨c2, ?_⟩
      have := (RowV.at hV k u hu).2.2.1
      rw [this]
      unfold lastNum
      rw [if_pos hn0, e, Int.toNat_natCast, hu]
      rfl
  · intro hn0
    unfold lastNum
    rw [if_neg (by omega)]
  · intro V k B
    have H := (M0.below B).below (drewB2 V k)
    refine (H.1.m.write H.1.top hC ho.tx ho.at_ (lastNum W.vers o.at_)).mono ?_
    rintro e w3 ⟨he, hM, hK⟩
    rw [← hrS] at he hM
    exact ⟨he, H.go hM hK⟩
  · intro V H
    have b := H.box
    rw [hkd] at b
    exact ⟨H.pcell, b⟩
  · intro V H
    exact H.below (drewB1 V)
  · rintro V ⟨F', vv', lv', xs', H, hk⟩
    exact ⟨F', vv', lv', xs', H.drew, hk.drew H.m.size⟩
  · intro hr V H
    have hl := H.1.list
    rw [hlv] at hl
    obtain ⟨_, _, _, _, _, _, _, y7⟩ := RowX.at hl i x hx
    rw [hwv] at y7
    refine ⟨y7, fun k => ?_⟩
    have H2 := H.below (drewB2 V k)
    have hw := H2.1.wr x hmem
    rw [hwv] at hw
    refine (has_calls base _ x.1.writes o.at_ _ hw (by omega)).mono ?_
    rintro e w3 ⟨rfl, B3⟩
    exact ⟨rfl, H2.below B3⟩
  · intro hr hb V H
    exact ⟨F, vv, lv, xs, by rw [hI hr (of_decide_eq_true hb)]; exact H.1, H.2.1⟩
  · intro hr hb V H
    have hl := H.1.list
    rw [hlv] at hl
    obtain ⟨gc, hg⟩ := hl.blk
    obtain ⟨_, _, _, _, _, _, _, y7⟩ := RowX.at hl i x hx
    rw [hwv] at y7
    have hwx := H.1.wr x hmem
    obtain ⟨v5, w5, hrun, L5, g5, hown⟩ := Lo.append2 (P := Tryz.prog) hwx (fun _ => rfl) oneLk 46 46 _ 32 Tryz.underlying46 Lck.info23 rfl (by decide) (by decide) o.at_ (by omega) H.1.m.size
    have F5 : Fr (fun k => x.2.2.ownBlock = some k) V w5 := Fr.grown g5
    have hgR : x.2.2.ownBlock ≠ some g := lo_kind hwx hg (by decide)
    have hbR : x.2.2.ownBlock ≠ some w.heap.size := lo_kind hwx H.2.2 (by decide)
    obtain ⟨H6, K6⟩ := H.1.setWr hx hlv L5 rfl F5 hown (fun b hb => (L5.typed b hb).2.1)
    have M6 := H.next H6 K6
    obtain ⟨A5, c5, e5, _⟩ := L5.slice
    rw [e5] at hrun M6 H6 K6
    rw [hwv] at hrun
    have b := M6.box
    rw [hkd] at b
    have bx := H.box
    obtain ⟨_, _, x2, x3, _⟩ := bx
    refine ⟨y7, A5, _, c5, w5, hrun, F5.cell y7 hgR, F5.cell x2 hbR, F5.cell x3 hbR, blk_frozen (F5.block g _ hgR hg) _, b, ?_⟩
    rw [hG hr (of_decide_eq_false hb)]
    exact ⟨_, vv, lv, _, H6, M6.2.1⟩
  · intro hr V H
    exact end_at H.1 H.2.1 hx hlv m (hE hr)
end
end Go.Proofs.YthaoedfalkebbaaGreat
namespace Go.Proofs.YthaoedfalkebbaaGreat
open Go.RowKit Go.Maps Go.Sort Go.Lib Go.Shelf Go.Proofs.YthaoedfalkebbaaGreatW.PrintWords Go.Proofs.YthaoedfalkebbaaGreatW.PrintLast Go.Proofs.YthaoedfalkebbaaGreatW.PrintMore
set_option linter.unusedVariables false
set_option linter.unusedSimpArgs false
set_option linter.unusedSectionVars false
theorem Lo.append3 {P : Program} {α : Type} {enc : α → List Value} {k e base : Nat} {w : World} {v : Value} {xs : List α} (h : Lo enc k e w base v xs) (hn : ∀ x, (enc x).length = k) (t ty : TypeId) (z : Value) (bytes : Nat) (ht : P.underlying t = some (.slice e)) (hinfo : (P.info? e).map (fun i => (i.zero, i.size, i.bytes)) = some (some z, k, bytes)) (hzs : z.cells.size = k) (hk : 0 < k) (hb0 : 0 < bytes)
    (x : α) (h1c : ∀ u ∈ enc x, u.oneCell' = true) (hbytes : (xs.length + 1) * bytes ≤ 140737488355328) (hbase : base ≤ w.heap.size) :
    ∃ v' w', (Builtin.append_ #[t, t] ty #[v, .slice (some ⟨w.heap.size, 0, none⟩) 1 1]).run P (w.alloc (.cells (enc x).toArray e)) = .ok v' w' ∧ Lo enc k e w' base v' (xs ++ [x]) ∧ w.grownBy w' v.ownBlock ∧ ∀ b, v'.ownBlock = some b → v.ownBlock = some b ∨ w.heap.size ≤ b := by
  have hw := h.grown (World.grownBy_alloc w (.cells (enc x).toArray e) none) (fun b e => by cases e)
  obtain ⟨inner, h1, h2⟩ := hw
  obtain ⟨i0, hi0, hzz⟩ := Option.map_eq_some_iff.1 hinfo
  simp only [Prod.mk.injEq] at hzz
  obtain ⟨hz0, hz1, hz2⟩ := hzz
  have hlen : xs.length + 1 ≤ 140737488355328 := Nat.le_trans (Nat.le_mul_of_pos_right _ hb0) hbytes
  obtain ⟨v', w', hr, ho, hg, hb⟩ := l_append2 (P := P) (w.alloc (.cells (enc x).toArray e)) base t ty e i0 z k bytes ht hi0 hz0 hz1 hz2 hzs hk v xs.length inner h1 ⟨w.heap.size, 0, none⟩ 1 1 (enc x) (by rw [hn, Nat.one_mul])
    (by simpa using World.news_of_block (cs := (enc x).toArray) (t := e) (fr := (0, 0)) (heap_alloc_new w (.cells (enc x).toArray e))) h1c (by omega) (by simp only [maxLen]; omega) hbytes (by simp; omega)
  refine ⟨v', w', hr, ⟨_, by rw [List.length_append]; exact ho, h2.snoc rfl (hn x)⟩, trans_grown (World.grownBy_alloc w _ _) hg, fun b h => by rcases hb b h with h1 | h1; exact .inl h1; exact .inr (by simp at h1; omega)⟩
theorem info57 : (Tryz.prog.info? 57).map (fun i => (i.zero, i.size, i.bytes)) = some (some (.agg #[.int .i64 0, .int .i64 0, .int .i64 0, .int .i64 0, .bool false, .bool false, .slice none 0 0, .slice none 0 0]), 8, 88) := by kernel_rfl
section
variable {w w' : World} {base q p : Nat} {F U : Nat → Prop} {W : Wld St} {rv vv lv : Value} {xs : List Rx} {K N : Int}
theorem do_commit_s (h : Wm w base q p F U W rv vv lv xs) (hC : Cap W.m K N) (hK : K ≤ 2305843009213693951) (hN : N ≤ 2305843009213693951) (o : Opn) (ho : o.OK) (m : Int) (hkd : o.kind = 4) (hbd : W.bad = false) (hbd' : (W.step (iS W.m.caps.reads) o m).2.bad = false) (hxl : xs.length ≤ 2000000000000) {i : Nat} {x : Rx} (hx : xs[i]? = some x) (hof : ofR W.list o.tx = (i : Int)) (hvw : W.vers.length + x.1.writes.length ≤ 2000000000000) :
    Calls Tryz.prog 19 #[ptr q, .agg #[.int .i64 o.kind, .int .i64 o.tx, .string o.at_.1, .string o.at_.2, .string o.to_, .int .i64 o.last], .int .i64 m] w fun e w' => e = .returned (.int .i64 (W.step (iS W.m.caps.reads) o m).1) ∧ DoQ base q p U rv w (W.step (iS W.m.caps.reads) o m).2 w' := by
  have hi := (List.getElem?_eq_some_iff.1 hx).1
  have hlx := h.list_at hx
  have hmem : x ∈ xs := List.mem_of_getElem? hx
  obtain ⟨A, c, hlv, hlc, hA⟩ := h.list.slice
  obtain ⟨g, rfl, _⟩ := hA (by omega)
  obtain ⟨Aw, cw, hwv, _, hAw⟩ := (h.wr x hmem).slice
  have hst := step_op (I := iS W.m.caps.reads) (m := m) (by omega) hof hlx
  obtain ⟨num, r, S', hrS⟩ : ∃ num r S', ((num, r), S') = W.m.commit (iS W.m.caps.reads) o.tx := ⟨_, _, _, rfl⟩
  have hop : W.opAt (iS W.m.caps.reads) o i x.1 = if r = 0 then (0, ⟨S', W.rows, commitV W.vers x.1.writes num i, W.list.set i { x.1 with committed := true }, W.bad || (num != (if x.1.writes = [] then W.m.now else W.m.now + 1) || S'.now != (if x.1.writes = [] then W.m.now else W.m.now + 1))⟩) else (r, { W with m := S' }) := by
    unfold Wld.opAt
    rw [if_neg (by omega), if_neg (by omega), if_neg (by omega), if_pos hkd, ← hrS]
  rw [if_pos (.inr (.inl hkd)), hop] at hst
  have hr1 : (W.step (iS W.m.caps.reads) o m).1 = r := by
    rw [hst]
    by_cases hr : r = 0
    · rw [if_pos hr, hr]
    · rw [if_neg hr]
  have hE : r ≠ 0 → (W.step (iS W.m.caps.reads) o m).2 = { ({ W with m := S' } : Wld St) with list := W.list.modify i (fun x => overR x m) } := fun hr => by
    rw [hst, if_neg hr]
  have hW : r = 0 → num = (if x.1.writes.length = 0 then W.m.now else W.m.now + 1) ∧ S'.now = num := fun hr => by
    rw [hst, if_pos hr] at hbd'
    dsimp only at hbd'
    simp only [Bool.or_eq_false_iff, bne_eq_false_iff_eq] at hbd'
    obtain ⟨_, h1, h2⟩ := hbd'
    have e : (if x.1.writes = [] then W.m.now else W.m.now + 1) = if x.1.writes.length = 0 then W.m.now else W.m.now + 1 := by
      by_cases e : x.1.writes = []
      · rw [if_pos e, if_pos (by rw [e]; rfl)]
      · rw [if_neg e, if_neg (fun h => e (List.eq_nil_of_length_eq_zero h))]
    rw [e] at h1 h2
    exact ⟨h1, by rw [h2, h1]⟩
  have hG : r = 0 → (W.step (iS W.m.caps.reads) o m).2 = { (⟨S', W.rows, commitV W.vers x.1.writes num i, W.list.set i { x.1 with committed := true }, false⟩ : Wld St) with list := (W.list.set i { x.1 with committed := true }).modify i (fun x => overR x m) } := fun hr => by
    have hbd2 := hbd'
    rw [hst, if_pos hr] at hbd2 ⊢
    dsimp only at hbd2 ⊢
    rw [hbd2]
  rw [hr1]
  obtain ⟨w1, hw1⟩ : ∃ w1, w1 = w.alloc (.cells #[.int .i64 o.kind, .int .i64 o.tx, .string o.at_.1, .string o.at_.2, .string o.to_, .int .i64 o.last] 36) := ⟨_, rfl⟩
  have M0 := MA.start h o hw1
  have OF := M0.of hxl o.tx
  rw [hof] at OF
  rw [hkd] at hw1 ⊢
  have hnow := hC.now
  refine do_commit q p g i xs.length c x.1.writes.length cw Aw o.tx o.last m r num W.m.now o.at_.1 o.at_.2 o.to_ w w1 hw1 (MA w base q p F U { W with m := S' } rv vv lv xs o) (MA w base q p F U ⟨S', W.rows, W.vers, W.list, false⟩ rv vv lv xs o)
    (fun V => ∃ vv', MA w base q p F U ⟨S', W.rows, commitV W.vers x.1.writes num i, W.list.set i { x.1 with committed := true }, false⟩ rv vv' lv (xs.set i ({ x.1 with committed := true }, x.2.1, x.2.2)) o V) (DoQ base q p U rv w (W.step (iS W.m.caps.reads) o m).2) hi (by omega) (by omega) ?_ OF ?_ ?_ ?_ (fun hr => (hW hr).1) ?_ ?_ ?_ ?_
  · intro V B
    have H := M0.below B
    have c3 := H.1.cell.2.2.2.1
    rw [hlv] at c3
    have b := H.box
    rw [hkd] at b
    exact ⟨H.pcell, c3, b⟩
  · intro V B
    have H := M0.below B
    exact H.1.m.now
  · intro V k B
    have H := (M0.below B).below (drewB2 V k)
    refine (H.1.m.commit H.1.top hC ho.tx H.1.Flt hK hN).mono ?_
    rintro e w3 ⟨he, hM, hK⟩
    rw [← hrS] at he hM
    exact ⟨he, H.go hM hK⟩
  · intro V H
    have b := H.box
    rw [hkd] at b
    exact ⟨H.pcell, b⟩
  · intro hr V H
    have hl := H.1.list
    rw [hlv] at hl
    obtain ⟨_, _, _, _, _, _, _, y7⟩ := RowX.at hl i x hx
    rw [hwv] at y7
    obtain ⟨H2, K2⟩ := H.1.setBad false
    have c4 := H.1.cell.2.2.2.2
    rw [show ({ W with m := S' } : Wld St).bad = false from hbd] at c4
    have N1 := H.1.m.now
    rw [show ({ W with m := S' } : Wld St).m.now = num from (hW hr).2] at N1
    exact ⟨y7, c4, blk_frozen H.1.cells _, N1, H.next H2 K2⟩
  · intro hr V H
    refine (commit_calls H.1 hx num hvw hxl).mono ?_
    rintro e w3 ⟨rfl, vv', H3, K3⟩
    exact ⟨rfl, vv', H.next H3 K3⟩
  · rintro hr V ⟨vv', H⟩
    have b := H.box
    rw [hkd] at b
    have hx' : (xs.set i (({ x.1 with committed := true } : Run), x.2.1, x.2.2))[i]? = some ({ x.1 with committed := true }, x.2.1, x.2.2) := by rw [List.getElem?_set, if_pos rfl, if_pos hi]
    exact ⟨b, end_at H.1 H.2.1 hx' hlv m (hG hr)⟩
  · intro hr V H
    exact end_at H.1 H.2.1 hx hlv m (hE hr)
theorem do_begin_s (h : Wm w base q p F U W rv vv lv xs) (hC : Cap W.m K N) (hK : K ≤ 2305843009213693951) (o : Opn) (ho : o.OK) (m : Int) (hkd : o.kind = 0) (hbd : W.bad = false) (hbd' : (W.step (iS W.m.caps.reads) o m).2.bad = false) (hxl : xs.length ≤ 1000000000000) :
    Calls Tryz.prog 19 #[ptr q, .agg #[.int .i64 o.kind, .int .i64 o.tx, .string o.at_.1, .string o.at_.2, .string o.to_, .int .i64 o.last], .int .i64 m] w fun e w' => e = .returned (.int .i64 (W.step (iS W.m.caps.reads) o m).1) ∧ DoQ base q p U rv w (W.step (iS W.m.caps.reads) o m).2 w' := by
  obtain ⟨A, c, hlv, hlc, hA⟩ := h.list.slice
  obtain ⟨num, s, r, S', hrS⟩ : ∃ num s r S', ((num, s, r), S') = W.m.begin := ⟨_, _, _, _, rfl⟩
  have hst : W.step (iS W.m.caps.reads) o m = if r = 0 then (0, { W with m := S', list := W.list ++ [⟨num, s, m, 0, false, false, [], []⟩], bad := W.bad || s != S'.now }) else (r, { W with m := S' }) := by
    unfold Wld.step
    rw [if_pos hkd, ← hrS]
  have hr1 : (W.step (iS W.m.caps.reads) o m).1 = r := by
    rw [hst]
    by_cases hr : r = 0
    · rw [if_pos hr, hr]
    · rw [if_neg hr]
  have hE : r ≠ 0 → (W.step (iS W.m.caps.reads) o m).2 = { W with m := S' } := fun hr => by
    rw [hst, if_neg hr]
  have hW : r = 0 → S'.now = s := fun hr => by
    rw [hst, if_pos hr] at hbd'
    dsimp only at hbd'
    simp only [Bool.or_eq_false_iff, bne_eq_false_iff_eq] at hbd'
    exact hbd'.2.symm
  have hG : r = 0 → (W.step (iS W.m.caps.reads) o m).2 = { W with m := S', list := W.list ++ [⟨num, s, m, 0, false, false, [], []⟩], bad := false } := fun hr => by
    have hbd2 := hbd'
    rw [hst, if_pos hr] at hbd2 ⊢
    dsimp only at hbd2 ⊢
    rw [hbd2]
  rw [hr1]
  obtain ⟨w1, hw1⟩ : ∃ w1, w1 = w.alloc (.cells #[.int .i64 o.kind, .int .i64 o.tx, .string o.at_.1, .string o.at_.2, .string o.to_, .int .i64 o.last] 36) := ⟨_, rfl⟩
  have M0 := MA.start h o hw1
  rw [hkd] at hw1 ⊢
  have b0 := M0.box
  rw [hkd] at b0
  refine do_begin q p xs.length c A o.tx o.last m r num s o.at_.1 o.at_.2 o.to_ w w1 hw1 (MA w base q p F U { W with m := S' } rv vv lv xs o)
    (fun V => ∃ lv', MA w base q p F U { W with m := S', list := W.list ++ [⟨num, s, m, 0, false, false, [], []⟩] } rv vv lv' (xs ++ [(⟨num, s, m, 0, false, false, [], []⟩, .slice none 0 0, .slice none 0 0)]) o V) (DoQ base q p U rv w (W.step (iS W.m.caps.reads) o m).2) M0.pcell b0.1 ?_ ?_ ?_ ?_
  · refine (M0.1.m.begin M0.1.top hC hK).mono ?_
    rintro e w3 ⟨he, hM, hK⟩
    rw [← hrS] at he hM
    exact ⟨he, M0.go hM hK⟩
  · intro hr V H
    exact ⟨F, vv, lv, xs, by rw [hE hr]; exact H.1, H.2.1⟩
  · intro hr V H
    have c3 := H.1.cell.2.2.2.1
    rw [hlv] at c3
    obtain ⟨v5, w5, hrun, L5, g5, hown⟩ := Lo.append3 (P := Tryz.prog) H.1.list (fun _ => rfl) 48 48 _ 88 Tryz.underlying48 info57 rfl (by decide) (by decide) (⟨num, s, m, 0, false, false, [], []⟩, .slice none 0 0, .slice none 0 0)
      (fun u hu => by simp only [encX, List.mem_cons, List.not_mem_nil, or_false] at hu; rcases hu with rfl | rfl | rfl | rfl | rfl | rfl | rfl | rfl <;> rfl) (by omega) H.1.m.size
    have F5 : Fr (fun k => lv.ownBlock = some k) V w5 := Fr.grown g5
    have hqR : lv.ownBlock ≠ some q := lo_kind H.1.list H.1.cells (by decide)
    obtain ⟨H6, K6⟩ := H.1.addRun L5 rfl rfl F5 hown
    have M6 := H.next H6 K6
    obtain ⟨A5, c5, e5, _⟩ := L5.slice
    rw [e5] at hrun M6
    rw [hlv] at hrun
    exact ⟨c3, A5, _, c5, w5, hrun, F5.cell c3 hqR, blk_frozen (F5.block q _ hqR H.1.cells) _, _, M6⟩
  · rintro hr V ⟨lv', H⟩
    obtain ⟨H2, K2⟩ := H.1.setBad false
    have M2 := H.next H2 K2
    have c4 := H.1.cell.2.2.2.2
    have c4 : V.cell? ⟨q, 4, none⟩ = some (.bool false) := by rw [c4]; exact congrArg (fun b => some (Value.bool b)) hbd
    have N1 : Calls Tryz.prog 34 #[ptr p] V fun e w3 => e = .returned (.int .i64 s) ∧ V = w3 := by
      have := H.1.m.now
      rw [← hW hr]
      exact this
    refine ⟨H.pcell, c4, blk_frozen H.1.cells _, N1, ?_⟩
    rw [hG hr]
    exact ⟨F, vv, lv', _, M2.1, M2.2.1⟩
theorem sq_bound {k R : Nat} (hk : k ≤ 1048576) (hR : R ≤ 1048576) : k * k ≤ 1099511627776 ∧ k * (R + 1) ≤ 1099512676352 := by
  have h1 := Nat.mul_le_mul hk hk
  have h2 := Nat.mul_le_mul hk (Nat.succ_le_succ hR)
  exact ⟨by omega, by omega⟩
/-- do, whatever the operation -/
theorem do_calls (h : Wm w base q p F U W rv vv lv xs) (hC : Cap W.m K N) (hK : K ≤ 2305843009213693951) (hN : N ≤ 2305843009213693951) {k R : Nat} (hB : Bd W k R) (hk : k ≤ 1048576) (hR : R ≤ 1048576) (o : Opn) (ho : o.OK) (m : Int) (hbd : W.bad = false) (hbd' : (W.step (iS W.m.caps.reads) o m).2.bad = false) :
    Calls Tryz.prog 19 #[ptr q, .agg #[.int .i64 o.kind, .int .i64 o.tx, .string o.at_.1, .string o.at_.2, .string o.to_, .int .i64 o.last], .int .i64 m] w fun e w' => e = .returned (.int .i64 (W.step (iS W.m.caps.reads) o m).1) ∧ DoQ base q p U rv w (W.step (iS W.m.caps.reads) o m).2 w' := by
  obtain ⟨s1, s2⟩ := sq_bound hk hR
  have hxl : xs.length = W.list.length := by rw [← h.fst, List.length_map]
  have hl := hB.list
  have hv := hB.vers
  have hrw := hB.rows
  by_cases k0 : o.kind = 0
  · exact do_begin_s h hC hK o ho m k0 hbd hbd' (by omega)
  by_cases kb : o.kind < 0 ∨ 5 < o.kind
  · exact do_other_s h o m kb (by omega)
  rcases ofR_cases W.list o.tx with ⟨hof, _⟩ | ⟨i, y, hof, hy, _, _⟩
  · exact do_none_s h o m k0 (by omega) hof
  have hrd := hB.read (List.mem_of_getElem? hy)
  have hwr := hB.writes y (List.mem_of_getElem? hy)
  obtain ⟨x, hx, rfl⟩ := at_xs h hy
  by_cases k1 : o.kind = 1
  · exact do_read_s h hC o ho m k1 (by omega) (by omega) hx hof (by omega) (by omega)
  by_cases k2 : o.kind = 2
  · exact do_scan_s h hC o ho m k2 (by omega) (by omega) (by omega) hx hof (by omega) (by omega)
  by_cases k3 : o.kind = 3
  · exact do_write_s h hC o ho m k3 (by omega) (by omega) hx hof (by omega)
  by_cases k4 : o.kind = 4
  · exact do_commit_s h hC hK hN o ho m k4 hbd hbd' (by omega) hx hof (by omega)
  · exact do_abort_s h hC o ho m (by omega) (by omega) hx hof
end
end Go.Proofs.YthaoedfalkebbaaGreat
namespace Go.Proofs.YthaoedfalkebbaaGreat
open Go.RowKit Go.Maps Go.Sort Go.Lib Go.Shelf Go.Proofs.YthaoedfalkebbaaGreatW.PrintWords Go.Proofs.YthaoedfalkebbaaGreatW.PrintLast Go.Proofs.YthaoedfalkebbaaGreatW.PrintMore
set_option linter.unusedVariables false
set_option linter.unusedSimpArgs false
set_option linter.unusedSectionVars false
def cellsG (g : List Bool) : Array Value := (g.map Value.bool).toArray
def BG (w : World) (G : Nat) (g : List Bool) : Prop := w.heap[G]? = some (.cells (cellsG g) 4 (0, 0))
end Go.Proofs.YthaoedfalkebbaaGreat
namespace Go.Proofs.YthaoedfalkebbaaGreat
open Go.RowKit Go.Maps Go.Sort Go.Lib Go.Shelf Go.Proofs.YthaoedfalkebbaaGreatW.PrintWords Go.Proofs.YthaoedfalkebbaaGreatW.PrintLast Go.Proofs.YthaoedfalkebbaaGreatW.PrintMore
set_option linter.unusedVariables false
set_option linter.unusedSimpArgs false
set_option linter.unusedSectionVars false
theorem step_caps {ρ : Type} {I : RdI ρ} (W : Wld ρ) (o : Opn) (m : Int) : (W.step I o m).2.m.caps = W.m.caps := by
  have ho : ∀ i x, (W.opAt I o i x).2.m.caps = W.m.caps := fun i x => by
    unfold Wld.opAt
    split
    · exact read_caps _ _
    · split
      · exact scan_caps _ _ _ _
      · split
        · exact write_caps _ _ _
        · split
          · split
            · exact commit_caps _
            · exact commit_caps _
          · exact abort_caps _
  unfold Wld.step
  split
  · split
    · exact begin_caps
    · exact begin_caps
  · split
    · rfl
    · split
      · rfl
      · split
        · rfl
        · dsimp only
          split
          · exact ho _ _
          · exact ho _ _
theorem atW_caps {ρ : Type} {I : RdI ρ} (W0 : Wld ρ) (xs : List Opn) (k : Nat) : (atW I W0 xs k).m.caps = W0.m.caps := by
  induction k with
  | zero => rfl
  | succ k ih =>
    unfold atW
    split
    · rw [step_caps, ih]
    · exact ih
theorem okT (c : Cp) : (fun r : St => InvK r ∧ r.n ≤ c.reads) St0 ↔ 0 ≤ c.reads := ⟨fun h => h.2, fun h => ⟨InvK.empty, h⟩⟩
theorem hasT (most n : Int) : (iT most).has St0 n = false := by
  cases h : (iT most).has St0 n with
  | false => rfl
  | true =>
    obtain ⟨q, hq, _⟩ := (has_iff InvK.empty n).1 h
    cases hq
theorem may_reads {c : Cp} (h : mayC c = true) : 0 ≤ c.reads := by
  rw [mayC_eq] at h
  simp only [Bool.and_eq_true, decide_eq_true_eq] at h
  omega
abbrev atS (c : Cp) (xs : List Opn) (k : Nat) : Wld St := atW (iT c.reads) (W0 c xs) xs k
abbrev okS (c : Cp) : St → Prop := fun r => InvK r ∧ r.n ≤ c.reads
section
variable {c : Cp} {xs : List Opn}
theorem atS_WI (h : mayC c = true) (k : Nat) (hk : k ≤ 4000000000000) : ∃ G, WI (iT c.reads) (okS c) (atS c xs k) G k :=
  atW_WI (iT_law c.reads) ⟨[], WI.start c St0 _ ((okT c).2 (may_reads h)) (hasT _)⟩ k (by omega)
theorem atS_WL (h : mayC c = true) (k : Nat) (hk : k ≤ 4000000000000) : ∃ G, WL (iT c.reads) (okS c) (atS c xs k) G k :=
  atW_WL (iT_law c.reads) ⟨[], WL.start c St0 _ ((okT c).2 (may_reads h)) (hasT _)⟩ k (by omega)
theorem atS_cap (h : mayC c = true) (k : Nat) : Cap (atS c xs k).m k 0 := atW_cap (Cap.start c 0 h (Int.le_refl _)) k
theorem atS_Bd (k : Nat) : Bd (atS c xs k) k xs.length := atW_Bd (Bd.start _ _ _ (rowsN_len _ _)) k
theorem atS_caps (k : Nat) : (atS c xs k).m.caps = c := atW_caps _ _ _
theorem atS_bad (h : mayC c = true) (k : Nat) (hk : k ≤ 4000000000000) : (atS c xs k).bad = false := by
  obtain ⟨G, w⟩ := atS_WI (xs := xs) h k hk
  exact w.good
theorem atS_succ {k : Nat} {o : Opn} (h : xs[k]? = some o) : atS c xs (k + 1) = ((atS c xs k).step (iT c.reads) o k).2 := atW_succ h
end
/-- what a law has of its world when k operations are done -/
def Lw (w3 : World) (b q p : Nat) (U : Nat → Prop) (rv : Value) (W : Wld St) (wr : World) : Prop := ∃ F' vv lv xs', Wm wr b q p F' U W rv vv lv xs' ∧ KeepW U w3 wr
section
variable {w3 wr V : World} {b q p : Nat} {U : Nat → Prop} {rv : Value} {W : Wld St}
theorem Lw.below (h : Lw w3 b q p U rv W wr) (B : Below wr.heap.size wr V) : Lw w3 b q p U rv W V := by
  obtain ⟨F', vv, lv, xs', H, k⟩ := h
  exact ⟨F', vv, lv, xs', H.below B, k.trans (KeepW.ofBelow B H.m.size)⟩
theorem Lw.ahead (h : Lw w3 b q p U rv W wr) {n : Nat} (hn : n ≤ w3.heap.size) (hU : ∀ k, U k → n ≤ k) : Below n w3 wr := by
  obtain ⟨F', vv, lv, xs', H, k⟩ := h
  exact k.fr.below hn hU
theorem Lw.ptr_at (h : Lw w3 b q p U rv W wr) : wr.cell? ⟨q, 0, none⟩ = some (ptr p) := by
  obtain ⟨F', vv, lv, xs', H, k⟩ := h
  exact H.cell.1
theorem Lw.bad_at (h : Lw w3 b q p U rv W wr) : wr.cell? ⟨q, 4, none⟩ = some (.bool W.bad) := by
  obtain ⟨F', vv, lv, xs', H, k⟩ := h
  exact H.cell.2.2.2.2
theorem Lw.list_at (h : Lw w3 b q p U rv W wr) : ∃ A c, wr.cell? ⟨q, 3, none⟩ = some (.slice A W.list.length c) := by
  obtain ⟨F', vv, lv, xs', H, k⟩ := h
  obtain ⟨A, c, e, _⟩ := H.list.slice
  have := H.cell.2.2.2.1
  rw [e] at this
  rw [← H.fst, List.length_map]
  exact ⟨A, c, this⟩
/-- one operation, any -/
theorem Lw.step (h : Lw w3 b q p U rv W wr) {K : Nat} (hc : Cap W.m K 0) (hK : K ≤ 4000000000000) {k R : Nat} (hB : Bd W k R) (hk : k ≤ 1048576) (hR : R ≤ 1048576) (o : Opn) (ho : o.OK) (m : Int) (hb : W.bad = false) (hb' : (W.step (iT W.m.caps.reads) o m).2.bad = false) :
    Calls Tryz.prog 19 #[ptr q, .agg #[.int .i64 o.kind, .int .i64 o.tx, .string o.at_.1, .string o.at_.2, .string o.to_, .int .i64 o.last], .int .i64 m] wr fun e w' => e = .returned (.int .i64 (W.step (iT W.m.caps.reads) o m).1) ∧ Lw w3 b q p U rv (W.step (iT W.m.caps.reads) o m).2 w' := by
  obtain ⟨F', vv, lv, xs', H, kp⟩ := h
  have e := step_iT W.m.caps.reads W o m ho.at_.t ho.at_.k ho.to_
  refine (do_calls H hc (by omega) (by omega) hB hk hR o ho m hb (by rw [e]; exact hb')).mono ?_
  rintro e2 w' ⟨rfl, F2, vv2, lv2, xs2, H2, k2⟩
  rw [e] at H2
  rw [e]
  exact ⟨rfl, F2, vv2, lv2, xs2, H2, kp.trans k2⟩
end
theorem Lw.next {w3 wr : World} {b q p : Nat} {U : Nat → Prop} {rv : Value} {c : Cp} {xs : List Opn} {k : Nat} (h : Lw w3 b q p U rv (atS c xs k) wr) (hm : mayC c = true) (hxs : xs.length ≤ 1048576) {o : Opn} (hk : xs[k]? = some o) (ho : o.OK) :
    Calls Tryz.prog 19 #[ptr q, .agg #[.int .i64 o.kind, .int .i64 o.tx, .string o.at_.1, .string o.at_.2, .string o.to_, .int .i64 o.last], .int .i64 (k : Int)] wr fun e w' => e = .returned (.int .i64 ((atS c xs k).step (iT c.reads) o k).1) ∧ Lw w3 b q p U rv (atS c xs (k + 1)) w' := by
  have hlt := (List.getElem?_eq_some_iff.1 hk).1
  have e := atS_succ (c := c) hk
  have hb' := atS_bad (xs := xs) hm (k + 1) (by omega)
  have ec := atS_caps (c := c) (xs := xs) k
  rw [e] at hb' ⊢
  have := h.step (atS_cap hm k) (by omega) (atS_Bd k) (by omega) hxs o ho (k : Int) (atS_bad hm k (by omega))
  rw [ec] at this
  exact this hb'
end Go.Proofs.YthaoedfalkebbaaGreat
