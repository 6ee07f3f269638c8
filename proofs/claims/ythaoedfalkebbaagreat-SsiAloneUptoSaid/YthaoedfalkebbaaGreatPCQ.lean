/- Cut by a program out of the seat's texts (RU RV RW RX): what the theorem needs, one behind the other. -/
import Derived.Test.YthaoedfalkebbaaGreatPCP
import Derived.Test.YthaoedfalkebbaaGreatPCO
import Derived.Test.YthaoedfalkebbaaGreatPCK
namespace Go.Proofs.YthaoedfalkebbaaGreat
open Go.RowKit Go.Maps Go.Sort Go.Lib Go.Shelf Go.Proofs.YthaoedfalkebbaaGreatW.PrintWords Go.Proofs.YthaoedfalkebbaaGreatW.PrintLast Go.Proofs.YthaoedfalkebbaaGreatW.PrintMore
set_option linter.unusedVariables false
set_option linter.unusedSimpArgs false
set_option linter.unusedSectionVars false
theorem Lo.append3 {P : Program} {α : Type} {enc : α → List Value} {k e base : Nat} {w : World} {v : Value} {xs : List α} (h : Lo enc k e w base v xs) (hn : ∀ x, (enc x).length = k) (t ty : TypeId) (z : Value) (bytes : Nat) (ht : P.underlying t = some (.slice e)) (hinfo : (P.info? e).map (fun i => (i.zero, i.size, i.bytes)) = some (some z, k, bytes)) (hzs : z.cells.size = k) (hk : 0 < k) (hb0 : 0 < bytes)
    (x : α) (h1c : ∀ u ∈ enc x, u.oneCell' = true) (hbytes : (xs.length + 1) * bytes ≤ 140737488355328) (hbase : base ≤ w.heap.size) :
    ∃ v' w', (Builtin.append_ #[t, t] ty #[v, .slice (some ⟨w.heap.size, 0, none⟩) 1 1]).run P (w.alloc (.cells (enc x).toArray e)) = .ok v' w' ∧ Lo enc k e w' base v' (xs ++ [x]) ∧ w.grownBy w' v.ownBlock ∧ ∀ b, v'.ownBlock = some b → v.ownBlock = some b ∨ w.heap.size ≤ b := by
  have hw := h.grown (World.grownBy_alloc w (.cells (enc x).toArray e) none) (fun b e => by cases e)
  obtain ⟨inner, h1, h2⟩ := hw
  obtain ⟨i0, hi0, hzz⟩ := Option.map_eq_some_iff.1 hinfo
  simp only [Prod.mk.injEq] at hzz
  obtain ⟨hz0, hz1, hz2⟩ := hzz
  have hlen : xs.length + 1 ≤ 140737488355328 := Nat.le_trans (Nat.le_mul_of_pos_right _ hb0) hbytes
  obtain ⟨v', w', hr, ho, hg, hb⟩ := l_append2 (P := P) (w.alloc (.cells (enc x).toArray e)) base t ty e i0 z k bytes ht hi0 hz0 hz1 hz2 hzs hk v xs.length inner h1 ⟨w.heap.size, 0, none⟩ 1 1 (enc x) (by rw [hn, Nat.one_mul])
    (by simpa using World.news_of_block (cs := (enc x).toArray) (t := e) (fr := (0, 0)) (heap_alloc_new w (.cells (enc x).toArray e))) h1c (by omega) (by simp only [maxLen]; omega) hbytes (by simp; omega)
  refine ⟨v', w', hr, ⟨_, by rw [List.length_append]; exact ho, h2.snoc rfl (hn x)⟩, trans_grown (World.grownBy_alloc w _ _) hg, fun b h => by rcases hb b h with h1 | h1; exact .inl h1; exact .inr (by simp at h1; omega)⟩
theorem info57 : (Tryz.prog.info? 57).map (fun i => (i.zero, i.size, i.bytes)) = some (some (.agg #[.int .i64 0, .int .i64 0, .int .i64 0, .int .i64 0, .bool false, .bool false, .slice none 0 0, .slice none 0 0]), 8, 88) := by kernel_rfl
section
variable {w w' : World} {base q p : Nat} {F U : Nat → Prop} {W : Wld St} {rv vv lv : Value} {xs : List Rx} {K N : Int}
theorem do_commit_s (h : Wm w base q p F U W rv vv lv xs) (hC : Cap W.m K N) (hK : K ≤ 2305843009213693951) (hN : N ≤ 2305843009213693951) (o : Opn) (ho : o.OK) (m : Int) (hkd : o.kind = 4) (hbd : W.bad = false) (hbd' : (W.step (iS W.m.caps.reads) o m).2.bad = false) (hxl : xs.length ≤ 2000000000000) {i : Nat} {x : Rx} (hx : xs[i]? = some x) (hof : ofR W.list o.tx = (i : Int)) (hvw : W.vers.length + x.1.writes.length ≤ 2000000000000) :
    Calls Tryz.prog 19 #[ptr q, .agg #[.int .i64 o.kind, .int .i64 o.tx, .string o.at_.1, .string o.at_.2, .string o.to_, .int .i64 o.last], .int .i64 m] w fun e w' => e = .returned (.int .i64 (W.step (iS W.m.caps.reads) o m).1) ∧ DoQ base q p U rv w (W.step (iS W.m.caps.reads) o m).2 w' := by
  have hi := (List.getElem?_eq_some_iff.1 hx).1
  have hlx := h.list_at hx
  have hmem : x ∈ xs := List.mem_of_getElem? hx
  obtain ⟨A, c, hlv, hlc, hA⟩ := h.list.slice
  obtain ⟨g, rfl, _⟩ := hA (by omega)
  obtain ⟨Aw, cw, hwv, _, hAw⟩ := (h.wr x hmem).slice
  have hst := step_op (I := iS W.m.caps.reads) (m := m) (by omega) hof hlx
  obtain ⟨num, r, S', hrS⟩ : ∃ num r S', ((num, r), S') = W.m.commit (iS W.m.caps.reads) o.tx := ⟨_, _, _, rfl⟩
  have hop : W.opAt (iS W.m.caps.reads) o i x.1 = if r = 0 then (0, ⟨S', W.rows, commitV W.vers x.1.writes num i, W.list.set i { x.1 with committed := true }, W.bad || (num != (if x.1.writes = [] then W.m.now else W.m.now + 1) || S'.now != (if x.1.writes = [] then W.m.now else W.m.now + 1))⟩) else (r, { W with m := S' }) := by
    unfold Wld.opAt
    rw [if_neg (by omega), if_neg (by omega), if_neg (by omega), if_pos hkd, ← hrS]
  rw [if_pos (.inr (.inl hkd)), hop] at hst
  have hr1 : (W.step (iS W.m.caps.reads) o m).1 = r := by
    rw [hst]
    by_cases hr : r = 0
    · rw [if_pos hr, hr]
    · rw [if_neg hr]
  have hE : r ≠ 0 → (W.step (iS W.m.caps.reads) o m).2 = { ({ W with m := S' } : Wld St) with list := W.list.modify i (fun x => overR x m) } := fun hr => by
    rw [hst, if_neg hr]
  have hW : r = 0 → num = (if x.1.writes.length = 0 then W.m.now else W.m.now + 1) ∧ S'.now = num := fun hr => by
    rw [hst, if_pos hr] at hbd'
    dsimp only at hbd'
    simp only [Bool.or_eq_false_iff, bne_eq_false_iff_eq] at hbd'
    obtain ⟨_, h1, h2⟩ := hbd'
    have e : (if x.1.writes = [] then W.m.now else W.m.now + 1) = if x.1.writes.length = 0 then W.m.now else W.m.now + 1 := by
      by_cases e : x.1.writes = []
      · rw [if_pos e, if_pos (by rw [e]; rfl)]
      · rw [if_neg e, if_neg (fun h => e (List.eq_nil_of_length_eq_zero h))]
    rw [e] at h1 h2
    exact ⟨h1, by rw [h2, h1]⟩
  have hG : r = 0 → (W.step (iS W.m.caps.reads) o m).2 = { (⟨S', W.rows, commitV W.vers x.1.writes num i, W.list.set i { x.1 with committed := true }, false⟩ : Wld St) with list := (W.list.set i { x.1 with committed := true }).modify i (fun x => overR x m) } := fun hr => by
    have hbd2 := hbd'
    rw [hst, if_pos hr] at hbd2 ⊢
    dsimp only at hbd2 ⊢
    rw [hbd2]
  rw [hr1]
  obtain ⟨w1, hw1⟩ : ∃ w1, w1 = w.alloc (.cells #[.int .i64 o.kind, .int .i64 o.tx, .string o.at_.1, .string o.at_.2, .string o.to_, .int .i64 o.last] 36) := ⟨_, rfl⟩
  have M0 := MA.start h o hw1
  have OF := M0.of hxl o.tx
  rw [hof] at OF
  rw [hkd] at hw1 ⊢
  have hnow := hC.now
  refine do_commit q p g i xs.length c x.1.writes.length cw Aw o.tx o.last m r num W.m.now o.at_.1 o.at_.2 o.to_ w w1 hw1 (MA w base q p F U { W with m := S' } rv vv lv xs o) (MA w base q p F U ⟨S', W.rows, W.vers, W.list, false⟩ rv vv lv xs o)
    (fun V => ∃ vv', MA w base q p F U ⟨S', W.rows, commitV W.vers x.1.writes num i, W.list.set i { x.1 with committed := true }, false⟩ rv vv' lv (xs.set i ({ x.1 with committed := true }, x.2.1, x.2.2)) o V) (DoQ base q p U rv w (W.step (iS W.m.caps.reads) o m).2) hi (by omega) (by omega) ?_ OF ?_ ?_ ?_ (fun hr => (hW hr).1) ?_ ?_ ?_ ?_
  · intro V B
    have H := M0.below B
    have c3 := H.1.cell.2.2.2.1
    rw [hlv] at c3
    have b := H.box
    rw [hkd] at b
    exact ⟨H.pcell, c3, b⟩
  · intro V B
    have H := M0.below B
    exact H.1.m.now
  · intro V k B
    have H := (M0.below B).below (drewB2 V k)
    refine (H.1.m.commit H.1.top hC ho.tx H.1.Flt hK hN).mono ?_
    rintro e w3 ⟨he, hM, hK⟩
    rw [← hrS] at he hM
    exact ⟨he, H.go hM hK⟩
  · intro V H
    have b := H.box
    rw [hkd] at b
    exact ⟨H.pcell, b⟩
  · intro hr V H
    have hl := H.1.list
    rw [hlv] at hl
    obtain ⟨_, _, _, _, _, _, _, y7⟩ := RowX.at hl i x hx
    rw [hwv] at y7
    obtain ⟨H2, K2⟩ := H.1.setBad false
    have c4 := H.1.cell.2.2.2.2
    rw [show ({ W with m := S' } : Wld St).bad = false from hbd] at c4
    have N1 := H.1.m.now
    rw [show ({ W with m := S' } : Wld St).m.now = num from (hW hr).2] at N1
    exact ⟨y7, c4, blk_frozen H.1.cells _, N1, H.next H2 K2⟩
  · intro hr V H
    refine (commit_calls H.1 hx num hvw hxl).mono ?_
    rintro e w3 ⟨rfl, vv', H3, K3⟩
    exact ⟨rfl, vv', H.next H3 K3⟩
  · rintro hr V ⟨vv', H⟩
    have b := H.box
    rw [hkd] at b
    have hx' : (xs.set i (({ x.1 with committed := true } : Run), x.2.1, x.2.2))[i]? = some ({ x.1 with committed := true }, x.2.1, x.2.2) := by rw [List.getElem?_set, if_pos rfl, if_pos hi]
    exact ⟨b, end_at H.1 H.2.1 hx' hlv m (hG hr)⟩
  · intro hr V H
    exact end_at H.1 H.2.1 hx hlv m (hE hr)
theorem do_begin_s (h : Wm w base q p F U W rv vv lv xs) (hC : Cap W.m K N) (hK : K ≤ 2305843009213693951) (o : Opn) (ho : o.OK) (m : Int) (hkd : o.kind = 0) (hbd : W.bad = false) (hbd' : (W.step (iS W.m.caps.reads) o m).2.bad = false) (hxl : xs.length ≤ 1000000000000) :
    Calls Tryz.prog 19 #[ptr q, .agg #[.int .i64 o.kind, .int .i64 o.tx, .string o.at_.1, .string o.at_.2, .string o.to_, .int .i64 o.last], .int .i64 m] w fun e w' => e = .returned (.int .i64 (W.step (iS W.m.caps.reads) o m).1) ∧ DoQ base q p U rv w (W.step (iS W.m.caps.reads) o m).2 w' := by
  obtain ⟨A, c, hlv, hlc, hA⟩ := h.list.slice
  obtain ⟨num, s, r, S', hrS⟩ : ∃ num s r S', ((num, s, r), S') = W.m.begin := ⟨_, _, _, _, rfl⟩
  have hst : W.step (iS W.m.caps.reads) o m = if r = 0 then (0, { W with m := S', list := W.list ++ [⟨num, s, m, 0, false, false, [], []⟩], bad := W.bad || s != S'.now }) else (r, { W with m := S' }) := by
    unfold Wld.step
    rw [if_pos hkd, ← hrS]
  have hr1 : (W.step (iS W.m.caps.reads) o m).1 = r := by
    rw [hst]
    by_cases hr : r = 0
    · rw [if_pos hr, hr]
    · rw [if_neg hr]
  have hE : r ≠ 0 → (W.step (iS W.m.caps.reads) o m).2 = { W with m := S' } := fun hr => by
    rw [hst, if_neg hr]
  have hW : r = 0 → S'.now = s := fun hr => by
    rw [hst, if_pos hr] at hbd'
    dsimp only at hbd'
    simp only [Bool.or_eq_false_iff, bne_eq_false_iff_eq] at hbd'
    exact hbd'.2.symm
  have hG : r = 0 → (W.step (iS W.m.caps.reads) o m).2 = { W with m := S', list := W.list ++ [⟨num, s, m, 0, false, false, [], []⟩], bad := false } := fun hr => by
    have hbd2 := hbd'
    rw [hst, if_pos hr] at hbd2 ⊢
    dsimp only at hbd2 ⊢
    rw [hbd2]
  rw [hr1]
  obtain ⟨w1, hw1⟩ : ∃ w1, w1 = w.alloc (.cells #[.int .i64 o.kind, .int .i64 o.tx, .string o.at_.1, .string o.at_.2, .string o.to_, .int .i64 o.last] 36) := ⟨_, rfl⟩
  have M0 := MA.start h o hw1
  rw [hkd] at hw1 ⊢
  have b0 := M0.box
  rw [hkd] at b0
  refine do_begin q p xs.length c A o.tx o.last m r num s o.at_.1 o.at_.2 o.to_ w w1 hw1 (MA w base q p F U { W with m := S' } rv vv lv xs o)
    (fun V => ∃ lv', MA w base q p F U { W with m := S', list := W.list ++ [⟨num, s, m, 0, false, false, [], []⟩] } rv vv lv' (xs ++ [(⟨num, s, m, 0, false, false, [], []⟩, .slice none 0 0, .slice none 0 0)]) o V) (DoQ base q p U rv w (W.step (iS W.m.caps.reads) o m).2) M0.pcell b0.1 ?_ ?_ ?_ ?_
  · refine (M0.1.m.begin M0.1.top hC hK).mono ?_
    rintro e w3 ⟨he, hM, hK⟩
    rw [← hrS] at he hM
    exact ⟨he, M0.go hM hK⟩
  · intro hr V H
    exact ⟨F, vv, lv, xs, by rw [hE hr]; exact H.1, H.2.1⟩
  · intro hr V H
    have c3 := H.1.cell.2.2.2.1
    rw [hlv] at c3
    obtain ⟨v5, w5, hrun, L5, g5, hown⟩ := Lo.append3 (P := Tryz.prog) H.1.list (fun _ => rfl) 48 48 _ 88 Tryz.underlying48 info57 rfl (by decide) (by decide) (⟨num, s, m, 0, false, false, [], []⟩, .slice none 0 0, .slice none 0 0)
      (fun u hu => by simp only [encX, List.mem_cons, List.not_mem_nil, or_false] at hu; rcases hu with rfl | rfl | rfl | rfl | rfl | rfl | rfl | rfl <;> rfl) (by omega) H.1.m.size
    have F5 : Fr (fun k => lv.ownBlock = some k) V w5 := Fr.grown g5
    have hqR : lv.ownBlock ≠ some q := lo_kind H.1.list H.1.cells (by decide)
    obtain ⟨H6, K6⟩ := H.1.addRun L5 rfl rfl F5 hown
    have M6 := H.next H6 K6
    obtain ⟨A5, c5, e5, _⟩ := L5.slice
    rw [e5] at hrun M6
    rw [hlv] at hrun
    exact ⟨c3, A5, _, c5, w5, hrun, F5.cell c3 hqR, blk_frozen (F5.block q _ hqR H.1.cells) _, _, M6⟩
  · rintro hr V ⟨lv', H⟩
    obtain ⟨H2, K2⟩ := H.1.setBad false
    have M2 := H.next H2 K2
    have c4 := H.1.cell.2.2.2.2
    have c4 : V.cell? ⟨q, 4, none⟩ = some (.bool false) := by rw [c4]; exact congrArg (fun b => some (Value.bool b)) hbd
    have N1 : Calls Tryz.prog 34 #[ptr p] V fun e w3 => e = .returned (.int .i64 s) ∧ V = w3 := by
      have := H.1.m.now
      rw [← hW hr]
      exact this
    refine ⟨H.pcell, c4, blk_frozen H.1.cells _, N1, ?_⟩
    rw [hG hr]
    exact ⟨F, vv, lv', _, M2.1, M2.2.1⟩
theorem sq_bound {k R : Nat} (hk : k ≤ 1048576) (hR : R ≤ 1048576) : k * k ≤ 1099511627776 ∧ k * (R + 1) ≤ 1099512676352 := by
  have h1 := Nat.mul_le_mul hk hk
  have h2 := Nat.mul_le_mul hk (Nat.succ_le_succ hR)
  exact ⟨by omega, by omega⟩
/-- do, whatever the operation -/
theorem do_calls (h : Wm w base q p F U W rv vv lv xs) (hC : Cap W.m K N) (hK : K ≤ 2305843009213693951) (hN : N ≤ 2305843009213693951) {k R : Nat} (hB : Bd W k R) (hk : k ≤ 1048576) (hR : R ≤ 1048576) (o : Opn) (ho : o.OK) (m : Int) (hbd : W.bad = false) (hbd' : (W.step (iS W.m.caps.reads) o m).2.bad = false) :
    Calls Tryz.prog 19 #[ptr q, .agg #[.int .i64 o.kind, .int .i64 o.tx, .string o.at_.1, .string o.at_.2, .string o.to_, .int .i64 o.last], .int .i64 m] w fun e w' => e = .returned (.int .i64 (W.step (iS W.m.caps.reads) o m).1) ∧ DoQ base q p U rv w (W.step (iS W.m.caps.reads) o m).2 w' := by
  obtain ⟨s1, s2⟩ := sq_bound hk hR
  have hxl : xs.length = W.list.length := by rw [← h.fst, List.length_map]
  have hl := hB.list
  have hv := hB.vers
  have hrw := hB.rows
  by_cases k0 : o.kind = 0
  · exact do_begin_s h hC hK o ho m k0 hbd hbd' (by omega)
  by_cases kb : o.kind < 0 ∨ 5 < o.kind
  · exact do_other_s h o m kb (by omega)
  rcases ofR_cases W.list o.tx with ⟨hof, _⟩ | ⟨i, y, hof, hy, _, _⟩
  · exact do_none_s h o m k0 (by omega) hof
  have hrd := hB.read (List.mem_of_getElem? hy)
  have hwr := hB.writes y (List.mem_of_getElem? hy)
  obtain ⟨x, hx, rfl⟩ := at_xs h hy
  by_cases k1 : o.kind = 1
  · exact do_read_s h hC o ho m k1 (by omega) (by omega) hx hof (by omega) (by omega)
  by_cases k2 : o.kind = 2
  · exact do_scan_s h hC o ho m k2 (by omega) (by omega) (by omega) hx hof (by omega) (by omega)
  by_cases k3 : o.kind = 3
  · exact do_write_s h hC o ho m k3 (by omega) (by omega) hx hof (by omega)
  by_cases k4 : o.kind = 4
  · exact do_commit_s h hC hK hN o ho m k4 hbd hbd' (by omega) hx hof (by omega)
  · exact do_abort_s h hC o ho m (by omega) (by omega) hx hof
end
end Go.Proofs.YthaoedfalkebbaaGreat
namespace Go.Proofs.YthaoedfalkebbaaGreat
open Go.RowKit Go.Maps Go.Sort Go.Lib Go.Shelf Go.Proofs.YthaoedfalkebbaaGreatW.PrintWords Go.Proofs.YthaoedfalkebbaaGreatW.PrintLast Go.Proofs.YthaoedfalkebbaaGreatW.PrintMore
set_option linter.unusedVariables false
set_option linter.unusedSimpArgs false
set_option linter.unusedSectionVars false
def encD (d : Nat × Nat) : List Value := [.int .i64 (d.1 : Int), .int .i64 (d.2 : Int)]
theorem encD_one : ∀ x, ∀ u ∈ encD x, u.oneCell' = true := fun x u hu => by
  simp only [encD, List.mem_cons, List.not_mem_nil, or_false] at hu
  rcases hu with rfl | rfl <;> rfl
abbrev RowD (w : World) (base : Nat) (v : Value) (xs : List (Nat × Nat)) : Prop := Lo encD 2 128 w base v xs
theorem info128 : (Tryz.prog.info? 128).map (fun i => (i.zero, i.size, i.bytes)) = some (some (.agg #[.int .i64 0, .int .i64 0]), 2, 16) := by kernel_rfl
def depsN (vs : List Ver) (l : List Run) (j : Nat) : List (Nat × Nat) := ((l.take j).mapIdx (depsX vs)).flatten
def depsK (vs : List Ver) (i : Nat) (x : Run) (k : Nat) : List (Nat × Nat) := (x.reads.take k).flatMap (depsR vs i)
def depsM (vs : List Ver) (k : Nat) : List (Nat × Nat) := (vs.take k).flatMap (depsV vs)
theorem depsN_succ (vs : List Ver) (l : List Run) (j : Nat) (x : Run) (h : l[j]? = some x) : depsN vs l (j + 1) = depsN vs l j ++ depsX vs j x := by
  unfold depsN
  have hj := (List.getElem?_eq_some_iff.1 h).1
  rw [List.take_add_one, h]
  simp only [Option.toList_some]
  rw [List.mapIdx_append, List.flatten_append]
  simp only [List.mapIdx_cons, List.mapIdx_nil, List.flatten_cons, List.flatten_nil, List.append_nil, List.length_take]
  rw [Nat.min_eq_left (by omega), Nat.zero_add]
theorem depsK_succ (vs : List Ver) (i : Nat) (x : Run) (k : Nat) (r : Sw) (h : x.reads[k]? = some r) : depsK vs i x (k + 1) = depsK vs i x k ++ depsR vs i r := by
  unfold depsK
  rw [List.take_add_one, h, List.flatMap_append]
  simp
theorem depsM_succ (vs : List Ver) (k : Nat) (v : Ver) (h : vs[k]? = some v) : depsM vs (k + 1) = depsM vs k ++ depsV vs v := by
  unfold depsM
  rw [List.take_add_one, h, List.flatMap_append]
  simp
theorem depsR_len (vs : List Ver) (i : Nat) (r : Sw) : (depsR vs i r).length ≤ 2 := by
  unfold depsR
  dsimp only
  rw [List.length_append]
  split <;> split <;> simp
theorem depsK_len (vs : List Ver) (i : Nat) (x : Run) : ∀ k, (depsK vs i x k).length ≤ 2 * k
  | 0 => Nat.zero_le _
  | k + 1 => by
    have ih := depsK_len vs i x k
    rcases hc : x.reads[k]? with _ | r
    · have : depsK vs i x (k + 1) = depsK vs i x k := by
        unfold depsK
        rw [List.take_add_one, hc]
        simp
      rw [this]
      omega
    · rw [depsK_succ vs i x k r hc, List.length_append]
      have := depsR_len vs i r
      omega
theorem depsX_len (vs : List Ver) (i : Nat) (x : Run) : (depsX vs i x).length ≤ 2 * x.reads.length := by
  unfold depsX
  split
  · have := depsK_len vs i x x.reads.length
    unfold depsK at this
    rw [List.take_length] at this
    exact this
  · exact Nat.zero_le _
theorem sum_take {α : Type} (f : α → Nat) (l : List α) (j : Nat) (x : α) (h : l[j]? = some x) : ((l.take j).map f).sum + f x ≤ (l.map f).sum := by
  have e : l = l.take (j + 1) ++ l.drop (j + 1) := (List.take_append_drop _ _).symm
  have e2 : ((l.take (j + 1)).map f).sum = ((l.take j).map f).sum + f x := by
    rw [List.take_add_one, h, List.map_append, List.sum_append]
    simp
  have e3 : (l.map f).sum = ((l.take (j + 1)).map f).sum + ((l.drop (j + 1)).map f).sum := by
    rw [← List.sum_append, ← List.map_append, List.take_append_drop]
  omega
theorem depsN_len (vs : List Ver) (l : List Run) : ∀ j, (depsN vs l j).length ≤ 2 * ((l.take j).map (fun x => x.reads.length)).sum
  | 0 => Nat.zero_le _
  | j + 1 => by
    have ih := depsN_len vs l j
    rcases hc : l[j]? with _ | x
    · have : l.take (j + 1) = l.take j := by rw [List.take_add_one, hc]; simp
      unfold depsN at ih ⊢
      rw [this]
      exact ih
    · rw [depsN_succ vs l j x hc, List.length_append, List.take_add_one, hc, List.map_append, List.sum_append]
      have := depsX_len vs j x
      simp only [Option.toList_some, List.map_cons, List.map_nil, List.sum_cons, List.sum_nil]
      omega
theorem depsM_len (vs : List Ver) : ∀ k, (depsM vs k).length ≤ k
  | 0 => Nat.zero_le _
  | k + 1 => by
    have ih := depsM_len vs k
    rcases hc : vs[k]? with _ | v
    · have : depsM vs (k + 1) = depsM vs k := by
        unfold depsM
        rw [List.take_add_one, hc]
        simp
      rw [this]
      omega
    · rw [depsM_succ vs k v hc, List.length_append]
      have : (depsV vs v).length ≤ 1 := by
        unfold depsV
        split <;> simp
      omega
theorem sw_cells {W : World} {g : Nat} {r : Sw} (h : W.heap[g]? = some (.cells #[.string r.at_.1, .string r.at_.2, .int .i64 r.saw] 130 (0, 0))) : W.cell? ⟨g, 0, none⟩ = some (.string r.at_.1) ∧ W.cell? ⟨g, 1, none⟩ = some (.string r.at_.2) ∧ W.cell? ⟨g, 2, none⟩ = some (.int .i64 r.saw) :=
  ⟨cell_of_row W g 0 _ 130 (0, 0) h, cell_of_row W g 1 _ 130 (0, 0) h, cell_of_row W g 2 _ 130 (0, 0) h⟩
theorem RowS.at {w : World} {base g n c : Nat} {xs : List Sw} (h : RowS w base (.slice (some ⟨g, 0, none⟩) n c) xs) (j : Nat) (x : Sw) (hj : xs[j]? = some x) : w.cell? ⟨g, j * 3, none⟩ = some (.string x.at_.1) ∧ w.cell? ⟨g, j * 3 + 1, none⟩ = some (.string x.at_.2) ∧ w.cell? ⟨g, j * 3 + 2, none⟩ = some (.int .i64 x.saw) := by
  have H := h.cell (fun _ => rfl) rfl j x hj
  exact ⟨by simpa using H 0 _ rfl, H 1 _ rfl, H 2 _ rfl⟩
/-- one dependency more -/
theorem addD {V : World} {w : World} {v : Value} {D : List (Nat × Nat)} (hD : RowD V w.heap.size v D) (hB : Below w.heap.size w V) (hl : D.length ≤ 4000000000000) (d : Nat × Nat) :
    ∃ A5 n5 c5 w5, (Builtin.append_ #[52, 52] 52 #[v, .slice (some ⟨V.heap.size, 0, none⟩) 1 1]).run Tryz.prog (V.alloc (.cells #[.int .i64 (d.1 : Int), .int .i64 (d.2 : Int)] 128)) = .ok (.slice A5 n5 c5) w5 ∧ RowD w5 w.heap.size (.slice A5 n5 c5) (D ++ [d]) ∧ Below w.heap.size w w5 ∧ ∀ a u, V.cell? a = some u → v.ownBlock ≠ some a.block → w5.cell? a = some u := by
  obtain ⟨v5, w5, hrun, L5, g5⟩ := Lo.append (P := Tryz.prog) hD (fun _ => rfl) encD_one 52 52 _ 16 Tryz.underlying52 info128 rfl (by decide) (by decide) d (by omega) hB.size
  obtain ⟨A5, c5, rfl, _⟩ := L5.slice
  exact ⟨A5, _, c5, w5, hrun, L5, hB.grown g5 hB.size (fun b hb => (hD.typed b hb).1), fun a u h1 h2 => (Fr.grown g5).cell h1 h2⟩
theorem depsR_ge {vs : List Ver} {i m : Nat} {r : Sw} {u : Ver} (hs : r.saw = (m : Int)) (hu : vs[m]? = some u) : depsR vs i r = [(u.by_, i)] ++ (if 0 ≤ u.next then [(i, ((vs[u.next.toNat]?).map (·.by_)).getD 0)] else []) := by
  unfold depsR
  rw [hs, if_pos (by omega), if_pos (by omega), Int.toNat_natCast, hu]
  rfl
theorem depsR_lt {vs : List Ver} {i : Nat} {r : Sw} (hs : ¬ 0 ≤ r.saw) : depsR vs i r = if 0 ≤ firstV vs r.at_ then [(i, ((vs[(firstV vs r.at_).toNat]?).map (·.by_)).getD 0)] else [] := by
  unfold depsR
  rw [if_neg hs, if_neg hs, List.nil_append]
theorem if_by {vs : List Ver} {n : Int} {m : Nat} {t : Ver} (i : Nat) (hn : n = (m : Int)) (ht : vs[m]? = some t) : (if 0 ≤ n then [(i, ((vs[n.toNat]?).map (·.by_)).getD 0)] else []) = [(i, t.by_)] := by
  rw [if_pos (by omega), hn, Int.toNat_natCast, ht]
  rfl
end Go.Proofs.YthaoedfalkebbaaGreat
namespace Go.Proofs.YthaoedfalkebbaaGreat
open Go.RowKit Go.Maps Go.Sort Go.Lib Go.Shelf Go.Proofs.YthaoedfalkebbaaGreatW.PrintWords Go.Proofs.YthaoedfalkebbaaGreatW.PrintLast Go.Proofs.YthaoedfalkebbaaGreatW.PrintMore
set_option linter.unusedVariables false
set_option linter.unusedSimpArgs false
set_option linter.unusedSectionVars false
theorem info4 : (Tryz.prog.info? 4).map (fun i => (i.zero, i.size, i.bytes)) = some (some (.bool false), 1, 1) := by kernel_rfl
def cellsG (g : List Bool) : Array Value := (g.map Value.bool).toArray
theorem madeG (n : Nat) (hn : n ≤ 2000000) (W : World) : (Instr.makeSlice 127 (.int .i64 (n : Int)) (.int .i64 (n : Int))).run Tryz.prog W = .ok (.slice (some ⟨W.heap.size, 0, none⟩) n n) (W.alloc (.cells (cellsG (List.replicate n false)) 4)) := by
  obtain ⟨i0, hi, hzz⟩ := Option.map_eq_some_iff.1 info4
  simp only [Prod.mk.injEq] at hzz
  obtain ⟨hz0, hz1, hz2⟩ := hzz
  have := run_makeSlice (P := Tryz.prog) (w := W) 127 4 i0 (.bool false) Tryz.underlying127 hi hz0 .i64 .i64 n n (by omega) (Int.le_refl _) (by rw [hz1]; simp; omega) (by rw [hz2]; omega) (by omega)
  rw [hz1] at this
  simp only [Int.toNat_natCast, Nat.mul_one] at this
  have e : madeCells #[.bool false] n = cellsG (List.replicate n false) := by
    unfold cellsG
    rw [List.map_replicate]
    apply Array.ext'
    rw [toList_madeCells_one]
  rw [← e]
  exact this
def BG (w : World) (G : Nat) (g : List Bool) : Prop := w.heap[G]? = some (.cells (cellsG g) 4 (0, 0))
theorem BG.cell {w : World} {G : Nat} {g : List Bool} (h : BG w G g) {i : Nat} {b : Bool} (hi : g[i]? = some b) : w.cell? ⟨G, i, none⟩ = some (.bool b) := by
  rw [cell_of_row w G i _ 4 (0, 0) h]
  unfold cellsG
  simp [hi]
theorem BG.set {w : World} {G : Nat} {g : List Bool} (h : BG w G g) (i : Nat) : BG (w.setCell ⟨G, i, none⟩ (.bool true)) G (g.set i true) := by
  unfold BG
  rw [blk_set h i _]
  unfold cellsG
  simp [List.map_set]
theorem BG.below {w w' : World} {G : Nat} {g : List Bool} (h : BG w G g) (B : Below w.heap.size w w') : BG w' G g := (B.block _ (Array.getElem?_eq_some_iff.1 h).1).trans h
theorem RowD.at {w : World} {base g n c : Nat} {xs : List (Nat × Nat)} (h : RowD w base (.slice (some ⟨g, 0, none⟩) n c) xs) (j : Nat) (x : Nat × Nat) (hj : xs[j]? = some x) : w.cell? ⟨g, j * 2, none⟩ = some (.int .i64 (x.1 : Int)) ∧ w.cell? ⟨g, j * 2 + 1, none⟩ = some (.int .i64 (x.2 : Int)) := by
  have H := h.cell (fun _ => rfl) rfl j x hj
  exact ⟨by simpa using H 0 _ rfl, H 1 _ rfl⟩
def okD (g : List Bool) (i : Nat) (d : Nat × Nat) : Bool := !(d.2 == i && d.1 != i && !(g[d.1]?.getD false))
theorem all_take_succ {α : Type} (P : α → Bool) (l : List α) (k : Nat) (x : α) (h : l[k]? = some x) : (l.take (k + 1)).all P = ((l.take k).all P && P x) := by
  rw [List.take_add_one, h, List.all_append]
  simp
theorem freeO_eq (deps : List (Nat × Nat)) (g : List Bool) (i : Nat) : freeO deps g i = (!(g[i]?.getD false) && (deps.take deps.length).all (okD g i)) := by
  rw [List.take_length]
  rfl
set_option maxHeartbeats 64000000 in
set_option maxRecDepth 100000 in
theorem ordered_calls (base : Nat) (v : Value) (deps : List (Nat × Nat)) (n : Nat) (w : World) (h : RowD w base v deps) (hn : n ≤ 2000000) (hd : ∀ d ∈ deps, d.1 < n) (hl : deps.length ≤ 4000000000000) (hO : orderedO n deps = true) :
    Calls Tryz.prog 20 #[.int .i64 (n : Int), v] w fun e w' => e = .returned (.bool true) ∧ Below w.heap.size w w' := by
  obtain ⟨A, c, rfl, hlc, hA⟩ := h.slice
  have hmk := fun W => madeG n hn W
  have DC : ∀ V, Below w.heap.size w V → RowD V base (.slice A deps.length c) deps := fun V B => h.move fun b hb => B.block b (h.typed b hb).2.1
  obtain ⟨w1, hw1⟩ : ∃ w1, w1 = w.alloc (.cells (cellsG (List.replicate n false)) 4) := ⟨_, rfl⟩
  have B1 : Below w.heap.size w w1 := by rw [hw1]; exact allocB w _
  have G1 : BG w1 w.heap.size (List.replicate n false) := by rw [hw1]; exact heap_alloc_new w _
  obtain ⟨fin, hfin⟩ : ∃ fin, fin = loopO deps n (List.replicate n false) := ⟨_, rfl⟩
  have hall : ∀ b ∈ fin, b = true := by
    unfold orderedO at hO
    rw [← hfin, List.all_eq_true] at hO
    exact hO
  have J0 : ∃ g : List Bool, g.length = n ∧ BG w1 w.heap.size g ∧ loopO deps (n - 0) g = fin := ⟨_, List.length_replicate, G1, hfin.symm⟩
  replace DC := Aside0.mk DC
  replace hd := Aside0.mk hd
  replace hall := Aside0.mk hall
  clear h hO hfin G1
  go_enter Tryz.func20, Tryz.ntmps20
  go_upto_region 2 with (fail)
  rw [← hw1]
  clear hw1 hmk
  go_upto_block 0 with (fail)
  go_cut [] (fun wx => fin.length = n ∧ BG wx w.heap.size fin ∧ Below w.heap.size w wx)
  case first =>
    go_wp2_with fail
    go_loopw [15] (fun iv wr => ∃ k : Nat, k ≤ n ∧ iv = .int .i64 k ∧ Below w.heap.size w wr ∧ ∃ g : List Bool, g.length = n ∧ BG wr w.heap.size g ∧ loopO deps (n - k) g = fin) (fun iv _ => n - (intOf iv).toNat)
    case atStart => exact ⟨0, Nat.zero_le _, rfl, B1, J0⟩
    case round =>
      clear J0 B1
      obtain ⟨k, hk, rfl, hB, g, hgl, hG, hlp⟩ := hrel
      by_cases hkl : k < n
      · have hlp2 : fin = if cntT g < cntT (passO deps g n) then loopO deps (n - (k + 1)) (passO deps g n) else passO deps g n := by
          rw [← hlp, show n - k = (n - (k + 1)) + 1 by omega]
          show (if cntT g < cntT (passO deps g g.length) then loopO deps (n - (k + 1)) (passO deps g g.length) else passO deps g g.length) = _
          rw [hgl]
        replace hlp2 := Aside0.mk hlp2
        replace hgl := Aside0.mk hgl
        clear hlp
        go_wp2_with fail
        go_loopw [6, 18] (fun mv iv wr => ∃ i : Nat, i ≤ n ∧ iv = .int .i64 i ∧ mv = .bool (decide (cntT g < cntT (passO deps g i))) ∧ BG wr w.heap.size (passO deps g i) ∧ Below w.heap.size w wr) (fun _ iv _ => n - (intOf iv).toNat)
        case atStart => exact ⟨0, Nat.zero_le _, rfl, by show Value.bool false = .bool (decide (cntT g < cntT g)); simp, hG, hB⟩
        case round =>
          clear hG hB
          obtain ⟨i, hi, rfl, rfl, hG, hB⟩ := hrel
          by_cases hil : i < n
          · have hps := passO_succ deps g i
            have hpl := passO_len deps g i
            have hpc := passO_cnt (deps := deps) (g := g) i (by have := hgl.out; omega)
            have hfc := stepO_cnt (deps := deps) (g := passO deps g i) (i := i) (by rw [hpl]; have := hgl.out; omega)
            rw [hgl.out] at hpl
            generalize passO deps g i = g' at hps hpl hpc hfc hG
            have hgi : g'[i]? = some (g'[i]'(by omega)) := List.getElem?_eq_getElem (by omega)
            generalize g'[i]'(by omega) = bi at hgi
            have ci := hG.cell hgi
            have hfe := freeO_eq deps g' i
            rw [hgi] at hfe
            simp only [Option.getD_some] at hfe
            replace hps := Aside0.mk hps
            replace hpc := Aside0.mk hpc
            replace hfc := Aside0.mk hfc
            replace hfe := Aside0.mk hfe
            replace hgi := Aside0.mk hgi
            replace hpl := Aside0.mk hpl
            generalize hmv : decide (cntT g < cntT g') = mv
            replace hmv := Aside0.mk hmv
            go_wp2_with fail
            go_loopw [8, 28] (fun fv iv wr => ∃ m : Nat, m ≤ deps.length ∧ iv = .int .i64 m ∧ fv = .bool (!bi && (deps.take m).all (okD g' i)) ∧ BG wr w.heap.size g' ∧ Below w.heap.size w wr) (fun _ iv _ => deps.length - (intOf iv).toNat)
            case atStart => exact ⟨0, Nat.zero_le _, rfl, by rw [List.take_zero]; simp, hG, hB⟩
            case round =>
              clear hG hB ci
              obtain ⟨m, hm, rfl, rfl, hG, hB⟩ := hrel
              by_cases hml : m < deps.length
              · have hD := DC.out _ hB
                obtain ⟨gd, rfl, _⟩ := hA (by omega)
                obtain ⟨y0, y1⟩ := RowD.at hD m deps[m] (List.getElem?_eq_getElem hml)
                have hat := all_take_succ (okD g' i) deps m _ (List.getElem?_eq_getElem hml)
                have hdn := hd.out _ (List.getElem_mem hml)
                generalize deps[m] = d at y0 y1 hat hdn
                obtain ⟨d0, d1⟩ := d
                dsimp only at y0 y1 hdn
                have hgd : g'[d0]? = some (g'[d0]'(by have := hpl.out; omega)) := List.getElem?_eq_getElem (by have := hpl.out; omega)
                generalize g'[d0]'(by have := hpl.out; omega) = bd at hgd
                have hok : okD g' i (d0, d1) = !(d1 == i && d0 != i && !bd) := by unfold okD; rw [hgd]; rfl
                rw [hok] at hat
                obtain ⟨W6, hW6⟩ : ∃ W6, W6 = wr.alloc (.cells #[.int .i64 (d0 : Int), .int .i64 (d1 : Int)] 128) := ⟨_, rfl⟩
                have B6 : Below wr.heap.size wr W6 := by rw [hW6]; exact allocB wr _
                have ob6 : W6.heap[wr.heap.size]? = some (.cells #[.int .i64 (d0 : Int), .int .i64 (d1 : Int)] 128 (0, 0)) := by rw [hW6]; exact heap_alloc_new wr _
                have x0 := cell_of_row W6 _ 0 _ 128 (0, 0) ob6
                have x1 := cell_of_row W6 _ 1 _ 128 (0, 0) ob6
                have hG6 := hG.below B6
                have cd := hG6.cell hgd
                have hB6 := below_then hB hB.size B6
                generalize (deps.take m).all (okD g' i) = al at hat
                have NEXT : ∀ fb, fb = (!bi && (al && !(d1 == i && d0 != i && !bd))) → ∃ m' : Nat, m' ≤ deps.length ∧ Value.int .i64 ((m : Int) + 1) = .int .i64 m' ∧ Value.bool fb = .bool (!bi && (deps.take m').all (okD g' i)) ∧ BG W6 w.heap.size g' ∧ Below w.heap.size w W6 := fun fb hfb => ⟨m + 1, hml, by push_cast; rfl, by rw [hat, hfb], hG6, hB6⟩
                clear hG hB B6 ob6 hD hgd hok hat hG6 hB6
                go_upto_region 12 with (fail)
                rw [← hW6]
                clear hW6 y0 y1
                generalize hf : (!bi && al) = f
                have hf2 : ∀ z, (!bi && (al && z)) = (f && z) := fun z => by rw [← hf, Bool.and_assoc]
                cases f with
                | false =>
                  have N1 := Aside0.mk (NEXT false (by rw [hf2]; rfl))
                  clear NEXT hf hf2
                  go_wp2
                  exact ⟨N1.out, by simp [intOf]; omega⟩
                | true =>
                  by_cases e1 : d1 = i
                  · have E1 : ((d1 : Int) == (i : Int)) = true := by rw [e1]; simp
                    have E1' : (d1 == i) = true := by rw [e1]; simp
                    by_cases e2 : d0 = i
                    · have E2 : ((d0 : Int) != (i : Int)) = false := by rw [e2]; simp
                      have E2' : (d0 != i) = false := by rw [e2]; simp
                      have N1 := Aside0.mk (NEXT true (by rw [hf2, E1', E2']; rfl))
                      replace e1 := Aside0.mk e1
                      replace e2 := Aside0.mk e2
                      clear NEXT hf hf2 E1' E2'
                      go_wp2
                      exact ⟨N1.out, by simp [intOf]; omega⟩
                    · have E2 : ((d0 : Int) != (i : Int)) = true := by simp; omega
                      have E2' : (d0 != i) = true := by simp; omega
                      have N1 := Aside0.mk (NEXT bd (by rw [hf2, E1', E2']; simp))
                      replace e1 := Aside0.mk e1
                      replace e2 := Aside0.mk e2
                      clear NEXT hf hf2 E1' E2'
                      go_wp2
                      exact ⟨N1.out, by simp [intOf]; omega⟩
                  · have E1 : ((d1 : Int) == (i : Int)) = false := by simp; omega
                    have E1' : (d1 == i) = false := by simp; omega
                    have N1 := Aside0.mk (NEXT true (by rw [hf2, E1']; simp))
                    replace e1 := Aside0.mk e1
                    clear NEXT hf hf2 E1'
                    go_wp2
                    exact ⟨N1.out, by simp [intOf]; omega⟩
              · obtain rfl : m = deps.length := by omega
                rw [← hfe.out]
                have fz : wr.frozen? ⟨w.heap.size, i, none⟩ = false := blk_frozen hG _
                have ci := hG.cell hgi.out
                cases hfr : freeO deps g' i with
                | true =>
                  have N1 : ∃ i' : Nat, i' ≤ n ∧ Value.int .i64 ((i : Int) + 1) = .int .i64 i' ∧ Value.bool true = .bool (decide (cntT g < cntT (passO deps g i'))) ∧ BG (wr.setCell ⟨w.heap.size, i, none⟩ (.bool true)) w.heap.size (passO deps g i') ∧ Below w.heap.size w (wr.setCell ⟨w.heap.size, i, none⟩ (.bool true)) := by
                    have h1 := hfc.out
                    rw [if_pos hfr] at h1
                    have h2 := hpc.out
                    refine ⟨i + 1, hil, by push_cast; rfl, ?_, ?_, hB.grown (grown_set wr w.heap.size i (.bool true)) hB.size (fun k hk => by injection hk with hk; omega)⟩
                    · rw [hps.out, decide_eq_true (by omega)]
                    · rw [hps.out]
                      unfold stepO
                      rw [if_pos hfr]
                      exact hG.set i
                  replace N1 := Aside0.mk N1
                  replace hfr := Aside0.mk hfr
                  clear hG hB
                  go_wp2
                  exact ⟨N1.out, by simp [intOf]; omega⟩
                | false =>
                  have N1 : ∃ i' : Nat, i' ≤ n ∧ Value.int .i64 ((i : Int) + 1) = .int .i64 i' ∧ Value.bool mv = .bool (decide (cntT g < cntT (passO deps g i'))) ∧ BG wr w.heap.size (passO deps g i') ∧ Below w.heap.size w wr := by
                    have e : stepO deps g' i = g' := by
                      unfold stepO
                      rw [if_neg (by rw [hfr]; simp)]
                    refine ⟨i + 1, hil, by push_cast; rfl, ?_, ?_, hB⟩
                    · rw [hps.out, e, hmv.out]
                    · rw [hps.out, e]
                      exact hG
                  replace N1 := Aside0.mk N1
                  replace hfr := Aside0.mk hfr
                  clear hG hB fz
                  go_wp2
                  exact ⟨N1.out, by simp [intOf]; omega⟩
          · obtain rfl : i = n := by omega
            have hpl := passO_len deps g i
            rw [hgl.out] at hpl
            generalize passO deps g i = g' at hpl hlp2 hG
            cases hmv : decide (cntT g < cntT g') with
            | true =>
              have N1 : ∃ k' : Nat, k' ≤ i ∧ Value.int .i64 ((k : Int) + 1) = .int .i64 k' ∧ Below w.heap.size w wr ∧ ∃ g : List Bool, g.length = i ∧ BG wr w.heap.size g ∧ loopO deps (i - k') g = fin := ⟨k + 1, hkl, by push_cast; rfl, hB, g', hpl, hG, by rw [hlp2.out, if_pos (of_decide_eq_true hmv)]⟩
              replace N1 := Aside0.mk N1
              replace hmv := Aside0.mk hmv
              replace hpl := Aside0.mk hpl
              clear hG hB
              go_wp2
              exact ⟨N1.out, by simp [intOf]; omega⟩
            | false =>
              have N1 : fin.length = i ∧ BG wr w.heap.size fin ∧ Below w.heap.size w wr := by
                rw [hlp2.out, if_neg (of_decide_eq_false hmv)]
                exact ⟨hpl, hG, hB⟩
              replace N1 := Aside0.mk N1
              replace hmv := Aside0.mk hmv
              replace hpl := Aside0.mk hpl
              clear hG hB
              go_wp2
              go_meet
              exact N1.out
      · obtain rfl : k = n := by omega
        rw [Nat.sub_self] at hlp
        have hlp : g = fin := hlp
        subst hlp
        go_wp2
        go_meet
        exact ⟨hgl, hG, hB⟩
  case rest =>
    clear J0 B1
    obtain ⟨hfl, hG, hB⟩ := hcut
    replace hfl := Aside0.mk hfl
    go_wp2_with fail
    go_loopw [64] (fun iv wr => ∃ i : Nat, i ≤ n ∧ iv = .int .i64 i ∧ BG wr w.heap.size fin ∧ Below w.heap.size w wr) (fun iv _ => n - (intOf iv).toNat)
    case atStart => exact ⟨0, Nat.zero_le _, rfl, hG, hB⟩
    case round =>
      clear hG hB
      obtain ⟨i, hi, rfl, hG, hB⟩ := hrel
      by_cases hil : i < n
      · have ci : wr.cell? ⟨w.heap.size, i, none⟩ = some (.bool true) := by
          have e : fin[i]? = some (fin[i]'(by have := hfl.out; omega)) := List.getElem?_eq_getElem (by have := hfl.out; omega)
          rw [hall.out _ (List.getElem_mem _)] at e
          exact hG.cell e
        have N1 : ∃ i' : Nat, i' ≤ n ∧ Value.int .i64 ((i : Int) + 1) = .int .i64 i' ∧ BG wr w.heap.size fin ∧ Below w.heap.size w wr := ⟨i + 1, hil, by push_cast; rfl, hG, hB⟩
        replace N1 := Aside0.mk N1
        clear hG hB
        go_wp2
        exact ⟨N1.out, by simp [intOf]; omega⟩
      · obtain rfl : i = n := by omega
        go_wp2
        go_ret
        exact ⟨rfl, hB⟩
end Go.Proofs.YthaoedfalkebbaaGreat
namespace Go.Proofs.YthaoedfalkebbaaGreat
open Go.RowKit Go.Maps Go.Sort Go.Lib Go.Shelf Go.Proofs.YthaoedfalkebbaaGreatW.PrintWords Go.Proofs.YthaoedfalkebbaaGreatW.PrintLast Go.Proofs.YthaoedfalkebbaaGreatW.PrintMore
set_option linter.unusedVariables false
set_option linter.unusedSimpArgs false
set_option linter.unusedSectionVars false
theorem step_caps {ρ : Type} {I : RdI ρ} (W : Wld ρ) (o : Opn) (m : Int) : (W.step I o m).2.m.caps = W.m.caps := by
  have ho : ∀ i x, (W.opAt I o i x).2.m.caps = W.m.caps := fun i x => by
    unfold Wld.opAt
    split
    · exact read_caps _ _
    · split
      · exact scan_caps _ _ _ _
      · split
        · exact write_caps _ _ _
        · split
          · split
            · exact commit_caps _
            · exact commit_caps _
          · exact abort_caps _
  unfold Wld.step
  split
  · split
    · exact begin_caps
    · exact begin_caps
  · split
    · rfl
    · split
      · rfl
      · split
        · rfl
        · dsimp only
          split
          · exact ho _ _
          · exact ho _ _
theorem okT (c : Cp) : (fun r : St => InvK r ∧ r.n ≤ c.reads) St0 ↔ 0 ≤ c.reads := ⟨fun h => h.2, fun h => ⟨InvK.empty, h⟩⟩
theorem hasT (most n : Int) : (iT most).has St0 n = false := by
  cases h : (iT most).has St0 n with
  | false => rfl
  | true =>
    obtain ⟨q, hq, _⟩ := (has_iff InvK.empty n).1 h
    cases hq
theorem may_reads {c : Cp} (h : mayC c = true) : 0 ≤ c.reads := by
  rw [mayC_eq] at h
  simp only [Bool.and_eq_true, decide_eq_true_eq] at h
  omega
abbrev okS (c : Cp) : St → Prop := fun r => InvK r ∧ r.n ≤ c.reads
/-- what a law has of its world when k operations are done -/
def Lw (w3 : World) (b q p : Nat) (U : Nat → Prop) (rv : Value) (W : Wld St) (wr : World) : Prop := ∃ F' vv lv xs', Wm wr b q p F' U W rv vv lv xs' ∧ KeepW U w3 wr
section
variable {w3 wr V : World} {b q p : Nat} {U : Nat → Prop} {rv : Value} {W : Wld St}
theorem Lw.below (h : Lw w3 b q p U rv W wr) (B : Below wr.heap.size wr V) : Lw w3 b q p U rv W V := by
  obtain ⟨F', vv, lv, xs', H, k⟩ := h
  exact ⟨F', vv, lv, xs', H.below B, k.trans (KeepW.ofBelow B H.m.size)⟩
theorem Lw.ahead (h : Lw w3 b q p U rv W wr) {n : Nat} (hn : n ≤ w3.heap.size) (hU : ∀ k, U k → n ≤ k) : Below n w3 wr := by
  obtain ⟨F', vv, lv, xs', H, k⟩ := h
  exact k.fr.below hn hU
theorem Lw.bad_at (h : Lw w3 b q p U rv W wr) : wr.cell? ⟨q, 4, none⟩ = some (.bool W.bad) := by
  obtain ⟨F', vv, lv, xs', H, k⟩ := h
  exact H.cell.2.2.2.2
theorem Lw.list_at (h : Lw w3 b q p U rv W wr) : ∃ A c, wr.cell? ⟨q, 3, none⟩ = some (.slice A W.list.length c) := by
  obtain ⟨F', vv, lv, xs', H, k⟩ := h
  obtain ⟨A, c, e, _⟩ := H.list.slice
  have := H.cell.2.2.2.1
  rw [e] at this
  rw [← H.fst, List.length_map]
  exact ⟨A, c, this⟩
end
theorem deps_fst {vs : List Ver} {list : List Run} (hby : ∀ v ∈ vs, v.by_ < list.length) (hsaw : ∀ x ∈ list, ∀ r ∈ x.reads, 0 ≤ r.saw → r.saw.toNat < vs.length) : ∀ d ∈ depsW vs list, d.1 < list.length := by
  intro d hd
  unfold depsW at hd
  rcases List.mem_append.1 hd with hd | hd
  · obtain ⟨l, hl, hd⟩ := List.mem_flatten.1 hd
    obtain ⟨j, hj, rfl⟩ := List.mem_mapIdx.1 hl
    unfold depsX at hd
    split at hd
    · obtain ⟨r, hr, hd⟩ := List.mem_flatMap.1 hd
      unfold depsR at hd
      dsimp only at hd
      rcases List.mem_append.1 hd with hd | hd
      · split at hd
        · rename_i h0
          have h1 := hsaw _ (List.getElem_mem hj) r hr h0
          rw [List.mem_singleton.1 hd, List.getElem?_eq_getElem h1]
          exact hby _ (List.getElem_mem h1)
        · cases hd
      · generalize (if 0 ≤ r.saw then ((vs[r.saw.toNat]?).map (·.next)).getD (-1) else firstV vs r.at_) = nx at hd
        split at hd
        · rw [List.mem_singleton.1 hd]
          exact hj
        · cases hd
    · cases hd
  · obtain ⟨v, hv, hd⟩ := List.mem_flatMap.1 hd
    unfold depsV at hd
    split at hd
    · rw [List.mem_singleton.1 hd]
      exact hby v hv
    · cases hd
theorem si_saw {list : List Run} {G : List Gh} {vs : List Ver} {now : Int} (s : SI list G vs now) : ∀ x ∈ list, ∀ r ∈ x.reads, 0 ≤ r.saw → r.saw.toNat < vs.length := fun x hx r hr h0 => by
  have e := s.saw x hx r hr
  rcases newest_cases vs r.at_ x.snap with ⟨h1, _⟩ | ⟨k, v, h1, h2, _⟩
  · rw [h1] at e; omega
  · rw [h1] at e
    have := (List.getElem?_eq_some_iff.1 h2).1
    omega
theorem si_next {list : List Run} {G : List Gh} {vs : List Ver} {now : Int} (s : SI list G vs now) : ∀ v ∈ vs, 0 ≤ v.next → v.next.toNat < vs.length := fun v hv h0 => by
  obtain ⟨k, hk⟩ := List.mem_iff_getElem?.1 hv
  obtain ⟨m, u, h1, _, h2, _⟩ := s.vnext k v hk h0
  have := (List.getElem?_eq_some_iff.1 h2).1
  omega
theorem si_by {list : List Run} {G : List Gh} {vs : List Ver} {now : Int} (s : SI list G vs now) : ∀ v ∈ vs, v.by_ < list.length := fun v hv => by
  obtain ⟨x, g, h1, _⟩ := s.vby v hv
  exact (List.getElem?_eq_some_iff.1 h1).1
section
variable {w3 wr : World} {b q p : Nat} {U : Nat → Prop} {rv : Value}
theorem deps_len {vs : List Ver} {list : List Run} : (depsW vs list).length ≤ 2 * (list.map (fun x => x.reads.length)).sum + vs.length := by
  have e1 := depsN_len vs list list.length
  have e2 := depsM_len vs vs.length
  have e : depsW vs list = depsN vs list list.length ++ depsM vs vs.length := by
    unfold depsW depsN depsM
    rw [List.take_length, List.take_length]
  rw [e, List.length_append]
  rw [List.take_length] at e1
  omega
theorem ordered_s {W : Wld St} {G : List Gh} {ok : St → Prop} {I : RdI St} (M : MI I ok W.m W.list G) (s : SI W.list G W.vers W.m.now) {k R : Nat} (hB : Bd W k R) (hk : k ≤ 1048576) (hR : R ≤ 1048576) {base : Nat} {v : Value} {V : World} (hv : RowD V base v (depsW W.vers W.list)) :
    Calls Tryz.prog 20 #[.int .i64 (W.list.length : Int), v] V fun e w' => e = .returned (.bool true) ∧ Below V.heap.size V w' := by
  obtain ⟨s1, s2⟩ := sq_bound hk hR
  have h1 := hB.reads
  have h2 := hB.vers
  have h3 := hB.list
  have h4 := deps_len (vs := W.vers) (list := W.list)
  exact ordered_calls base v _ _ V hv (by omega) (deps_fst (si_by s) (si_saw s)) (by omega) (ordered_of M s)
end
end Go.Proofs.YthaoedfalkebbaaGreat
