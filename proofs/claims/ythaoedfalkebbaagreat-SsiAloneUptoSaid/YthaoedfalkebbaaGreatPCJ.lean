/- Cut by a program out of the seat's texts (YO YP YQ YR XM YS YT YV): what the theorem needs, one behind the other. -/
import Derived.Test.YthaoedfalkebbaaGreatPCI
import Derived.Test.YthaoedfalkebbaaGreatPCF
namespace Go.Proofs.YthaoedfalkebbaaGreat
open Go.RowKit Go.Maps Go.Sort Go.Lib Go.Shelf Go.Proofs.YthaoedfalkebbaaGreatW.PrintWords Go.Proofs.YthaoedfalkebbaaGreatW.PrintLast Go.Proofs.YthaoedfalkebbaaGreatW.PrintMore
set_option linter.unusedVariables false
set_option linter.unusedSimpArgs false
set_option linter.unusedSectionVars false
theorem any_perm {α : Type} {p : α → Bool} {l m : List α} (h : l.Perm m) : l.any p = m.any p := by
  rw [Bool.eq_iff_iff, List.any_eq_true, List.any_eq_true]
  exact ⟨fun ⟨x, hx, hp⟩ => ⟨x, h.mem_iff.1 hx, hp⟩, fun ⟨x, hx, hp⟩ => ⟨x, h.mem_iff.2 hx, hp⟩⟩
theorem someT_any {p : Tx → Bool} {vis : List Tx} : someT (vis.filter p) = vis.any p := by
  unfold someT
  rw [Bool.eq_iff_iff, decide_eq_true_iff, List.any_eq_true, List.length_pos_iff_exists_mem]
  constructor
  · rintro ⟨x, hx⟩
    obtain ⟨h1, h2⟩ := List.mem_filter.1 hx
    exact ⟨x, h1, h2⟩
  · rintro ⟨x, hx, h⟩
    exact ⟨x, List.mem_filter.2 ⟨hx, h⟩⟩
theorem conc_ne {t o : Tx} (h : concB t o = true) : o.num ≠ t.num := by
  unfold concB at h
  intro e
  simp [e] at h
/-- the others that are told of -/
def osOf (t : Tx) (so : Tx → Bool) (vis : List Tx) : List Tx := vis.filter (fun o => concB t o && so o)
theorem osOf_q (Q : Int → Nat) (t : Tx) (so : Tx → Bool) (vis : List Tx) : selQ Q t so vis = (osOf t so vis).map (fun o => Q o.num) := rfl
theorem osOf_in {t : Tx} {so : Tx → Bool} {vis txs : List Tx} (hp : vis.Perm txs) : ∀ o ∈ osOf t so vis, o ∈ txs ∧ o.num ≠ t.num := fun o ho => by
  obtain ⟨h1, h2⟩ := List.mem_filter.1 ho
  rw [Bool.and_eq_true] at h2
  exact ⟨hp.mem_iff.1 h1, conc_ne h2.1⟩
theorem osOf_nodup {t : Tx} {so : Tx → Bool} {vis txs : List Tx} (hp : vis.Perm txs) (hd : txs.Pairwise (fun a b => a.num < b.num)) : ((osOf t so vis).map (fun o => o.num)).Nodup := by
  have h1 : (txs.map (fun o => o.num)).Nodup := by
    rw [List.Nodup, List.pairwise_map]
    exact hd.imp (fun h => by omega)
  have h2 : (vis.map (fun o => o.num)).Nodup := (hp.map _).nodup_iff.2 h1
  exact h2.sublist (List.filter_sublist.map _)
theorem putB_bad (t : Tx) (so : Tx → Bool) (out : Bool) {vis txs : List Tx} (hp : vis.Perm txs) :
    badB t (osOf t so vis) out = (bothB t.fin t.fout (!out && txs.any (fun o => concB t o && so o)) (out && txs.any (fun o => concB t o && so o)) || txs.any (fun o => (concB t o && so o) && (!o.act && bothB o.fin o.fout out (!out)))) := by
  unfold badB bad0 osOf
  rw [someT_any, List.any_filter, any_perm hp, any_perm hp]
  rfl
theorem putB_map (t : Tx) (so : Tx → Bool) (out : Bool) {vis txs : List Tx} (hp : vis.Perm txs) (hd : txs.Pairwise (fun a b => a.num < b.num)) :
    txs.map (psi t (someT (osOf t so vis)) out (osOf t so vis)) = txs.map (fun o => if o.num == t.num then (if txs.any (fun o => concB t o && so o) then setF o (!out) else o) else if concB t o && so o then setF o out else o) := by
  refine List.map_congr_left fun x hx => ?_
  unfold psi osOf
  rw [someT_any, any_perm hp]
  by_cases e : x.num = t.num
  · simp [e]
  · have e2 : (x.num == t.num) = false := by simpa using e
    rw [if_neg e, e2]
    simp only [Bool.false_eq_true, if_false]
    have : x.num ∈ (vis.filter (fun o => concB t o && so o)).map (fun o => o.num) ↔ (concB t x && so x) = true := by
      constructor
      · intro h
        obtain ⟨y, hy, hn⟩ := List.mem_map.1 h
        obtain ⟨h1, h2⟩ := List.mem_filter.1 hy
        have : y = x := dist_inj hd (hp.mem_iff.1 h1) hx hn
        rw [← this]; exact h2
      · exact fun h => List.mem_map.2 ⟨x, List.mem_filter.2 ⟨hp.mem_iff.2 hx, h⟩, rfl⟩
    by_cases h : (concB t x && so x) = true
    · rw [if_pos (this.2 h), if_pos h]
    · rw [if_neg (fun h2 => h (this.1 h2)), if_neg h]
/-- what put does -/
theorem put_join {base : Nat} {l : Loc} {S : Sm St} {t : Tx} {so : Tx → Bool} {vis : List Tx} {out : Bool} {w w' : World} {e : Ending} (hp : vis.Perm S.txs) (hd : S.txs.Pairwise (fun a b => a.num < b.num))
    (h : PutPost base l S t (osOf t so vis) out w (fun W => Pm W base l (S.gone (iS S.caps.reads) t.num) ∧ Fr (l.own S.txs) w W) e w') :
    e = .returned (.int .i64 (S.put (iS S.caps.reads) t so out).1) ∧ Pm w' base l (S.put (iS S.caps.reads) t so out).2 ∧ Fr (l.own S.txs) w w' := by
  unfold Sm.put
  rw [← putB_bad t so out hp, ← putB_map t so out hp hd]
  rcases h with ⟨h1, h2, h3, h4⟩ | ⟨h1, h2, h3, h4⟩
  · rw [if_pos h1]
    exact ⟨h2, h3, h4⟩
  · rw [if_neg (by rw [h1]; decide)]
    exact ⟨h2, h3, h4⟩
theorem own4_own {l : Loc} {txs : List Tx} (k : Nat) (h : own4 l k) : l.own txs k := by
  rcases h with h | h | h | h
  · exact .inr (.inl h)
  · exact .inr (.inr (.inr (.inl h)))
  · exact .inr (.inr (.inr (.inr (.inl h))))
  · exact .inr (.inr (.inl h))
theorem held_any (L : List (Lk × Int)) (n : Int) (p : Lk → Bool) : (Lck.heldOf L n).any p = (heldOf L n).any p := by
  unfold Lck.heldOf heldOf Lck.srt
  rw [any_perm (List.mergeSort_perm ..)]
  congr 2
theorem held_len (L : List (Lk × Int)) (n : Int) : (Lck.heldOf L n).length ≤ L.length := by
  unfold Lck.heldOf
  rw [Lck.srt_length, List.length_map]
  exact List.length_filter_le _ _
theorem any_mem {α : Type} {p : α → Bool} {l m : List α} (h : ∀ a, a ∈ l ↔ a ∈ m) : l.any p = m.any p := by
  rw [Bool.eq_iff_iff, List.any_eq_true, List.any_eq_true]
  exact ⟨fun ⟨x, hx, hp⟩ => ⟨x, (h x).1 hx, hp⟩, fun ⟨x, hx, hp⟩ => ⟨x, (h x).2 hx, hp⟩⟩
set_option maxHeartbeats 16000000 in
set_option maxRecDepth 100000 in
theorem wrote_s (base : Nat) (l : Loc) (S : Sm St) (o : Tx) (tb f u : ByteArray) (w : World) (h : Pm w base l S) (ho : o ∈ S.txs) (hlk : S.locks.length ≤ 4096) :
    Calls Tryz.prog 84 #[ptr l.p, ptr (l.Q o.num), .string tb, .string f, .string u] w fun e w' => e = .returned (.bool (wroteB S.locks o tb f u)) ∧ Below w.heap.size w w' := by
  obtain ⟨w1, hw1⟩ : ∃ w1, w1 = ((w.alloc (.cells #[.string tb] 9)).alloc (.cells #[.string f] 9)).alloc (.cells #[.string u] 9) := ⟨_, rfl⟩
  have B1 : Below w.heap.size w w1 := by rw [hw1]; exact below_alloc (below_alloc ((Below.refl _ w).alloc (Nat.le_refl _) _) _) _
  have hsz : w1.heap.size = w.heap.size + 3 := by rw [hw1]; simp [go_sem]
  have b1 : w1.cell? ⟨w.heap.size, 0, none⟩ = some (.string tb) := by rw [hw1]; simp [go_sem]
  have b2 : w1.cell? ⟨w.heap.size + 1, 0, none⟩ = some (.string f) := by rw [hw1]; simp [go_sem]
  have b3 : w1.cell? ⟨w.heap.size + 2, 0, none⟩ = some (.string u) := by rw [hw1]; simp [go_sem]
  have CONT : ∀ W v base xs, Below w1.heap.size w1 W → RowL W base v xs → xs.length ≤ 4096 → Calls Tryz.prog 133 #[v, .func (.func 134) #[] #[ptr w.heap.size, ptr (w.heap.size + 1), ptr (w.heap.size + 2)]] W fun e w' => e = .returned (.bool (xs.any (fun l => eqS l.1 tb && inR l.2 f u))) ∧ Below W.heap.size W w' := fun W v base xs B hr hx => by
    have hs := B.size
    have q1 : w.heap.size < w1.heap.size := by omega
    have q2 : w.heap.size + 1 < w1.heap.size := by omega
    have q3 : w.heap.size + 2 < w1.heap.size := by omega
    exact ContainsFuncL_calls base v xs _ 134 _ enters134 W hr (by omega) (pred134 tb f u _ _ _ xs W ⟨by omega, by omega, by omega⟩ ((B.cell (p := ⟨w.heap.size, 0, none⟩) q1).trans b1) ((B.cell (p := ⟨w.heap.size + 1, 0, none⟩) q2).trans b2) ((B.cell (p := ⟨w.heap.size + 2, 0, none⟩) q3).trans b3))
  have P1 := h.below B1
  obtain ⟨_, _, _, _, _, _, _, c7, c8, c9⟩ := P1.cells
  obtain ⟨vt, hvt, ws, hws, hwl, hwm, -⟩ := P1.tx o ho
  obtain ⟨t0, t1, t2, t3, t4, t5, t6, t7⟩ := tx_cells hvt
  have HL : ∀ n, Calls Tryz.prog 51 #[ptr l.lp, .int .i64 o.num] (w1.drewN n) fun e w' => ∃ v, e = .returned v ∧ RowL w' (w1.drewN n).heap.size v (Lck.heldOf S.locks o.num) ∧ Below w1.heap.size w1 w' := fun n => by
    have P2 := P1.below (drewB2 w1 n)
    refine (Lck.Held_calls l.lp l.lb S.caps.locks S.locks o.num (w1.drewN n) P2.locks hlk).mono ?_
    rintro e w' ⟨v, rfl, hv, B⟩
    exact ⟨v, rfl, Lo.ofR hv, below_then (drewB2 w1 n) (by simp) B⟩
  have hln := held_len S.locks o.num
  have CEL : ∀ W, Below w1.heap.size w1 W → W.cell? ⟨l.p, 8, none⟩ = some (ptr l.lp) ∧ W.cell? ⟨l.Q o.num, 0, none⟩ = some (.int .i64 o.num) := fun W B => ⟨(B.cell (p := ⟨l.p, 8, none⟩) (World.block_lt_of_cell? _ _ c8)).trans c8, (B.cell (p := ⟨l.Q o.num, 0, none⟩) (World.block_lt_of_cell? _ _ t0)).trans t0⟩
  unfold wroteB
  cases hact : o.act with
  | true =>
    rw [if_pos rfl, ← held_any]
    rw [hact] at t2
    have CONT := fun W v base B hr => CONT W v base (Lck.heldOf S.locks o.num) B hr (Nat.le_trans hln hlk)
    clear P1 h hvt hws hwl hwm hln hlk b1 b2 b3 t1 t3 t4 t5 t6 hsz ho
    generalize Lck.heldOf S.locks o.num = hs at HL CONT ⊢
    generalize l.Q o.num = qo at *
    replace hact := Aside0.mk hact
    replace CONT := Aside0.mk CONT
    replace CEL := Aside0.mk CEL
    go_enter Tryz.func84, Tryz.ntmps84
    go_upto_region 1 with (fail)
    rw [← hw1]
    clear hw1
    go_wp2_with fail
    go_region_held3 (fun V => V.cell? ⟨l.p, 8, none⟩ = some (ptr l.lp) ∧ V.cell? ⟨qo, 0, none⟩ = some (.int .i64 o.num)) (first | exact ⟨c8, t0⟩ | exact K2)
      ((go_at_call 51; refine (HL _).mono ?_; rintro e w2 ⟨v2, rfl, hv, B2⟩; have CC := CONT.out w2 v2 _ B2 hv; have K2 := CEL.out w2 B2))
    clear HL CONT CEL c7 c8 c9 t0 t2
    go_wp2_with fail
    refine CC.mono ?_
    rintro e w3 ⟨rfl, B3⟩
    go_wp2
    go_ret
    exact ⟨rfl, below_then (below_then B1 B1.size B2) (below_then B1 B1.size B2).size B3⟩
  | false =>
    rw [if_neg (by decide), ← any_mem hwm]
    rw [hact] at t2
    have CC := CONT w1 vt base ws (Below.refl _ _) hws hwl
    clear CEL CONT HL P1 h hvt hws hwl hwm hln hlk b1 b2 b3 t1 t3 t4 t5 t6 hsz ho
    generalize l.Q o.num = qo at *
    generalize ws.any (fun l => eqS l.1 tb && inR l.2 f u) = bb at CC ⊢
    replace hact := Aside0.mk hact
    go_enter Tryz.func84, Tryz.ntmps84
    go_upto_region 1 with (fail)
    rw [← hw1]
    clear hw1
    go_wp2_with fail
    refine CC.mono ?_
    rintro e w3 ⟨rfl, B3⟩
    go_wp2
    go_ret
    exact ⟨rfl, below_then B1 B1.size B3⟩
end Go.Proofs.YthaoedfalkebbaaGreat
namespace Go.Proofs.YthaoedfalkebbaaGreat
open Go.RowKit Go.Maps Go.Sort Go.Lib Go.Shelf Go.Proofs.YthaoedfalkebbaaGreatW.PrintWords Go.Proofs.YthaoedfalkebbaaGreatW.PrintLast Go.Proofs.YthaoedfalkebbaaGreatW.PrintMore
set_option linter.unusedVariables false
set_option linter.unusedSimpArgs false
set_option linter.unusedSectionVars false
theorem entersT83 : ∀ args w, (callFunc 83 args).run Tryz.prog w = .ok (.enter 83 args) w := enters_of Tryz.func83 (by kernel_rfl) rfl
theorem entersT45 : ∀ args w, (callFunc 45 args).run Tryz.prog w = .ok (.enter 45 args) w := enters_of Tryz.func45 (by kernel_rfl) rfl
theorem entersT49 : ∀ args w, (callFunc 49 args).run Tryz.prog w = .ok (.enter 49 args) w := enters_of Tryz.func49 (by kernel_rfl) rfl
theorem below_cell {w W : World} (B : Below w.heap.size w W) {b i : Nat} {v : Value} (h : w.cell? ⟨b, i, none⟩ = some v) : W.cell? ⟨b, i, none⟩ = some v := (B.cell (p := ⟨b, i, none⟩) (World.block_lt_of_cell? _ _ h)).trans h
set_option maxHeartbeats 4000000 in
set_option maxRecDepth 100000 in
/-- it wrote what the read touches -/
theorem pred83 (base : Nat) (l : Loc) (S : Sm St) (tb f u : ByteArray) (b0 b1 b2 b3 : Nat) (w : World) (h : Pm w base l S) (hlk : S.locks.length ≤ 4096)
    (h0 : w.cell? ⟨b0, 0, none⟩ = some (ptr l.p)) (h1 : w.cell? ⟨b1, 0, none⟩ = some (.string tb)) (h2 : w.cell? ⟨b2, 0, none⟩ = some (.string f)) (h3 : w.cell? ⟨b3, 0, none⟩ = some (.string u)) :
    PredT w 83 #[ptr b0, ptr b1, ptr b2, ptr b3] l.Q (fun o => wroteB S.locks o tb f u) S.txs := by
  intro W o ho B
  have P := h.below B
  have c0 := below_cell B h0
  have c1 := below_cell B h1
  have c2 := below_cell B h2
  have c3 := below_cell B h3
  have C := wrote_s base l S o tb f u W P ho hlk
  show Calls Tryz.prog 83 #[ptr (l.Q o.num), ptr b0, ptr b1, ptr b2, ptr b3] W fun e w' => e = .returned (.bool (wroteB S.locks o tb f u)) ∧ Below W.heap.size W w'
  generalize wroteB S.locks o tb f u = r at C ⊢
  clear P h h0 h1 h2 h3 hlk B
  go_enter Tryz.func83, Tryz.ntmps83
  go_wp2_with fail
  refine C.mono ?_
  rintro e w3 ⟨rfl, D3⟩
  go_wp2
  go_ret
  exact ⟨rfl, D3⟩
set_option maxHeartbeats 4000000 in
set_option maxRecDepth 100000 in
/-- it has been read by one of them -/
theorem pred49 (base base2 : Nat) (l : Loc) (S : Sm St) (ns : List Int) (v : Value) (b0 : Nat) (w : World) (h : Pm w base l S) (hv : RowI w base2 v ns) (hl : ns.length ≤ 65536) (h0 : w.cell? ⟨b0, 0, none⟩ = some v) :
    PredT w 49 #[ptr b0] l.Q (fun o => ns.any (· == o.num)) S.txs := by
  intro W o ho B
  have P := h.below B
  have c0 := below_cell B h0
  obtain ⟨vt, hvt, _⟩ := P.tx o ho
  obtain ⟨t0, _⟩ := tx_cells hvt
  have C : ∀ n, Calls Tryz.prog 50 #[v, .int .i64 o.num] (W.drewN n) fun e w' => e = .returned (.bool (ns.any (· == o.num))) ∧ Below W.heap.size W w' := fun n => by
    have hv2 : RowI (W.drewN n) base2 v ns := (hv.grown (grown_of_below B none) (by simp)).grown (drewNG W n) (by simp)
    refine (Contains_calls base2 v ns o.num _ hv2 hl).mono ?_
    rintro e w' ⟨rfl, rfl⟩
    exact ⟨rfl, drewB2 W n⟩
  have K : ∀ W2, Below W.heap.size W W2 → W2.cell? ⟨b0, 0, none⟩ = some v ∧ W2.cell? ⟨l.Q o.num, 0, none⟩ = some (.int .i64 o.num) := fun W2 B2 => ⟨below_cell B2 c0, below_cell B2 t0⟩
  show Calls Tryz.prog 49 #[ptr (l.Q o.num), ptr b0] W fun e w' => e = .returned (.bool (ns.any (· == o.num))) ∧ Below W.heap.size W w'
  generalize l.Q o.num = q at *
  generalize ns.any (· == o.num) = r at C ⊢
  clear P h h0 hl hv hvt B
  replace K := Aside0.mk K
  go_enter Tryz.func49, Tryz.ntmps49
  go_wp2_with fail
  go_region_held3 (fun V => V.cell? ⟨b0, 0, none⟩ = some v ∧ V.cell? ⟨q, 0, none⟩ = some (.int .i64 o.num)) (first | exact ⟨c0, t0⟩ | exact K2)
    ((go_at_call 50; refine (C _).mono ?_; rintro e w3 ⟨rfl, D3⟩; have K2 := K.out w3 D3))
  all_goals go_wp2
  all_goals go_ret
  all_goals exact ⟨rfl, D3⟩
set_option maxHeartbeats 4000000 in
set_option maxRecDepth 100000 in
/-- it is over and wrote the place -/
theorem pred45 (base : Nat) (l : Loc) (S : Sm St) (a : Lk) (b0 : Nat) (w : World) (h : Pm w base l S) (h0 : w.cell? ⟨b0, 0, none⟩ = some (.string a.1)) (h1 : w.cell? ⟨b0, 1, none⟩ = some (.string a.2)) :
    PredT w 45 #[ptr b0] l.Q (fun o => !o.act && decide (a ∈ o.wrote)) S.txs := by
  intro W o ho B
  have P := h.below B
  have c0 := below_cell B h0
  have c1 := below_cell B h1
  obtain ⟨vt, hvt, ws, hws, hwl, hwm, -⟩ := P.tx o ho
  obtain ⟨_, _, t2, _, _, _, _, t7⟩ := tx_cells hvt
  have e : decide (a ∈ o.wrote) = decide (a ∈ ws) := decide_eq_decide.2 (hwm a).symm
  show Calls Tryz.prog 45 #[ptr (l.Q o.num), ptr b0] W fun e w' => e = .returned (.bool (!o.act && decide (a ∈ o.wrote))) ∧ Below W.heap.size W w'
  rw [e]
  have C : ∀ n, Calls Tryz.prog 46 #[vt, .agg #[.string a.1, .string a.2]] (W.drewN n) fun e w' => e = .returned (.bool (decide (a ∈ ws))) ∧ Below W.heap.size W w' := fun n => by
    have hv2 : RowL (W.drewN n) base vt ws := hws.grown (drewNG W n) (by simp)
    refine (ContainsL_calls base vt ws a _ hv2 (by omega)).mono ?_
    rintro e w' ⟨rfl, B2⟩
    exact ⟨rfl, below_then (drewB2 W n) (by simp) B2⟩
  have K : ∀ W2, Below W.heap.size W W2 → W2.cell? ⟨b0, 0, none⟩ = some (.string a.1) ∧ W2.cell? ⟨b0, 1, none⟩ = some (.string a.2) ∧ W2.cell? ⟨l.Q o.num, 2, none⟩ = some (.bool o.act) ∧ W2.cell? ⟨l.Q o.num, 7, none⟩ = some vt := fun W2 B2 => ⟨below_cell B2 c0, below_cell B2 c1, below_cell B2 t2, below_cell B2 t7⟩
  show Calls Tryz.prog 45 #[ptr (l.Q o.num), ptr b0] W fun e w' => e = .returned (.bool (!o.act && decide (a ∈ ws))) ∧ Below W.heap.size W w'
  generalize l.Q o.num = q at *
  generalize decide (a ∈ ws) = r at C ⊢
  generalize o.act = oa at *
  clear P h h0 h1 hwl hwm hws hvt B e
  replace K := Aside0.mk K
  cases oa with
  | true =>
    clear C
    go_enter Tryz.func45, Tryz.ntmps45
    go_wp2_with fail
    go_region
    all_goals go_wp2
    all_goals go_ret
    all_goals exact ⟨rfl, by first | exact Below.refl _ _ | exact drewB2 _ _⟩
  | false =>
    go_enter Tryz.func45, Tryz.ntmps45
    go_wp2_with fail
    go_region_held3 (fun V => V.cell? ⟨b0, 0, none⟩ = some (.string a.1) ∧ V.cell? ⟨b0, 1, none⟩ = some (.string a.2) ∧ V.cell? ⟨q, 2, none⟩ = some (.bool false) ∧ V.cell? ⟨q, 7, none⟩ = some vt) (first | exact ⟨c0, c1, t2, t7⟩ | exact K2)
      ((go_at_call 46; refine (C _).mono ?_; rintro e w3 ⟨rfl, D3⟩; have K2 := K.out w3 D3))
    all_goals go_wp2
    all_goals go_ret
    all_goals exact ⟨rfl, D3⟩
theorem Pm.noted {w w' : World} {base : Nat} {l : Loc} {S : Sm St} {rb' : Nat} {r : St} (h : Pm w base l S) (hg : w.grownBy w' (some l.rp)) (hr : MrS w' base l.rp rb' S.caps.reads r) (hb : rb' = l.rb ∨ w.heap.size ≤ rb') : Pm w' base { l with rb := rb' } { S with reads := r } := by
  obtain ⟨hk, k1, k2, k3, k4, k5, k6, k7, k8, k9, k10, k11, k12⟩ := h.kinds
  have f := Fr.grown hg
  have no : ∀ k, k ≠ l.rp → ¬ (some l.rp = some k) := fun k hk e => by injection e with e; exact hk e.symm
  obtain ⟨es1, c1, hmap⟩ := h.tab.isMap
  obtain ⟨cr, sr, hrr⟩ := h.reads.is55
  obtain ⟨D, ⟨es, clock, hlm, _⟩, _⟩ := h.locks.tab
  have l1 : l.mb < w.heap.size := (Array.getElem?_eq_some_iff.1 hmap).1
  have l2 : l.lb < w.heap.size := (Array.getElem?_eq_some_iff.1 hlm).1
  have hbb : base ≤ rb' := by
    obtain ⟨⟨L, M, _, hbb⟩, _⟩ := hr
    exact hbb
  constructor
  · exact f.block _ _ (no l.p k4) h.head
  · exact h.tab.fr f (no _ (fun e => k10 e.symm))
  · intro t ht
    obtain ⟨v, h1, ws, h2, h3⟩ := h.tx t ht
    obtain ⟨q1, q2, q3, q4, q5, q6⟩ := hk t ht
    refine ⟨v, f.block _ _ (no _ q5) h1, ws, h2.move fun g hg => ?_, h3⟩
    obtain ⟨_, _, cells, hc⟩ := h2.typed g hg
    refine (f.block g _ (no g (fun e => ?_)) hc).trans hc.symm
    rw [e, hrr] at hc
    simp at hc
  · exact h.qinj
  · exact h.locks.fr f (no _ (by omega)) (no _ (fun e => k11 e.symm))
  · obtain ⟨c, s, hc⟩ := h.lkind
    exact ⟨c, s, f.block _ _ (no _ (by omega)) hc⟩
  · exact hr
  · exact h.dist
  · exact h.nums
  · exact h.few
  · exact h.ne1
  · rcases hb with e | e
    · show l.mb ≠ rb'
      rw [e]; exact h.ne2
    · show l.mb ≠ rb'
      omega
  · rcases hb with e | e
    · show l.lb ≠ rb'
      rw [e]; exact h.ne3
    · show l.lb ≠ rb'
      omega
  · exact ⟨h.low.1, h.low.2.1, h.low.2.2.1, h.low.2.2.2.1, hbb, h.low.2.2.2.2.2⟩
end Go.Proofs.YthaoedfalkebbaaGreat
namespace Go.Proofs.YthaoedfalkebbaaGreat
open Go.RowKit Go.Maps Go.Sort Go.Lib Go.Shelf Go.Proofs.YthaoedfalkebbaaGreatW.PrintWords Go.Proofs.YthaoedfalkebbaaGreatW.PrintLast Go.Proofs.YthaoedfalkebbaaGreatW.PrintMore
set_option linter.unusedVariables false
set_option linter.unusedSimpArgs false
set_option linter.unusedSectionVars false
theorem put_all (base nb : Nat) (l : Loc) (S : Sm St) (t : Tx) (so : Tx → Bool) (out : Bool) (u : Value) (w : World) (vis : List Tx) (h : Pm w base l S) (ht : t ∈ S.txs) (hp : vis.Perm S.txs) (hu : RowQ w nb u (selQ l.Q t so vis)) (hlk : S.locks.length ≤ 4096) :
    Calls Tryz.prog 48 #[ptr l.p, ptr (l.Q t.num), u, .bool out] w fun e w' => e = .returned (.int .i64 (S.put (iS S.caps.reads) t so out).1) ∧ Pm w' base l (S.put (iS S.caps.reads) t so out).2 ∧ Fr (l.own S.txs) w w' := by
  rw [osOf_q] at hu
  have hle : (osOf t so vis).length ≤ 65536 := Nat.le_trans (Nat.le_trans (List.length_filter_le _ _) (Nat.le_of_eq hp.length_eq)) h.few
  refine (put_s base nb l S t (osOf t so vis) out u w (fun W => Pm W base l (S.gone (iS S.caps.reads) t.num) ∧ Fr (l.own S.txs) w W) h ht (osOf_in hp) (osOf_nodup hp h.dist) hu hle (fun W B => ?_)).mono (fun e w' H => put_join hp h.dist H)
  refine (gone_s base l S t W (h.below B) ht hlk).mono ?_
  rintro e w' ⟨rfl, h1, h2⟩
  exact ⟨rfl, h1, (Fr.ofBelow (O := l.own S.txs) B).trans h2 (fun k hk _ => own4_own k hk)⟩
theorem others_all (base : Nat) (l : Loc) (S : Sm St) (t : Tx) (so : Tx → Bool) (g : Nat) (lb : Array Value) (eg : ∀ args w, (callFunc g args).run Tryz.prog w = .ok (.enter g args) w) (w : World) (h : Pm w base l S) (ht : t ∈ S.txs) (hp : PredT w g lb l.Q so S.txs) :
    Calls Tryz.prog 44 #[ptr l.p, ptr (l.Q t.num), .func (.func g) #[] lb] w fun e w' => ∃ v vis, e = .returned v ∧ vis.Perm S.txs ∧ RowQ w' w.heap.size v (selQ l.Q t so vis) ∧ Below w.heap.size w w' := by
  refine (others_s base l S t so g lb eg w h ht hp).mono ?_
  rintro e w' ⟨v, vis, h1, h2, h3, h4⟩
  exact ⟨v, vis, h1, h2, Lo.ofR h3, h4⟩
def NoteQ (base : Nat) (l : Loc) (S : Sm St) (t : Tx) (x : Rd) (w : World) (e : Ending) (w2 : World) : Prop :=
  e = .returned (.int .i64 (noteP S.reads S.caps.reads t.num x).1) ∧ ∃ rb', Pm w2 base { l with rb := rb' } { S with reads := (noteP S.reads S.caps.reads t.num x).2 } ∧ (rb' = l.rb ∨ w.heap.size ≤ rb') ∧ Fr (fun k => k = l.rp) w w2
theorem note_all (base : Nat) (l : Loc) (S : Sm St) (t : Tx) (x : Rd) (w : World) (n : Nat) (h : Pm w base l S) (ht : t ∈ S.txs) (hx : x.OK) :
    Calls Tryz.prog 70 #[ptr l.rp, .int .i64 t.num, .agg #[.string x.t, .int .i64 x.k, .string x.f, .string x.u]] (w.drewN n) (NoteQ base l S t x w) := by
  have P := h.below (drewB2 w n)
  refine (Note_S base l.rp l.rb S.caps.reads S.reads t.num x (w.drewN n) P.reads hx (h.nums t ht).2.2).mono ?_
  rintro e w2 ⟨rfl, ⟨rb', h1, h2⟩, h3⟩
  refine ⟨rfl, rb', P.noted h3 h1 h2, by simpa using h2, (Fr.drewN w n).trans (Fr.grown h3) (fun k hk _ => by injection hk with hk; exact hk.symm)⟩
theorem Pm.lts {w : World} {base : Nat} {l : Loc} {S : Sm St} (h : Pm w base l S) : ∀ k, l.own S.txs k → k < w.heap.size := by
  intro k hk
  rcases hk with rfl | rfl | rfl | rfl | rfl | ⟨o, ho, rfl⟩
  · exact (Array.getElem?_eq_some_iff.1 h.head).1
  · obtain ⟨es1, c1, hmap⟩ := h.tab.isMap
    exact (Array.getElem?_eq_some_iff.1 hmap).1
  · obtain ⟨D, ⟨es, clock, hlm, _⟩, _⟩ := h.locks.tab
    exact (Array.getElem?_eq_some_iff.1 hlm).1
  · exact h.reads.lt
  · obtain ⟨⟨L, M, _, _⟩, _⟩ := h.reads
    obtain ⟨e3', c3', hrm⟩ := M.tab.isMap
    exact (Array.getElem?_eq_some_iff.1 hrm).1
  · obtain ⟨v, hv, _⟩ := h.tx o ho
    exact (Array.getElem?_eq_some_iff.1 hv).1
def ReadQ (base : Nat) (l : Loc) (S : Sm St) (t : Tx) (x : Rd) (f u : ByteArray) (w : World) (e : Ending) (w' : World) : Prop :=
  e = .returned (.int .i64 (S.noteS (iS S.caps.reads) t x f u).1) ∧ ∃ rb', Pm w' base { l with rb := rb' } (S.noteS (iS S.caps.reads) t x f u).2 ∧ (rb' = l.rb ∨ w.heap.size ≤ rb') ∧ Fr (l.own S.txs) w w'
set_option maxHeartbeats 16000000 in
set_option maxRecDepth 100000 in
theorem read_s (base : Nat) (l : Loc) (S : Sm St) (t : Tx) (x : Rd) (f u : ByteArray) (w : World) (h : Pm w base l S) (ht : t ∈ S.txs) (hx : x.OK) (hlk : S.locks.length ≤ 4096) :
    Calls Tryz.prog 41 #[ptr l.p, ptr (l.Q t.num), .agg #[.string x.t, .int .i64 x.k, .string x.f, .string x.u], .string x.t, .string f, .string u] w (ReadQ base l S t x f u w) := by
  obtain ⟨w1, hw1⟩ : ∃ w1, w1 = ((((w.alloc (.cells #[ptr l.p] 26)).alloc (.cells #[.string x.t, .int .i64 x.k, .string x.f, .string x.u] 108)).alloc (.cells #[.string x.t] 9)).alloc (.cells #[.string f] 9)).alloc (.cells #[.string u] 9) := ⟨_, rfl⟩
  have hsz : w1.heap.size = w.heap.size + 5 := by rw [hw1]; simp [go_sem]
  have B1 : Below w.heap.size w w1 := by rw [hw1]; exact below_alloc (below_alloc (below_alloc (below_alloc ((Below.refl _ w).alloc (Nat.le_refl _) _) _) _) _) _
  have b0 : w1.cell? ⟨w.heap.size, 0, none⟩ = some (ptr l.p) := by rw [hw1]; simp [go_sem]
  have x0 : w1.cell? ⟨w.heap.size + 1, 0, none⟩ = some (.string x.t) := by rw [hw1]; simp [go_sem]
  have x1 : w1.cell? ⟨w.heap.size + 1, 1, none⟩ = some (.int .i64 x.k) := by rw [hw1]; simp [go_sem]
  have x2 : w1.cell? ⟨w.heap.size + 1, 2, none⟩ = some (.string x.f) := by rw [hw1]; simp [go_sem]
  have x3 : w1.cell? ⟨w.heap.size + 1, 3, none⟩ = some (.string x.u) := by rw [hw1]; simp [go_sem]
  have b1 : w1.cell? ⟨w.heap.size + 2, 0, none⟩ = some (.string x.t) := by rw [hw1]; simp [go_sem]
  have b2 : w1.cell? ⟨w.heap.size + 3, 0, none⟩ = some (.string f) := by rw [hw1]; simp [go_sem]
  have b3 : w1.cell? ⟨w.heap.size + 4, 0, none⟩ = some (.string u) := by rw [hw1]; simp [go_sem]
  have P1 := h.below B1
  obtain ⟨_, _, _, _, _, _, _, c7, c8, c9⟩ := P1.cells
  obtain ⟨vt, hvt, _⟩ := P1.tx t ht
  obtain ⟨t0, _⟩ := tx_cells hvt
  have hrp : l.rp < w.heap.size := h.reads.lt
  obtain ⟨hk, k1, k2, k3, k4, k5, k6, k7, k8, k9, k10, k11, k12⟩ := h.kinds
  have q5 := (hk t ht).2.2.2.2.1
  have NT := fun n => note_all base l S t x w1 n P1 ht hx
  have CEL : ∀ W, Fr (fun k => k = l.rp) w1 W → (W.cell? ⟨w.heap.size, 0, none⟩ = some (ptr l.p) ∧ W.cell? ⟨w.heap.size + 2, 0, none⟩ = some (.string x.t) ∧ W.cell? ⟨w.heap.size + 3, 0, none⟩ = some (.string f) ∧ W.cell? ⟨w.heap.size + 4, 0, none⟩ = some (.string u)) ∧ W.cell? ⟨l.p, 9, none⟩ = some (ptr l.rp) ∧ W.cell? ⟨l.Q t.num, 0, none⟩ = some (.int .i64 t.num) ∧ W.cell? ⟨w.heap.size + 1, 0, none⟩ = some (.string x.t) ∧ W.cell? ⟨w.heap.size + 1, 1, none⟩ = some (.int .i64 x.k) ∧ W.cell? ⟨w.heap.size + 1, 2, none⟩ = some (.string x.f) ∧ W.cell? ⟨w.heap.size + 1, 3, none⟩ = some (.string x.u) := fun W F =>
    ⟨⟨F.cell b0 (by show ¬ w.heap.size = l.rp; omega), F.cell b1 (by show ¬ w.heap.size + 2 = l.rp; omega), F.cell b2 (by show ¬ w.heap.size + 3 = l.rp; omega), F.cell b3 (by show ¬ w.heap.size + 4 = l.rp; omega)⟩, F.cell c9 (by show ¬ l.p = l.rp; omega), F.cell t0 (by show ¬ l.Q t.num = l.rp; omega),
      F.cell x0 (by show ¬ w.heap.size + 1 = l.rp; omega), F.cell x1 (by show ¬ w.heap.size + 1 = l.rp; omega), F.cell x2 (by show ¬ w.heap.size + 1 = l.rp; omega), F.cell x3 (by show ¬ w.heap.size + 1 = l.rp; omega)⟩
  have BAD : ∀ rb' w2, (noteP S.reads S.caps.reads t.num x).1 ≠ 0 → Pm w2 base { l with rb := rb' } { S with reads := (noteP S.reads S.caps.reads t.num x).2 } → (rb' = l.rb ∨ w1.heap.size ≤ rb') → Fr (fun k => k = l.rp) w1 w2 →
      Calls Tryz.prog 43 #[ptr l.p, ptr (l.Q t.num)] w2 fun e w' => e = .returned (.tuple #[]) ∧ ReadQ base l S t x f u w (.returned (.int .i64 (noteP S.reads S.caps.reads t.num x).1)) w' := fun rb' w2 hne P2 hb F2 => by
    refine (gone_s base _ _ t w2 P2 ht hlk).mono ?_
    rintro e w' ⟨rfl, h1, h2⟩
    have hs := B1.size
    refine ⟨rfl, ?_⟩
    unfold ReadQ Sm.noteS
    rw [if_pos (show ((iS S.caps.reads).note S.reads t.num x).1 ≠ 0 from hne)]
    refine ⟨rfl, rb', h1, by rcases hb with e | e; exact .inl e; exact .inr (by omega), ?_⟩
    refine ((Fr.ofBelow (O := l.own S.txs) B1).trans F2 (fun k hk _ => .inr (.inr (.inr (.inl hk))))).trans h2 (fun k hk hkl => ?_)
    rcases hk with e | e | e | e
    · exact .inr (.inl e)
    · exact .inr (.inr (.inr (.inl e)))
    · rcases hb with e2 | e2
      · exact .inr (.inr (.inr (.inr (.inl (e.trans e2)))))
      · have e : k = rb' := e
        omega
    · exact .inr (.inr (.inl e))
  have GOOD : ∀ rb' w2, (noteP S.reads S.caps.reads t.num x).1 = 0 → Pm w2 base { l with rb := rb' } { S with reads := (noteP S.reads S.caps.reads t.num x).2 } → (rb' = l.rb ∨ w1.heap.size ≤ rb') → Fr (fun k => k = l.rp) w1 w2 → ∀ n,
      Calls Tryz.prog 44 #[ptr l.p, ptr (l.Q t.num), .func (.func 83) #[] #[ptr w.heap.size, ptr (w.heap.size + 2), ptr (w.heap.size + 3), ptr (w.heap.size + 4)]] (w2.drewN n) fun e w3 => ∃ v, e = .returned v ∧ w3.cell? ⟨w.heap.size, 0, none⟩ = some (ptr l.p) ∧
        Calls Tryz.prog 48 #[ptr l.p, ptr (l.Q t.num), v, .bool true] w3 (fun e w' => ReadQ base l S t x f u w e w' ∧ w'.cell? ⟨w.heap.size, 0, none⟩ = some (ptr l.p)) := fun rb' w2 he P2 hb F2 n => by
    obtain ⟨⟨d0, d1, d2, d3⟩, _⟩ := CEL w2 F2
    have P3 := P2.below (drewB2 w2 n)
    have PR := pred83 base _ _ x.t f u _ _ _ _ (w2.drewN n) P3 hlk (below_cell (drewB2 w2 n) d0) (below_cell (drewB2 w2 n) d1) (below_cell (drewB2 w2 n) d2) (below_cell (drewB2 w2 n) d3)
    refine (others_all base _ _ t _ 83 _ entersT83 (w2.drewN n) P3 ht PR).mono ?_
    rintro e w3 ⟨v, vis, rfl, hp, hv, B3⟩
    have B23 : Below w2.heap.size w2 w3 := below_then (drewB2 w2 n) (by simp) B3
    refine ⟨v, rfl, below_cell B23 d0, ?_⟩
    refine (put_all base _ _ _ t _ true v w3 vis (P2.below B23) ht hp hv hlk).mono ?_
    rintro e w' ⟨rfl, h1, h2⟩
    have hs := B1.size
    unfold ReadQ Sm.noteS
    rw [if_neg (show ¬ ((iS S.caps.reads).note S.reads t.num x).1 ≠ 0 from fun h => h he)]
    have hcell : w'.cell? ⟨w.heap.size, 0, none⟩ = some (ptr l.p) := h2.cell (below_cell B23 d0) (fun hk => by
      have lt := h.lts w.heap.size
      rcases hk with e | e | e | e | e | ⟨o, ho, e⟩
      · have := lt (.inl e); omega
      · have := lt (.inr (.inl e)); omega
      · have := lt (.inr (.inr (.inl e))); omega
      · have := lt (.inr (.inr (.inr (.inl e)))); omega
      · have e : w.heap.size = rb' := e
        rcases hb with e2 | e2
        · have := lt (.inr (.inr (.inr (.inr (.inl (e.trans e2)))))); omega
        · omega
      · have := lt (.inr (.inr (.inr (.inr (.inr ⟨o, ho, e⟩))))); omega)
    refine ⟨?_, hcell⟩
    refine ⟨rfl, rb', h1, by rcases hb with e | e; exact .inl e; exact .inr (by omega), ?_⟩
    refine (((Fr.ofBelow (O := l.own S.txs) B1).trans F2 (fun k hk _ => .inr (.inr (.inr (.inl hk))))).trans (Fr.ofBelow (O := fun _ => False) B23) (fun _ h _ => h.elim)).trans h2 (fun k hk hkl => ?_)
    rcases hk with e | e | e | e | e | ⟨o, ho, e⟩
    · exact .inl e
    · exact .inr (.inl e)
    · exact .inr (.inr (.inl e))
    · exact .inr (.inr (.inr (.inl e)))
    · rcases hb with e2 | e2
      · exact .inr (.inr (.inr (.inr (.inl (e.trans e2)))))
      · have e : k = rb' := e
        omega
    · exact .inr (.inr (.inr (.inr (.inr ⟨o, ho, e⟩))))
  have K1 := CEL w1 (Fr.refl _ _)
  clear hsz h hk k1 k2 k3 k4 k5 k6 k7 k8 k9 k10 k11 k12 q5 P1 hvt B1 b0 b1 b2 b3 x0 x1 x2 x3 c7 c8 c9 t0 hrp hx hlk ht
  obtain ⟨⟨b0, b1, b2, b3⟩, c9, t0, x0, x1, x2, x3⟩ := K1
  unfold NoteQ at NT
  generalize l.Q t.num = q at *
  generalize (noteP S.reads S.caps.reads t.num x).1 = rc at *
  replace CEL := Aside0.mk CEL
  replace BAD := Aside0.mk BAD
  replace GOOD := Aside0.mk GOOD
  go_enter Tryz.func41, Tryz.ntmps41
  go_upto_region 1 with (fail)
  rw [← hw1]
  clear hw1
  go_wp2_with fail
  go_region_held3 (fun V => V.cell? ⟨w.heap.size, 0, none⟩ = some (ptr l.p) ∧ V.cell? ⟨l.p, 9, none⟩ = some (ptr l.rp) ∧ V.cell? ⟨q, 0, none⟩ = some (.int .i64 t.num) ∧ V.cell? ⟨w.heap.size + 1, 0, none⟩ = some (.string x.t) ∧ V.cell? ⟨w.heap.size + 1, 1, none⟩ = some (.int .i64 x.k) ∧ V.cell? ⟨w.heap.size + 1, 2, none⟩ = some (.string x.f) ∧ V.cell? ⟨w.heap.size + 1, 3, none⟩ = some (.string x.u)) (first | exact ⟨b0, c9, t0, x0, x1, x2, x3⟩ | exact ⟨K2.1.1, K2.2⟩)
    ((go_at_call 70; refine (NT _).mono ?_; rintro e w2 ⟨rfl, rb', P2, hb, F2⟩; have K2 := CEL.out w2 F2))
  clear NT b0 b1 b2 b3 c9 t0 x0 x1 x2 x3
  obtain ⟨⟨b0, _, _, _⟩, _⟩ := K2
  by_cases hr : rc = 0
  · have G := GOOD.out rb' w2 hr P2 hb F2
    clear P2 hb F2 BAD GOOD CEL
    subst hr
    go_wp2_with fail
    go_region_held3 (fun V => V.cell? ⟨w.heap.size, 0, none⟩ = some (ptr l.p)) (first | exact b0 | exact d0 | exact e0)
      (first | (go_at_call 44; refine (G _).mono ?_; rintro e w3 ⟨v, rfl, d0, PT⟩) | (go_at_call 48; refine PT.mono ?_; rintro e w4 ⟨H4, e0⟩; obtain rfl := H4.1))
    all_goals
      generalize (S.noteS (iS S.caps.reads) t x f u).1 = z at H4 ⊢
      replace H4 := Aside0.mk H4
      clear b0 d0 e0
      go_wp2
      go_ret
      exact H4.out
  · have G := BAD.out rb' w2 hr P2 hb F2
    clear P2 hb F2 BAD GOOD CEL
    have hr2 : (rc != 0) = true := by simpa using hr
    clear hr
    go_wp2_with fail
    refine G.mono ?_
    rintro e w3 ⟨rfl, H3⟩
    replace H3 := Aside0.mk H3
    go_wp2
    all_goals go_ret
    all_goals exact H3.out
end Go.Proofs.YthaoedfalkebbaaGreat
namespace Go.Proofs.YthaoedfalkebbaaGreat
open Go.RowKit Go.Maps Go.Sort Go.Lib Go.Shelf Go.Proofs.YthaoedfalkebbaaGreatW.PrintWords Go.Proofs.YthaoedfalkebbaaGreatW.PrintLast Go.Proofs.YthaoedfalkebbaaGreatW.PrintMore
set_option linter.unusedVariables false
set_option linter.unusedSimpArgs false
set_option linter.unusedSectionVars false
theorem actv_mem {S : Sm St} {tx : Int} {t : Tx} (h : S.actv tx = some t) : t ∈ S.txs ∧ t.num = tx ∧ t.act = true := by
  unfold Sm.actv at h
  have h1 := List.mem_of_find?_eq_some h
  have h2 := List.find?_some h
  rw [Bool.and_eq_true] at h2
  exact ⟨h1, by simpa using h2.1, h2.2⟩
set_option maxHeartbeats 4000000 in
set_option maxRecDepth 100000 in
theorem Abort_s (base : Nat) (l : Loc) (S : Sm St) (tx : Int) (w : World) (h : Pm w base l S) (hx : okN tx) (hlk : S.locks.length ≤ 4096) :
    Calls Tryz.prog 25 #[ptr l.p, .int .i64 tx] w fun e w' => e = .returned (.int .i64 (S.abort (iS S.caps.reads) tx).1) ∧ Pm w' base l (S.abort (iS S.caps.reads) tx).2 ∧ Fr (own4 l) w w' := by
  have A := active_s base l S tx w h hx
  unfold Sm.abort
  cases ha : S.actv tx with
  | none =>
    rw [ha] at A
    unfold actV at A
    dsimp only at A
    replace h := Aside0.mk h
    replace ha := Aside0.mk ha
    go_enter Tryz.func25, Tryz.ntmps25
    go_wp2_with fail
    refine A.mono ?_
    rintro e w' ⟨rfl, rfl⟩
    go_wp2
    go_ret
    exact ⟨rfl, h.out, Fr.refl _ _⟩
  | some t =>
    rw [ha] at A
    unfold actV at A
    dsimp only at A
    obtain ⟨ht, hn, _⟩ := actv_mem ha
    have G := gone_s base l S t w h ht hlk
    dsimp only
    rw [hn] at G A
    generalize l.Q tx = q at *
    generalize (S.gone (iS S.caps.reads) tx) = S2 at G ⊢
    clear h ha hn ht
    go_enter Tryz.func25, Tryz.ntmps25
    go_wp2_with fail
    refine A.mono ?_
    rintro e w' ⟨rfl, rfl⟩
    go_wp2_with fail
    refine G.mono ?_
    rintro e w' ⟨rfl, hP, hF⟩
    replace hP := Aside0.mk hP
    replace hF := Aside0.mk hF
    go_wp2
    go_ret
    exact ⟨rfl, hP.out, hF.out⟩
/-- what an operation answers and leaves -/
def OpQ (base : Nat) (l : Loc) (S : Sm St) (r : Int × Sm St) (w : World) (e : Ending) (w' : World) : Prop :=
  e = .returned (.int .i64 r.1) ∧ ∃ rb', Pm w' base { l with rb := rb' } r.2 ∧ (rb' = l.rb ∨ w.heap.size ≤ rb') ∧ Fr (l.own S.txs) w w'
theorem OpQ.same {base : Nat} {l : Loc} {S : Sm St} {w : World} {r : Int} (h : Pm w base l S) : OpQ base l S (r, S) w (.returned (.int .i64 r)) w := ⟨rfl, l.rb, h, .inl rfl, Fr.refl _ _⟩
theorem OpQ.sameB {base : Nat} {l : Loc} {S : Sm St} {w w' : World} {r : Int} (h : Pm w base l S) (B : Below w.heap.size w w') : OpQ base l S (r, S) w (.returned (.int .i64 r)) w' := ⟨rfl, l.rb, h.below B, .inl rfl, Fr.ofBelow B⟩
theorem OpQ.goneB {base : Nat} {l : Loc} {S S2 : Sm St} {w w' : World} {r : Int} (h : Pm w' base l S2) (F : Fr (own4 l) w w') : OpQ base l S (r, S2) w (.returned (.int .i64 r)) w' := ⟨rfl, l.rb, h, .inl rfl, F.mono (fun k hk _ => own4_own k hk)⟩
set_option maxHeartbeats 8000000 in
set_option maxRecDepth 100000 in
theorem Scan_s (base : Nat) (l : Loc) (S : Sm St) (tx : Int) (tb f u : ByteArray) (w : World) (h : Pm w base l S) (hx : okN tx) (h1 : tb.size ≤ reachBytes) (h2 : f.size ≤ reachBytes) (h3 : u.size ≤ reachBytes) (hlk : S.locks.length ≤ 4096) :
    Calls Tryz.prog 33 #[ptr l.p, .int .i64 tx, .string tb, .string f, .string u] w (OpQ base l S (S.scan (iS S.caps.reads) tx tb f u) w) := by
  have A := active_s base l S tx w h hx
  unfold Sm.scan
  cases ha : S.actv tx with
  | none =>
    rw [ha] at A
    unfold actV at A
    dsimp only at A
    replace h := Aside0.mk h
    replace ha := Aside0.mk ha
    go_enter Tryz.func33, Tryz.ntmps33
    go_wp2_with fail
    refine A.mono ?_
    rintro e w' ⟨rfl, rfl⟩
    go_wp2
    go_ret
    exact OpQ.same h.out
  | some t =>
    rw [ha] at A
    unfold actV at A
    dsimp only at A
    obtain ⟨ht, hn, _⟩ := actv_mem ha
    have R := read_s base l S t ⟨tb, 2, f, u⟩ f u w h ht ⟨h1, by show (Lit.int .i64 2).wf = true; decide, h2, h3⟩ hlk
    have hle := leq_less u.toList f.toList
    rw [hn] at R A
    generalize l.Q tx = q at *
    replace h := Aside0.mk h
    replace ha := Aside0.mk ha
    replace hn := Aside0.mk hn
    dsimp only
    by_cases hc : u.toList ≠ [] ∧ Op.bytesLess f.toList u.toList = false
    · rw [if_pos hc]
      obtain ⟨c1, c2⟩ := hc
      have c3 : (u.toList != []) = true := by simpa using c1
      have c4 : u.toList.isEmpty = false := by simpa using c1
      clear R
      replace c1 := Aside0.mk c1
      go_enter Tryz.func33, Tryz.ntmps33
      go_wp2_with fail
      refine A.mono ?_
      rintro e w' ⟨rfl, rfl⟩
      go_wp2
      all_goals go_ret
      all_goals exact OpQ.same h.out
    · rw [if_neg hc]
      unfold ReadQ at R
      unfold OpQ
      generalize S.noteS (iS S.caps.reads) t ⟨tb, 2, f, u⟩ f u = X at R ⊢
      by_cases c1 : u.toList = []
      · have c3 : (u.toList != []) = false := by simp [c1]
        have c4 : u.toList.isEmpty = true := by simp [c1]
        replace c1 := Aside0.mk c1
        clear hc hle
        go_enter Tryz.func33, Tryz.ntmps33
        go_wp2_with fail
        refine A.mono ?_
        rintro e w' ⟨rfl, rfl⟩
        go_wp2_with fail
        refine R.mono ?_
        rintro e w' ⟨rfl, H⟩
        replace H := Aside0.mk H
        go_wp2
        go_ret
        exact ⟨rfl, H.out⟩
      · have c2 : Op.bytesLess f.toList u.toList = true := by
          cases hb : Op.bytesLess f.toList u.toList with
          | true => rfl
          | false => exact absurd ⟨c1, hb⟩ hc
        have c3 : (u.toList != []) = true := by simpa using c1
        have c4 : u.toList.isEmpty = false := by simpa using c1
        replace c1 := Aside0.mk c1
        clear hc
        go_enter Tryz.func33, Tryz.ntmps33
        go_wp2_with fail
        refine A.mono ?_
        rintro e w' ⟨rfl, rfl⟩
        go_wp2_with fail
        refine R.mono ?_
        rintro e w' ⟨rfl, H⟩
        replace H := Aside0.mk H
        go_wp2
        go_ret
        exact ⟨rfl, H.out⟩
end Go.Proofs.YthaoedfalkebbaaGreat
namespace Go.Proofs.YthaoedfalkebbaaGreat
set_option linter.unusedVariables false
set_option linter.unusedSectionVars false
set_option linter.unusedSimpArgs false
def actC (l : List Tx) : Nat := (l.filter (fun t => t.act)).length
def keptC (l : List Tx) : Nat := (l.filter (fun t => !t.act)).length
theorem cnt_all : ∀ l : List Tx, actC l + keptC l = l.length
  | [] => rfl
  | t :: l => by
    have ih := cnt_all l
    unfold actC keptC at ih ⊢
    cases h : t.act <;> simp [List.filter_cons, h] <;> omega
theorem actC_sub {l m : List Tx} (h : l.Sublist m) : actC l ≤ actC m := (h.filter _).length_le
theorem keptC_sub {l m : List Tx} (h : l.Sublist m) : keptC l ≤ keptC m := (h.filter _).length_le
theorem filter_map_len {φ : Tx → Tx} {p : Tx → Bool} (l : List Tx) (h : ∀ o, p (φ o) = p o) : ((l.map φ).filter p).length = (l.filter p).length := by
  rw [List.filter_map, List.length_map]
  congr 1
  apply List.filter_congr
  intro o _
  exact h o
structure Cap {ρ : Type} (S : Sm ρ) (K N : Int) : Prop where
  caps : 1 ≤ S.caps.active ∧ S.caps.active ≤ 64 ∧ 0 ≤ S.caps.kept ∧ S.caps.kept ≤ 1024 ∧ 1 ≤ S.caps.reads ∧ S.caps.reads ≤ 65536 ∧ 1 ≤ S.caps.locks ∧ S.caps.locks ≤ 4096
  act : (actC S.txs : Int) ≤ S.caps.active
  kpt : (keptC S.txs : Int) ≤ S.caps.kept
  lck : (S.locks.length : Int) ≤ S.caps.locks
  last : 0 ≤ S.last ∧ S.last ≤ K
  clock : 0 ≤ S.clock ∧ S.clock ≤ K
  now : 0 ≤ S.now ∧ S.now ≤ N + K
  tx : ∀ t ∈ S.txs, 1 ≤ t.num ∧ t.num ≤ S.last ∧ 0 ≤ t.snap
  dist : S.txs.Pairwise (fun a b => a.num < b.num)
section
variable {ρ : Type} {I : RdI ρ} {S : Sm ρ} {K N : Int}
theorem Cap.later (h : Cap S K N) : Cap S (K + 1) N :=
  ⟨h.caps, h.act, h.kpt, h.lck, by have := h.last; omega, by have := h.clock; omega, by have := h.now; omega, h.tx, h.dist⟩
theorem Cap.lck4 (h : Cap S K N) : S.locks.length ≤ 4096 := by have := h.lck; have := h.caps; omega
theorem Cap.few (h : Cap S K N) : S.txs.length ≤ 1088 := by have := cnt_all S.txs; have := h.act; have := h.kpt; have := h.caps; omega
theorem Cap.sub (h : Cap S K N) {S' : Sm ρ} (hs : S'.txs.Sublist S.txs) (hl : S'.locks.length ≤ S.locks.length) (e1 : S'.caps = S.caps) (e2 : S'.now = S.now) (e3 : S'.last = S.last) (e4 : S'.clock = S.clock) : Cap S' K N where
  caps := by rw [e1]; exact h.caps
  act := by rw [e1]; have := h.act; have := actC_sub hs; omega
  kpt := by rw [e1]; have := h.kpt; have := keptC_sub hs; omega
  lck := by rw [e1]; have := h.lck; omega
  last := by rw [e3]; exact h.last
  clock := by rw [e4]; exact h.clock
  now := by rw [e2]; exact h.now
  tx := fun t ht => by rw [e3]; exact h.tx t (hs.subset ht)
  dist := h.dist.sublist hs
theorem Cap.map (h : Cap S K N) (φ : Tx → Tx) (hφ : ∀ o, (φ o).num = o.num ∧ (φ o).act = o.act ∧ (φ o).snap = o.snap) : Cap { S with txs := S.txs.map φ } K N where
  caps := h.caps
  act := by
    show ((actC (S.txs.map φ) : Nat) : Int) ≤ _
    unfold actC
    rw [filter_map_len (p := fun t => t.act) _ (fun o => (hφ o).2.1)]
    exact h.act
  kpt := by
    show ((keptC (S.txs.map φ) : Nat) : Int) ≤ _
    unfold keptC
    rw [filter_map_len (p := fun t => !t.act) _ (fun o => by rw [(hφ o).2.1])]
    exact h.kpt
  lck := h.lck
  last := h.last
  clock := h.clock
  now := h.now
  tx := fun t ht => by
    obtain ⟨o, ho, e⟩ := List.mem_map.1 ht
    obtain ⟨a, b, c⟩ := hφ o
    rw [← e, a, c]
    exact h.tx o ho
  dist := by
    show (S.txs.map φ).Pairwise _
    rw [List.pairwise_map]
    exact h.dist.imp (fun {a b} hab => by rw [(hφ a).1, (hφ b).1]; exact hab)
theorem Cap.forget (h : Cap S K N) : Cap (S.forget I) K N := h.sub List.filter_sublist (Nat.le_refl _) rfl rfl rfl rfl
theorem Cap.gone (h : Cap S K N) (n : Int) : Cap (S.gone I n) K N := by
  unfold Sm.gone
  refine Cap.forget ?_
  exact h.sub List.filter_sublist (List.length_filter_le _ _) rfl rfl rfl rfl
theorem Cap.put (h : Cap S K N) (t : Tx) (so : Tx → Bool) (out : Bool) : Cap (S.put I t so out).2 K N := by
  unfold Sm.put
  split
  · exact h.gone _
  · refine h.map _ fun o => ?_
    unfold setF
    split
    · split <;> exact ⟨rfl, rfl, rfl⟩
    · split <;> exact ⟨rfl, rfl, rfl⟩
theorem Cap.rds (h : Cap S K N) (r : ρ) : Cap { S with reads := r } K N := h.sub (List.Sublist.refl _) (Nat.le_refl _) rfl rfl rfl rfl
theorem Cap.noteS (h : Cap S K N) (t : Tx) (x : Rd) (f u : ByteArray) : Cap (S.noteS I t x f u).2 K N := by
  unfold Sm.noteS
  split
  · exact (h.rds _).gone _
  · exact (h.rds _).put _ _ _
theorem Cap.read (h : Cap S K N) (tx : Int) (a : Lk) : Cap (S.read I tx a).2 K N := by
  unfold Sm.read
  split
  · exact h
  · split
    · exact h
    · exact h.noteS _ _ _ _
theorem Cap.scan (h : Cap S K N) (tx : Int) (tb f u : ByteArray) : Cap (S.scan I tx tb f u).2 K N := by
  unfold Sm.scan
  split
  · exact h
  · split
    · exact h
    · exact h.noteS _ _ _ _
theorem Cap.abort (h : Cap S K N) (tx : Int) : Cap (S.abort I tx).2 K N := by
  unfold Sm.abort
  split
  · exact h
  · exact h.gone _
theorem tk_len {most : Int} {L : List (Lk × Int)} {tx snap last : Int} {a : Lk} (h : (L.length : Int) ≤ most) : ((tk most L tx snap last a).2.length : Int) ≤ most := by
  unfold tk
  split
  · split <;> exact h
  · split
    · exact h
    · split
      · exact h
      · simp only [List.length_append, List.length_singleton]
        omega
theorem Cap.lks (h : Cap S K N) {L : List (Lk × Int)} (hL : (L.length : Int) ≤ S.caps.locks) : Cap { S with locks := L } K N :=
  ⟨h.caps, h.act, h.kpt, hL, h.last, h.clock, h.now, h.tx, h.dist⟩
theorem Cap.write (h : Cap S K N) (tx : Int) (a : Lk) (last : Int) : Cap (S.write I tx a last).2 K N := by
  unfold Sm.write
  split
  · exact h
  · rename_i t _
    have h2 := h.lks (tk_len (tx := tx) (snap := t.snap) (last := last) (a := a) h.lck)
    split
    · exact h
    · split
      · exact h
      · split
        · exact h.gone _
        · split
          · exact h2.gone _
          · exact h2.put _ _ _
theorem Cap.begin (h : Cap S K N) : Cap S.begin.2 (K + 1) N := by
  unfold Sm.begin
  split
  · exact h.later
  · rename_i hlt
    have hl := h.last
    have hc := h.clock
    have hn := h.now
    constructor
    · exact h.caps
    · show ((actC (S.txs ++ [_]) : Nat) : Int) ≤ _
      have e : S.acts = actC S.txs := rfl
      unfold actC at e ⊢
      rw [List.filter_append, List.length_append]
      simp
      omega
    · show ((keptC (S.txs ++ [_]) : Nat) : Int) ≤ _
      have := h.kpt
      unfold keptC at this ⊢
      rw [List.filter_append, List.length_append]
      simp
      omega
    · exact h.lck
    · show 0 ≤ S.last + 1 ∧ S.last + 1 ≤ K + 1
      omega
    · show 0 ≤ S.clock + 1 ∧ S.clock + 1 ≤ K + 1
      omega
    · show 0 ≤ S.now ∧ S.now ≤ N + (K + 1)
      omega
    · intro t ht
      rcases List.mem_append.1 ht with ht | ht
      · have := h.tx t ht
        exact ⟨this.1, by show t.num ≤ S.last + 1; omega, this.2.2⟩
      · rw [List.mem_singleton.1 ht]
        exact ⟨by show 1 ≤ S.last + 1; omega, Int.le_refl _, hn.1⟩
    · show (S.txs ++ [_]).Pairwise _
      rw [List.pairwise_append]
      refine ⟨h.dist, by simp, fun a ha b hb => ?_⟩
      rw [List.mem_singleton.1 hb]
      have := h.tx a ha
      show a.num < S.last + 1
      omega
theorem keptC_split (l : List Tx) (n : Int) (hd : l.Pairwise (fun a b => a.num < b.num)) (φ : Tx → Tx) (hφ : ∀ o, o.num ≠ n → φ o = o) : keptC (l.map φ) ≤ keptC (l.filter (fun o => o.num != n)) + 1 := by
  induction l with
  | nil => simp [keptC]
  | cons o l ih =>
    rw [List.pairwise_cons] at hd
    have ih := ih hd.2
    by_cases e : o.num = n
    · have hne : ∀ b ∈ l, b.num ≠ n := fun b hb => by have := hd.1 b hb; omega
      have e1 : l.map φ = l := by
        conv => rhs; rw [← List.map_id l]
        exact List.map_congr_left fun b hb => hφ b (hne b hb)
      have e2 : l.filter (fun o => o.num != n) = l := List.filter_eq_self.2 (fun b hb => by simpa using hne b hb)
      rw [List.map_cons, e1, List.filter_cons, if_neg (by simp [e]), e2]
      unfold keptC
      rw [List.filter_cons]
      split <;> simp
    · rw [List.map_cons, hφ o e, List.filter_cons, if_pos (by simpa using e)]
      unfold keptC at ih ⊢
      rw [List.filter_cons, List.filter_cons]
      split <;> (try simp only [List.length_cons]) <;> omega
theorem actC_map (l : List Tx) (φ : Tx → Tx) (hφ : ∀ o, (φ o).act = true → o.act = true) : actC (l.map φ) ≤ actC l := by
  induction l with
  | nil => exact Nat.le_refl _
  | cons o l ih =>
    unfold actC at ih ⊢
    rw [List.map_cons, List.filter_cons, List.filter_cons]
    by_cases h : (φ o).act = true
    · rw [if_pos h, if_pos (hφ o h)]
      simp only [List.length_cons]
      omega
    · rw [if_neg h]
      split <;> (try simp only [List.length_cons]) <;> omega
theorem Cap.commit (h : Cap S K N) (tx : Int) : Cap (S.commit I tx).2 (K + 1) N := by
  unfold Sm.commit
  split
  · exact h.later
  · rename_i t ht
    split
    · exact (h.gone _).later
    · split
      · exact (h.gone _).later
      · rename_i hno
        refine Cap.forget ?_
        have hl := h.last
        have hc := h.clock
        have hn := h.now
        have hφ : ∀ o : Tx, (if o.num == tx then ({ o with act := false, ended := S.clock + 1, wrote := heldOf S.locks tx } : Tx) else o).num = o.num ∧ (if o.num == tx then ({ o with act := false, ended := S.clock + 1, wrote := heldOf S.locks tx } : Tx) else o).snap = o.snap := fun o => by split <;> exact ⟨rfl, rfl⟩
        have hA : actC (S.ends tx).txs ≤ actC S.txs := actC_map _ _ (fun o ho => by
          revert ho
          split
          · intro ho; cases ho
          · exact id)
        have hK := keptC_split S.txs tx h.dist (fun o => if o.num == tx then ({ o with act := false, ended := S.clock + 1, wrote := heldOf S.locks tx } : Tx) else o) (fun o ho => by simp [ho])
        have hK2 := keptC_sub (l := S.txs.filter (fun o => o.num != tx)) (m := S.txs) List.filter_sublist
        have hT : ∀ u ∈ (S.ends tx).txs, 1 ≤ u.num ∧ u.num ≤ S.last ∧ 0 ≤ u.snap := fun u hu => by
          obtain ⟨o, ho, e⟩ := List.mem_map.1 hu
          rw [← e, (hφ o).1, (hφ o).2]
          exact h.tx o ho
        have hD : (S.ends tx).txs.Pairwise (fun a b => a.num < b.num) := by
          show (S.txs.map _).Pairwise _
          rw [List.pairwise_map]
          exact h.dist.imp (fun {a b} hab => by rw [(hφ a).1, (hφ b).1]; exact hab)
        have hL : ((S.ends tx).locks.length : Int) ≤ S.caps.locks := by
          have := h.lck
          have h2 : (S.ends tx).locks.length ≤ S.locks.length := List.length_filter_le _ _
          omega
        have hN : 0 ≤ (S.ends tx).now ∧ (S.ends tx).now ≤ N + (K + 1) := by
          show 0 ≤ (if heldOf S.locks tx = [] then S.now else S.now + 1) ∧ (if heldOf S.locks tx = [] then S.now else S.now + 1) ≤ N + (K + 1)
          split <;> omega
        have hC : 0 ≤ (S.ends tx).clock ∧ (S.ends tx).clock ≤ K + 1 := by
          show 0 ≤ S.clock + 1 ∧ S.clock + 1 ≤ K + 1
          omega
        have hact := h.act
        have hkpt := h.kpt
        split
        · constructor
          · exact h.caps
          · have := actC_sub (l := (S.ends tx).txs.filter (fun o => o.num != tx)) (m := (S.ends tx).txs) List.filter_sublist
            show ((actC ((S.ends tx).txs.filter (fun o => o.num != tx)) : Nat) : Int) ≤ S.caps.active
            omega
          · have e : (S.ends tx).txs.filter (fun o => o.num != tx) = S.txs.filter (fun o => o.num != tx) := by
              show (S.txs.map _).filter _ = _
              rw [List.filter_map]
              conv => rhs; rw [← List.map_id (S.txs.filter (fun o => o.num != tx))]
              have e1 : S.txs.filter ((fun o => o.num != tx) ∘ (fun o : Tx => if o.num == tx then ({ o with act := false, ended := S.clock + 1, wrote := heldOf S.locks tx } : Tx) else o)) = S.txs.filter (fun o => o.num != tx) := List.filter_congr (fun o _ => by simp only [Function.comp]; rw [(hφ o).1])
              rw [e1]
              apply List.map_congr_left
              intro o ho
              have := (List.mem_filter.1 ho).2
              have : o.num ≠ tx := by simpa using this
              simp [this]
            show ((keptC ((S.ends tx).txs.filter (fun o => o.num != tx)) : Nat) : Int) ≤ S.caps.kept
            rw [e]
            omega
          · exact hL
          · show 0 ≤ S.last ∧ S.last ≤ K + 1
            omega
          · exact hC
          · exact hN
          · exact fun u hu => hT u (List.mem_filter.1 hu).1
          · exact hD.sublist List.filter_sublist
        · rename_i hq
          constructor
          · exact h.caps
          · show ((actC (S.ends tx).txs : Nat) : Int) ≤ S.caps.active
            omega
          · have hmem := List.mem_of_find?_eq_some ht
            have hp := List.find?_some ht
            rw [Bool.and_eq_true] at hp
            have hpos : 0 < S.acts := List.length_pos_iff_exists_mem.2 ⟨t, List.mem_filter.2 ⟨hmem, hp.2⟩⟩
            have hcnt := cnt_all S.txs
            have e : S.acts = actC S.txs := rfl
            have hroom : (S.txs.length : Int) - S.acts < S.caps.kept := by
              by_cases hz : (S.txs.length : Int) - S.acts < S.caps.kept
              · exact hz
              · exfalso
                apply hno
                have hq1 : ¬ S.acts = 1 := fun e => hq (.inl e)
                have hq2 : (heldOf S.locks tx ≠ [] ∨ I.has S.reads tx = true) := Classical.byContradiction fun e => hq (.inr e)
                exact ⟨by omega, hq2, by omega⟩
            show ((keptC (S.txs.map (fun o => if o.num == tx then ({ o with act := false, ended := S.clock + 1, wrote := heldOf S.locks tx } : Tx) else o)) : Nat) : Int) ≤ S.caps.kept
            omega
          · exact hL
          · show 0 ≤ S.last ∧ S.last ≤ K + 1
            omega
          · exact hC
          · exact hN
          · exact hT
          · exact hD
end
end Go.Proofs.YthaoedfalkebbaaGreat
namespace Go.Proofs.YthaoedfalkebbaaGreat
open Go.RowKit Go.Maps Go.Sort Go.Lib Go.Shelf Go.Proofs.YthaoedfalkebbaaGreatW.PrintWords Go.Proofs.YthaoedfalkebbaaGreatW.PrintLast Go.Proofs.YthaoedfalkebbaaGreatW.PrintMore
set_option linter.unusedVariables false
set_option linter.unusedSimpArgs false
set_option linter.unusedSectionVars false
theorem got_holder (L : List (Lk × Int)) (a : Lk) : Lck.got L a = holder L a := by
  rfl
structure LkOK (a : Lk) : Prop where
  t : a.1.size ≤ reachBytes
  k : a.2.size ≤ reachBytes
theorem LkOK.lck {a : Lk} (h : LkOK a) : Lck.okL a := ⟨Nat.le_trans h.t (by decide), Nat.le_trans h.k (by decide)⟩
theorem lk_box (w w1 : World) (a : Lk) (hw1 : w1 = w.alloc (.cells #[.string a.1, .string a.2] 23)) : Below w.heap.size w w1 ∧ w1.heap.size = w.heap.size + 1 ∧ w1.cell? ⟨w.heap.size, 0, none⟩ = some (.string a.1) ∧ w1.cell? ⟨w.heap.size, 1, none⟩ = some (.string a.2) := by
  subst hw1
  exact ⟨(Below.refl _ w).alloc (Nat.le_refl _) _, by simp [go_sem], by simp [go_sem], by simp [go_sem]⟩
set_option maxHeartbeats 16000000 in
set_option maxRecDepth 100000 in
theorem Read_s (base : Nat) (l : Loc) (S : Sm St) (tx : Int) (a : Lk) (w : World) (h : Pm w base l S) (hx : okN tx) (ha : LkOK a) (hlk : S.locks.length ≤ 4096) :
    Calls Tryz.prog 14 #[ptr l.p, .int .i64 tx, .agg #[.string a.1, .string a.2]] w (OpQ base l S (S.read (iS S.caps.reads) tx a) w) := by
  obtain ⟨w1, hw1⟩ : ∃ w1, w1 = w.alloc (.cells #[.string a.1, .string a.2] 23) := ⟨_, rfl⟩
  obtain ⟨B1, hsz, b0, b1⟩ := lk_box w w1 a hw1
  have P1 := h.below B1
  have A := active_s base l S tx w1 P1 hx
  unfold Sm.read
  cases hv : S.actv tx with
  | none =>
    rw [hv] at A
    unfold actV at A
    dsimp only at A
    replace h := Aside0.mk h
    replace hv := Aside0.mk hv
    clear P1
    go_enter Tryz.func14, Tryz.ntmps14
    go_wp2_with fail
    rw [← hw1]
    clear hw1
    refine A.mono ?_
    rintro e w' ⟨rfl, rfl⟩
    go_wp2
    go_ret
    exact OpQ.sameB h.out B1
  | some t =>
    rw [hv] at A
    unfold actV at A
    dsimp only at A
    dsimp only
    obtain ⟨ht, hn, _⟩ := actv_mem hv
    obtain ⟨_, _, _, _, _, _, _, _, c8, _⟩ := P1.cells
    have HC : ∀ n, Calls Tryz.prog 40 #[ptr l.lp, .agg #[.string a.1, .string a.2]] (w1.drewN n) fun e w' => e = .returned (.tuple #[.int .i64 ((holder S.locks a).getD 0), .bool (holder S.locks a).isSome]) ∧ Below w1.heap.size w1 w' := fun n => by
      rw [← got_holder]
      refine (Lck.Holder_calls l.lp l.lb S.caps.locks S.locks a (w1.drewN n) (P1.below (drewB2 w1 n)).locks ha.lck).mono ?_
      rintro e w' ⟨rfl, B⟩
      exact ⟨rfl, below_then (drewB2 w1 n) (by simp) B⟩
    have CEL : ∀ W, Below w1.heap.size w1 W → W.cell? ⟨l.p, 8, none⟩ = some (ptr l.lp) ∧ W.cell? ⟨w.heap.size, 0, none⟩ = some (.string a.1) ∧ W.cell? ⟨w.heap.size, 1, none⟩ = some (.string a.2) := fun W B => ⟨below_cell B c8, below_cell B b0, below_cell B b1⟩
    have RD : ∀ W, Below w1.heap.size w1 W → Calls Tryz.prog 41 #[ptr l.p, ptr (l.Q t.num), .agg #[.string a.1, .int .i64 1, .string a.2, .string ⟨#[]⟩], .string a.1, .string a.2, .string (a.2 ++ ⟨#[0]⟩)] W (OpQ base l S (S.noteS (iS S.caps.reads) t ⟨a.1, 1, a.2, ⟨#[]⟩⟩ a.2 (a.2 ++ ⟨#[0]⟩)) w) := fun W B => by
      have BW := below_then B1 B1.size B
      have hs := BW.size
      have R := read_s base l S t ⟨a.1, 1, a.2, ⟨#[]⟩⟩ a.2 (a.2 ++ ⟨#[0]⟩) W (h.below BW) ht ⟨ha.t, by show (Lit.int .i64 1).wf = true; decide, ha.k, by show (0 : Nat) ≤ reachBytes; decide⟩ hlk
      refine R.mono ?_
      unfold ReadQ OpQ
      generalize S.noteS (iS S.caps.reads) t ⟨a.1, 1, a.2, ⟨#[]⟩⟩ a.2 (a.2 ++ ⟨#[0]⟩) = X
      rintro e w' ⟨h0, rb', h1, h2, h3⟩
      exact ⟨h0, rb', h1, by rcases h2 with e | e; exact .inl e; exact .inr (by omega), (Fr.ofBelow (O := l.own S.txs) BW).trans h3 (fun k hk _ => hk)⟩
    have hadd : ∀ W, (Op.stringOp .add a.2 ⟨#[0]⟩).run Tryz.prog W = .ok (.string (a.2 ++ ⟨#[0]⟩)) W := add_zero_byte a.2 ha.k
    have SAME : ∀ W, Below w1.heap.size w1 W → OpQ base l S (0, S) w (.returned (.int .i64 0)) W := fun W B => OpQ.sameB h (below_then B1 B1.size B)
    rw [hn] at A RD
    generalize S.noteS (iS S.caps.reads) t ⟨a.1, 1, a.2, ⟨#[]⟩⟩ a.2 (a.2 ++ ⟨#[0]⟩) = X at RD ⊢
    unfold OpQ at RD ⊢
    unfold OpQ at SAME
    clear h P1 hv ht hn
    replace CEL := Aside0.mk CEL
    replace RD := Aside0.mk RD
    replace SAME := Aside0.mk SAME
    generalize l.Q tx = q at *
    cases hh : holder S.locks a with
    | none =>
      rw [hh] at HC
      rw [if_neg (by simp)]
      replace HC : ∀ n, Calls Tryz.prog 40 #[ptr l.lp, .agg #[.string a.1, .string a.2]] (w1.drewN n) fun e w' => e = .returned (.tuple #[.int .i64 0, .bool false]) ∧ Below w1.heap.size w1 w' := HC
      replace hh := Aside0.mk hh
      go_enter Tryz.func14, Tryz.ntmps14
      go_wp2_with fail
      rw [← hw1]
      clear hw1
      refine A.mono ?_
      rintro e w' ⟨rfl, rfl⟩
      go_wp2_with fail
      go_region_held3 (fun V => V.cell? ⟨l.p, 8, none⟩ = some (ptr l.lp) ∧ V.cell? ⟨w.heap.size, 0, none⟩ = some (.string a.1) ∧ V.cell? ⟨w.heap.size, 1, none⟩ = some (.string a.2)) (first | exact ⟨c8, b0, b1⟩ | exact K2)
        ((go_at_call 40; refine (HC _).mono ?_; rintro e w2 ⟨rfl, B2⟩; have K2 := CEL.out w2 B2))
      all_goals
        have RD := RD.out w2 B2
        obtain ⟨_, d0, d1⟩ := K2
        replace B2 := Aside0.mk B2
        clear HC
        go_wp2_with fail
        refine RD.mono ?_
        rintro e w3 ⟨rfl, H⟩
        replace H := Aside0.mk H
        go_wp2
        go_ret
        exact ⟨rfl, H.out⟩
    | some h0 =>
      rw [hh] at HC
      replace HC : ∀ n, Calls Tryz.prog 40 #[ptr l.lp, .agg #[.string a.1, .string a.2]] (w1.drewN n) fun e w' => e = .returned (.tuple #[.int .i64 h0, .bool true]) ∧ Below w1.heap.size w1 w' := HC
      replace hh := Aside0.mk hh
      by_cases e0 : h0 = tx
      · rw [if_pos (by rw [e0])]
        subst e0
        go_enter Tryz.func14, Tryz.ntmps14
        go_wp2_with fail
        rw [← hw1]
        clear hw1
        refine A.mono ?_
        rintro e w' ⟨rfl, rfl⟩
        go_wp2_with fail
        go_region_held3 (fun V => V.cell? ⟨l.p, 8, none⟩ = some (ptr l.lp) ∧ V.cell? ⟨w.heap.size, 0, none⟩ = some (.string a.1) ∧ V.cell? ⟨w.heap.size, 1, none⟩ = some (.string a.2)) (first | exact ⟨c8, b0, b1⟩ | exact K2)
          ((go_at_call 40; refine (HC _).mono ?_; rintro e w2 ⟨rfl, B2⟩; have K2 := CEL.out w2 B2))
        all_goals
          have SAME := Aside0.mk (SAME.out w2 B2)
          replace B2 := Aside0.mk B2
          clear HC
          go_wp2
          go_ret
          exact ⟨rfl, SAME.out.2⟩
      · rw [if_neg (by intro e; injection e with e; exact e0 e)]
        have e1 : (h0 == tx) = false := by simpa using e0
        go_enter Tryz.func14, Tryz.ntmps14
        go_wp2_with fail
        rw [← hw1]
        clear hw1
        refine A.mono ?_
        rintro e w' ⟨rfl, rfl⟩
        go_wp2_with fail
        go_region_held3 (fun V => V.cell? ⟨l.p, 8, none⟩ = some (ptr l.lp) ∧ V.cell? ⟨w.heap.size, 0, none⟩ = some (.string a.1) ∧ V.cell? ⟨w.heap.size, 1, none⟩ = some (.string a.2)) (first | exact ⟨c8, b0, b1⟩ | exact K2)
          ((go_at_call 40; refine (HC _).mono ?_; rintro e w2 ⟨rfl, B2⟩; have K2 := CEL.out w2 B2))
        all_goals
          have RD := RD.out w2 B2
          obtain ⟨_, d0, d1⟩ := K2
          replace B2 := Aside0.mk B2
          clear HC
          go_wp2_with fail
          refine RD.mono ?_
          rintro e w3 ⟨rfl, H⟩
          replace H := Aside0.mk H
          go_wp2
          go_ret
          exact ⟨rfl, H.out⟩
end Go.Proofs.YthaoedfalkebbaaGreat
namespace Go.Proofs.YthaoedfalkebbaaGreat
open Go.RowKit Go.Maps Go.Sort Go.Lib Go.Shelf Go.Proofs.YthaoedfalkebbaaGreatW.PrintWords Go.Proofs.YthaoedfalkebbaaGreatW.PrintLast Go.Proofs.YthaoedfalkebbaaGreatW.PrintMore
set_option linter.unusedVariables false
set_option linter.unusedSimpArgs false
set_option linter.unusedSectionVars false
theorem tk_lck {most : Int} {L : List (Lk × Int)} {tx snap last : Int} {a : Lk} (h1 : 1 ≤ tx) (h2 : 0 ≤ snap) (h3 : 0 ≤ last) : Lck.tk most L tx snap last a = ((tk most L tx snap last a).2, (tk most L tx snap last a).1) := by
  unfold Lck.tk tk
  rw [if_neg (by omega), got_holder]
  cases holder L a with
  | none =>
    simp only
    split
    · rfl
    · split <;> rfl
  | some h =>
    simp only
    split <;> rfl
theorem tk_bad {most : Int} {L : List (Lk × Int)} {tx snap last : Int} {a : Lk} (h : (tk most L tx snap last a).1 ≠ 0) : (tk most L tx snap last a).2 = L := by
  unfold tk at h ⊢
  split
  · split <;> rfl
  · rename_i e
    rw [e] at h
    simp only at h
    split
    · rfl
    · rename_i h1
      rw [if_neg h1] at h
      split
      · rfl
      · rename_i h2
        rw [if_neg h2] at h
        exact absurd rfl h
theorem Pm.locked {w W : World} {base : Nat} {l : Loc} {S : Sm St} {L : List (Lk × Int)} (h : Pm w base l S) (F : Fr (fun k => k = l.lb) w W) (hM : Lck.Mg W l.lp l.lb S.caps.locks L) : Pm W base l { S with locks := L } := by
  obtain ⟨hk, k1, k2, k3, k4, k5, k6, k7, k8, k9, k10, k11, k12⟩ := h.kinds
  refine h.turn2 F (fun k hk => .inr (.inr (.inr hk))) rfl rfl rfl rfl (List.Sublist.refl _) (h.tab.fr F (fun e => h.ne1 e)) ?_ hM
  refine h.reads.fr F (fun e => k11 e) (fun e => h.ne3 e.symm) (fun k c s hk hc => ?_)
  obtain ⟨D, ⟨es, clock, hlm, _⟩, _⟩ := h.locks.tab
  have hk : k = l.lb := hk
  rw [hk, hlm] at hc
  cases hc
theorem any_beq (ns : List Int) (n : Int) : ns.any (· == n) = decide (n ∈ ns) := by
  rw [Bool.eq_iff_iff, List.any_eq_true, decide_eq_true_iff]
  exact ⟨fun ⟨x, hx, e⟩ => by rw [← (by simpa using e : x = n)]; exact hx, fun h => ⟨n, h, by simp⟩⟩
theorem selQ_any {Q : Int → Nat} {t : Tx} {so : Tx → Bool} {vis txs : List Tx} (hp : vis.Perm txs) : decide (0 < (selQ Q t so vis).length) = txs.any (fun o => concB t o && so o) := by
  rw [osOf_q, List.length_map]
  have h := someT_any (p := fun o => concB t o && so o) (vis := vis)
  rw [any_perm hp] at h
  rw [← h]
  rfl
theorem readP_len {S : St} (hI : InvK S) (tab key : ByteArray) : ((readP S tab key).length : Int) ≤ S.n := by
  have h1 := rise_length ((S.K.filter (fun q => (q.2.toList == tab.toList) && (S.R q).any (fun y => holdB y key))).map (·.1))
  rw [List.length_map] at h1
  have h2 := List.length_filter_le (fun q => (q.2.toList == tab.toList) && (S.R q).any (fun y => holdB y key)) S.K
  have := hI.card
  unfold readP
  omega
/-- what the calls of Write do -/
theorem write_rest (base : Nat) (l : Loc) (S : Sm St) (t : Tx) (a : Lk) (last : Int) (w w1 : World) (K N : Int) (h : Pm w base l S) (hC : Cap S K N) (ht : t ∈ S.txs) (hl0 : 0 ≤ last) (hw1 : w1 = w.alloc (.cells #[.string a.1, .string a.2] 23)) (ha : LkOK a) :
    (∀ W, Below w1.heap.size w1 W → ∀ n, Calls Tryz.prog 42 #[ptr l.lp, .int .i64 t.num, .int .i64 t.snap, .int .i64 last, .agg #[.string a.1, .string a.2]] (W.drewN n) fun e w3 => e = .returned (.int .i64 (tk S.caps.locks S.locks t.num t.snap last a).1) ∧ Pm w3 base l { S with locks := (tk S.caps.locks S.locks t.num t.snap last a).2 } ∧ Fr (fun k => k = l.lb) w1 w3) ∧
    (∀ W, Fr (fun k => k = l.lb) w1 W → W.cell? ⟨l.p, 8, none⟩ = some (ptr l.lp) ∧ W.cell? ⟨l.p, 9, none⟩ = some (ptr l.rp) ∧ W.cell? ⟨l.Q t.num, 1, none⟩ = some (.int .i64 t.snap) ∧ W.cell? ⟨w.heap.size, 0, none⟩ = some (.string a.1) ∧ W.cell? ⟨w.heap.size, 1, none⟩ = some (.string a.2)) ∧
    (∀ W L c, Fr (fun k => k = l.lb) w1 W → Pm W base l { S with locks := L } → (L.length : Int) ≤ S.caps.locks → Calls Tryz.prog 43 #[ptr l.p, ptr (l.Q t.num)] W fun e w' => e = .returned (.tuple #[]) ∧ OpQ base l S (c, Sm.gone (iS S.caps.reads) { S with locks := L } t.num) w (.returned (.int .i64 c)) w') ∧
    (∀ W L, Fr (fun k => k = l.lb) w1 W → Pm W base l { S with locks := L } → Calls Tryz.prog 44 #[ptr l.p, ptr (l.Q t.num), .func (.func 45) #[] #[ptr w.heap.size]] W fun e w4 => ∃ A n c, e = .returned (.slice A n c) ∧ decide (0 < n) = S.txs.any (fun o => concB t o && (!o.act && decide (a ∈ o.wrote))) ∧ n ≤ 65536 ∧ Below W.heap.size W w4) ∧
    (∀ W W2 L, Pm W base l { S with locks := L } → Below W.heap.size W W2 → Calls Tryz.prog 47 #[ptr l.rp, .string a.1, .string a.2] W2 fun e w5 => ∃ v, e = .returned v ∧ RowI w5 W2.heap.size v (readP S.reads a.1 a.2) ∧ Below W2.heap.size W2 w5) ∧
    (∀ W W2 L b nb v, Fr (fun k => k = l.lb) w1 W → Pm W base l { S with locks := L } → (L.length : Int) ≤ S.caps.locks → Below W.heap.size W W2 → RowI W2 nb v (readP S.reads a.1 a.2) → W2.cell? ⟨b, 0, none⟩ = some v → Calls Tryz.prog 44 #[ptr l.p, ptr (l.Q t.num), .func (.func 49) #[] #[ptr b]] W2 fun e w6 => ∃ u, e = .returned u ∧
      Calls Tryz.prog 48 #[ptr l.p, ptr (l.Q t.num), u, .bool false] w6 fun e w' => OpQ base l S (Sm.put (iS S.caps.reads) { S with locks := L } t (fun o => decide (o.num ∈ (iS S.caps.reads).rdrs S.reads a.1 a.2)) false) w e w') := by
  obtain ⟨B1, hsz, b0, b1⟩ := lk_box w w1 a hw1
  have P1 := h.below B1
  obtain ⟨_, _, _, _, _, _, _, _, c8, c9⟩ := P1.cells
  obtain ⟨vt, hvt, _⟩ := P1.tx t ht
  obtain ⟨_, t1, _⟩ := tx_cells hvt
  obtain ⟨hk, k1, k2, k3, k4, k5, k6, k7, k8, k9, k10, k11, k12⟩ := h.kinds
  have hlb : l.lb < w.heap.size := h.lts _ (.inr (.inr (.inl rfl)))
  have q4 := (hk t ht).2.2.2.1
  have hns := hC.tx t ht
  have hpos := h.nums t ht
  have F01 : ∀ W, Fr (fun k => k = l.lb) w1 W → Fr (own4 l) w W := fun W F => (Fr.ofBelow (O := own4 l) B1).trans F (fun k hk _ => .inr (.inr (.inr hk)))
  refine ⟨fun W B n => ?_, fun W F => ?_, fun W L c F P hL => ?_, fun W L F P => ?_, fun W W2 L P B => ?_, fun W W2 L b nb v F P hL B hv hb => ?_⟩
  · have PW := P1.below B
    have PD := PW.below (drewB2 W n)
    refine (Lck.Take_any l.lp l.lb S.caps.locks S.locks t.num t.snap last a (W.drewN n) PD.locks ha.lck hpos.2.2 (by have := hC.lck4; simp only [maxLen]; omega)).mono ?_
    rintro e w3 ⟨rfl, h1, h2⟩
    rw [tk_lck hpos.1 hns.2.2 hl0] at h1 ⊢
    have F2 : Fr (fun k => k = l.lb) (W.drewN n) w3 := (Fr.grown h2).mono (fun k hk _ => by injection hk with hk; exact hk.symm)
    refine ⟨rfl, PD.locked F2 h1, ?_⟩
    exact ((Fr.ofBelow (O := fun k => k = l.lb) B).trans (Fr.drewN W n) (fun k hk _ => hk)).trans F2 (fun k hk _ => hk)
  · exact ⟨F.cell c8 (by show ¬ l.p = l.lb; omega), F.cell c9 (by show ¬ l.p = l.lb; omega), F.cell t1 (by show ¬ l.Q t.num = l.lb; omega), F.cell b0 (by show ¬ w.heap.size = l.lb; omega), F.cell b1 (by show ¬ w.heap.size = l.lb; omega)⟩
  · refine (gone_s base l _ t W P ht (by have := hC.caps; show L.length ≤ 4096; omega)).mono ?_
    rintro e w' ⟨rfl, h1, h2⟩
    exact ⟨rfl, OpQ.goneB h1 ((F01 W F).trans h2 (fun k hk _ => hk))⟩
  · obtain ⟨_, _, _, d0, d1⟩ : W.cell? ⟨l.p, 8, none⟩ = some (ptr l.lp) ∧ True ∧ True ∧ W.cell? ⟨w.heap.size, 0, none⟩ = some (.string a.1) ∧ W.cell? ⟨w.heap.size, 1, none⟩ = some (.string a.2) := ⟨F.cell c8 (by show ¬ l.p = l.lb; omega), trivial, trivial, F.cell b0 (by show ¬ w.heap.size = l.lb; omega), F.cell b1 (by show ¬ w.heap.size = l.lb; omega)⟩
    refine (others_all base l _ t _ 45 _ entersT45 W P ht (pred45 base l _ a _ W P d0 d1)).mono ?_
    rintro e w4 ⟨v, vis, rfl, hp, hv, B4⟩
    obtain ⟨A, c, rfl, _⟩ := hv.slice
    refine ⟨A, _, c, rfl, selQ_any hp, ?_, B4⟩
    rw [osOf_q, List.length_map]
    exact Nat.le_trans (Nat.le_trans (List.length_filter_le _ _) (Nat.le_of_eq hp.length_eq)) h.few
  · refine (Readers_S base l.rp l.rb S.caps.reads S.reads a.1 a.2 W2 (P.below B).reads).mono ?_
    rintro e w5 ⟨v, rfl, hv, B5⟩
    exact ⟨v, rfl, Lo.ofR hv, B5⟩
  · have P2 := P.below B
    obtain ⟨_, hI, hn, h3, h4⟩ := P2.reads
    have hlen : (readP S.reads a.1 a.2).length ≤ 65536 := by
      have e1 : ((readP S.reads a.1 a.2).length : Int) ≤ S.reads.n := readP_len hI a.1 a.2
      have e2 := hC.caps
      have hn : S.reads.n ≤ S.caps.reads := hn
      omega
    have PR := pred49 base nb l _ (readP S.reads a.1 a.2) v b W2 P2 hv hlen hb
    have e : (fun o : Tx => (readP S.reads a.1 a.2).any (· == o.num)) = fun o => decide (o.num ∈ (iS S.caps.reads).rdrs S.reads a.1 a.2) := by
      funext o
      exact any_beq _ _
    rw [e] at PR
    refine (others_all base l _ t _ 49 _ entersT49 W2 P2 ht PR).mono ?_
    rintro e w6 ⟨u, vis, rfl, hp, hu, B6⟩
    refine ⟨u, rfl, ?_⟩
    refine (put_all base _ l _ t _ false u w6 vis (P2.below B6) ht hp hu (by have := hC.caps; show L.length ≤ 4096; omega)).mono ?_
    rintro e w' ⟨rfl, h1, h2⟩
    refine ⟨rfl, l.rb, h1, .inl rfl, ?_⟩
    exact (((F01 W F).mono (O2 := l.own S.txs) (fun k hk _ => own4_own k hk)).trans (Fr.ofBelow (O := fun _ => False) (below_then B B.size B6)) (fun k hk _ => hk.elim)).trans h2 (fun k hk _ => hk)
end Go.Proofs.YthaoedfalkebbaaGreat
namespace Go.Proofs.YthaoedfalkebbaaGreat
open Go.RowKit Go.Maps Go.Sort Go.Lib Go.Shelf Go.Proofs.YthaoedfalkebbaaGreatW.PrintWords Go.Proofs.YthaoedfalkebbaaGreatW.PrintLast Go.Proofs.YthaoedfalkebbaaGreatW.PrintMore
set_option linter.unusedVariables false
set_option linter.unusedSimpArgs false
set_option linter.unusedSectionVars false
theorem allocB (w : World) (o : Obj) : Below w.heap.size w (w.alloc o) := (Below.refl _ w).alloc (Nat.le_refl _) _
theorem boxSz (w : World) (o : Obj) (n : Nat) : ((w.alloc o).drewN n).heap.size = w.heap.size + 1 := by show (w.heap.push o).size = _; simp
theorem boxDN {w w5 : World} {o : Obj} {n : Nat} (B : Below ((w.alloc o).drewN n).heap.size ((w.alloc o).drewN n) w5) : w5.heap[w.heap.size]? = some o := (B.block _ (by show w.heap.size < (w.alloc o).heap.size; simp)).trans (heap_alloc_new w o)
theorem allocDB (w : World) (o : Obj) : Below w.heap.size w (w.alloc o).drew := (allocB w o).grown (drewG _) (allocB w o).size (by simp)
theorem allocDN (w : World) (o : Obj) (n : Nat) : Below w.heap.size w ((w.alloc o).drewN n) := (allocB w o).grown (drewNG _ n) (allocB w o).size (by simp)
set_option maxHeartbeats 32000000 in
set_option maxRecDepth 100000 in
theorem Write_walk (p lp rp q : Nat) (tx snap last ho code : Int) (a : Lk) (hs y : Bool) (w w1 : World) (hw1 : w1 = w.alloc (.cells #[.string a.1, .string a.2] 23)) (Post : Int → World → Prop) (H2 H3 H4 : World → Prop)
    (A : Calls Tryz.prog 39 #[ptr p, .int .i64 tx] w1 fun e w' => e = .returned (.tuple #[ptr q, .int .i64 0]) ∧ w1 = w') (hl0 : ¬ last < 0)
    (c8 : w1.cell? ⟨p, 8, none⟩ = some (ptr lp)) (b0 : w1.cell? ⟨w.heap.size, 0, none⟩ = some (.string a.1)) (b1 : w1.cell? ⟨w.heap.size, 1, none⟩ = some (.string a.2))
    (hnot : hs = true → (ho == tx) = false)
    (HC : ∀ n, Calls Tryz.prog 40 #[ptr lp, .agg #[.string a.1, .string a.2]] (w1.drewN n) fun e w2 => e = .returned (.tuple #[.int .i64 ho, .bool hs]) ∧ H2 w2)
    (C2 : ∀ W, H2 W → W.cell? ⟨p, 8, none⟩ = some (ptr lp) ∧ W.cell? ⟨w.heap.size, 0, none⟩ = some (.string a.1) ∧ W.cell? ⟨w.heap.size, 1, none⟩ = some (.string a.2) ∧ W.cell? ⟨q, 1, none⟩ = some (.int .i64 snap))
    (TK : ∀ W, H2 W → ∀ n, Calls Tryz.prog 42 #[ptr lp, .int .i64 tx, .int .i64 snap, .int .i64 last, .agg #[.string a.1, .string a.2]] (W.drewN n) fun e w3 => e = .returned (.int .i64 code) ∧ H3 w3)
    (C3 : ∀ W, H3 W → W.cell? ⟨p, 8, none⟩ = some (ptr lp) ∧ W.cell? ⟨w.heap.size, 0, none⟩ = some (.string a.1) ∧ W.cell? ⟨w.heap.size, 1, none⟩ = some (.string a.2) ∧ W.cell? ⟨q, 1, none⟩ = some (.int .i64 snap))
    (BAD : code ≠ 0 → ∀ W, H3 W → Calls Tryz.prog 43 #[ptr p, ptr q] W fun e w' => e = .returned (.tuple #[]) ∧ Post code w')
    (OT : code = 0 → ∀ W, H3 W → Calls Tryz.prog 44 #[ptr p, ptr q, .func (.func 45) #[] #[ptr w.heap.size]] W fun e w4 => ∃ A n c, e = .returned (.slice A n c) ∧ decide (0 < n) = y ∧ n ≤ 65536 ∧ H4 w4)
    (LATE : code = 0 → y = true → ∀ W, H4 W → Calls Tryz.prog 43 #[ptr p, ptr q] W fun e w' => e = .returned (.tuple #[]) ∧ Post 81 w')
    (C4 : ∀ W, H4 W → W.cell? ⟨p, 9, none⟩ = some (ptr rp) ∧ W.cell? ⟨w.heap.size, 0, none⟩ = some (.string a.1) ∧ W.cell? ⟨w.heap.size, 1, none⟩ = some (.string a.2))
    (RDS : ∀ W, H4 W → ∀ W2, Below W.heap.size W W2 → Calls Tryz.prog 47 #[ptr rp, .string a.1, .string a.2] W2 fun e w5 => ∃ A5 n5 c5, e = .returned (.slice A5 n5 c5) ∧ Below W2.heap.size W2 w5 ∧ (∀ k, (Value.slice A5 n5 c5).ownBlock = some k → W2.heap.size ≤ k ∧ k < w5.heap.size) ∧
      (code = 0 → y = false → ∀ w6 b, Below W.heap.size W w6 → (∀ k, (Value.slice A5 n5 c5).ownBlock = some k → w6.heap[k]? = w5.heap[k]?) → w6.cell? ⟨b, 0, none⟩ = some (.slice A5 n5 c5) → Calls Tryz.prog 44 #[ptr p, ptr q, .func (.func 49) #[] #[ptr b]] w6 fun e w7 => ∃ u, e = .returned u ∧ Calls Tryz.prog 48 #[ptr p, ptr q, u, .bool false] w7 fun e w' => ∃ k, e = .returned (.int .i64 k) ∧ Post k w')) :
    Calls Tryz.prog 15 #[ptr p, .int .i64 tx, .agg #[.string a.1, .string a.2], .int .i64 last] w fun e w' => ∃ k, e = .returned (.int .i64 k) ∧ Post k w' := by
  replace C2 := Aside0.mk C2
  replace C3 := Aside0.mk C3
  replace C4 := Aside0.mk C4
  replace TK := Aside0.mk TK
  replace BAD := Aside0.mk BAD
  replace OT := Aside0.mk OT
  replace LATE := Aside0.mk LATE
  replace RDS := Aside0.mk RDS
  have hcd := Decidable.em (code = 0)
  replace hcd := Aside0.mk hcd
  go_enter Tryz.func15, Tryz.ntmps15
  go_wp2_with fail
  rw [← hw1]
  clear hw1
  refine A.mono ?_
  rintro e w' ⟨rfl, rfl⟩
  go_wp2_with fail
  go_region_held3 (fun V => V.cell? ⟨p, 8, none⟩ = some (ptr lp) ∧ V.cell? ⟨w.heap.size, 0, none⟩ = some (.string a.1) ∧ V.cell? ⟨w.heap.size, 1, none⟩ = some (.string a.2)) (first | exact ⟨c8, b0, b1⟩ | exact ⟨K2.1, K2.2.1, K2.2.2.1⟩)
    ((go_at_call 40; refine (HC _).mono ?_; rintro e w2 ⟨rfl, B2⟩; have K2 := C2.out w2 B2))
  clear HC c8 b0 b1
  have TK2 := TK.out w2 B2
  clear B2
  go_wp2_with fail
  all_goals
    obtain ⟨d0, d1, d2, d3⟩ := K2
    go_region_held3 (fun V => V.cell? ⟨p, 8, none⟩ = some (ptr lp) ∧ V.cell? ⟨q, 1, none⟩ = some (.int .i64 snap) ∧ V.cell? ⟨w.heap.size, 0, none⟩ = some (.string a.1) ∧ V.cell? ⟨w.heap.size, 1, none⟩ = some (.string a.2)) (first | exact ⟨d0, d3, d1, d2⟩ | exact ⟨K3.1, K3.2.2.2, K3.2.1, K3.2.2.1⟩)
      ((go_at_call 42; refine (TK2 _).mono ?_; rintro e w3 ⟨rfl, B3⟩; have K3 := C3.out w3 B3))
  all_goals
    clear TK2 d0 d1 d2 d3 K3
    rcases hcd.out with hc0 | hc0
    · have OT2 := OT.out hc0 w3 B3
      have LT := Aside0.mk (LATE.out hc0)
      have RD : Aside0 (∀ W, H4 W → ∀ W2, Below W.heap.size W W2 → Calls Tryz.prog 47 #[ptr rp, .string a.1, .string a.2] W2 fun e w5 => ∃ A5 n5 c5, e = .returned (.slice A5 n5 c5) ∧ Below W2.heap.size W2 w5 ∧ (∀ k, (Value.slice A5 n5 c5).ownBlock = some k → W2.heap.size ≤ k ∧ k < w5.heap.size) ∧
          (y = false → ∀ w6 b, Below W.heap.size W w6 → (∀ k, (Value.slice A5 n5 c5).ownBlock = some k → w6.heap[k]? = w5.heap[k]?) → w6.cell? ⟨b, 0, none⟩ = some (.slice A5 n5 c5) → Calls Tryz.prog 44 #[ptr p, ptr q, .func (.func 49) #[] #[ptr b]] w6 fun e w7 => ∃ u, e = .returned u ∧ Calls Tryz.prog 48 #[ptr p, ptr q, u, .bool false] w7 fun e w' => ∃ k, e = .returned (.int .i64 k) ∧ Post k w')) :=
        Aside0.mk (fun W h W2 B => (RDS.out W h W2 B).mono (fun e w5 ⟨A5, n5, c5, h1, h2, h3, h4⟩ => ⟨A5, n5, c5, h1, h2, h3, h4 hc0⟩))
      clear BAD B3 RDS LATE OT hcd
      subst hc0
      go_wp2_with fail
      refine OT2.mono ?_
      rintro e w4 ⟨A4, n4, c4, rfl, hy4, hn4, H4'⟩
      clear OT2
      by_cases hn0 : 0 < n4
      · have hy1 : y = true := by rw [← hy4]; exact decide_eq_true hn0
        have L2 := LT.out hy1 w4 H4'
        clear RD hy1 hy4 LT
        go_wp2_with fail
        refine L2.mono ?_
        rintro e w5 ⟨rfl, HP⟩
        go_wp2
        go_ret
        exact ⟨_, rfl, HP⟩
      · have hy0 : y = false := by rw [← hy4]; exact decide_eq_false hn0
        have hn1 : n4 = 0 := by omega
        obtain ⟨e0, e1, e2⟩ := C4.out w4 H4'
        have RD2 := RD.out w4 H4'
        clear hy4 LT hn0 hn4 RD
        subst hn1
        go_wp2_with fail
        have K5 : ∀ w5, Below w4.heap.size w4 w5 → w5.cell? ⟨p, 9, none⟩ = some (ptr rp) ∧ w5.cell? ⟨w.heap.size, 0, none⟩ = some (.string a.1) ∧ w5.cell? ⟨w.heap.size, 1, none⟩ = some (.string a.2) := fun w5 B => ⟨below_cell B e0, below_cell B e1, below_cell B e2⟩
        replace K5 := Aside0.mk K5
        clear C2 C3 C4 TK hnot A
        go_region_held3 (fun V => V.cell? ⟨p, 9, none⟩ = some (ptr rp) ∧ V.cell? ⟨w.heap.size, 0, none⟩ = some (.string a.1) ∧ V.cell? ⟨w.heap.size, 1, none⟩ = some (.string a.2)) (first | exact ⟨e0, e1, e2⟩ | exact K6 | exact K5.out _ (allocB w4 _) | exact K5.out _ (allocDB w4 _) | exact K5.out _ (below_alloc B5' _) | exact K5.out _ ((below_alloc B5' _).setCell (by first | exact B5'.size | simpa using B5'.size) _) | exact K5.out _ (B5'.setCell (Nat.le_refl _) _))
          ((go_at_call 47; first | (refine (RD2 _ (drewB2 _ _)).mono ?_; rintro e w5 ⟨A5, n5, c5, rfl, B5, R5, P5⟩; have B5' := below_then (drewB2 w4 _) (drewB2 w4 _).size B5; have K6 := K5.out w5 B5') | (refine (RD2 _ (allocDN w4 _ _)).mono ?_; rintro e w5 ⟨A5, n5, c5, rfl, B5, R5, P5⟩; have B5' := below_then (allocDN w4 _ _) (allocDN w4 _ _).size B5; have K6 := K5.out w5 B5'; have BX := boxDN B5; have FZ := blk_frozen BX; have CX := cell_of_row w5 _ 0 _ 63 (0, 0) BX)))
        all_goals
          clear RD2 K5 K6 e0 e1 e2
          have P6 := P5 hy0
          clear P5
          replace P6 := Aside0.mk P6
          go_wp2_with fail
          refine (P6.out _ _ (by first | exact below_alloc B5' _ | exact (below_alloc B5' _).setCell (by first | exact B5'.size | simpa using B5'.size) _ | exact B5'.setCell (Nat.le_refl _) _)
            (by
              intro k hk
              have h := R5 k hk
              first
                | exact (World.grownBy_alloc w5 _ none).block k h.2 (by simp)
                | exact (grown_set w5 w4.heap.size _ _).block k h.2 (fun e => by injection e with e; have h1 := h.1; rw [boxSz] at h1; omega))
            (by first | (simp [go_sem]; done) | exact cell_of_row _ w4.heap.size 0 _ 63 (0, 0) (blk_set BX 0 _))).mono ?_
          rintro e w7 ⟨u7, rfl, P7⟩
          go_wp2_with fail
          refine P7.mono ?_
          rintro e w8 ⟨k8, rfl, P8⟩
          go_wp2
          go_ret
          exact ⟨_, rfl, P8⟩
    · have BD := BAD.out hc0 w3 B3
      clear OT LATE RDS BAD B3 hcd
      have hc1 : (code != 0) = true := by simpa using hc0
      clear hc0
      go_wp2_with fail
      refine BD.mono ?_
      rintro e w4 ⟨rfl, HP⟩
      go_wp2
      all_goals go_ret
      all_goals exact ⟨_, rfl, HP⟩
set_option maxHeartbeats 32000000 in
set_option maxRecDepth 100000 in
theorem Write_s (base : Nat) (l : Loc) (S : Sm St) (tx : Int) (a : Lk) (last : Int) (w : World) (K N : Int) (h : Pm w base l S) (hC : Cap S K N) (hx : okN tx) (ha : LkOK a) :
    Calls Tryz.prog 15 #[ptr l.p, .int .i64 tx, .agg #[.string a.1, .string a.2], .int .i64 last] w (OpQ base l S (S.write (iS S.caps.reads) tx a last) w) := by
  obtain ⟨w1, hw1⟩ : ∃ w1, w1 = w.alloc (.cells #[.string a.1, .string a.2] 23) := ⟨_, rfl⟩
  obtain ⟨B1, hsz, b0, b1⟩ := lk_box w w1 a hw1
  have P1 := h.below B1
  have A := active_s base l S tx w1 P1 hx
  unfold Sm.write
  cases hv : S.actv tx with
  | none =>
    rw [hv] at A
    unfold actV at A
    replace h := Aside0.mk h
    replace hv := Aside0.mk hv
    replace hC := Aside0.mk hC
    clear P1
    go_enter Tryz.func15, Tryz.ntmps15
    go_wp2_with fail
    rw [← hw1]
    clear hw1
    refine A.mono ?_
    rintro e w' ⟨rfl, rfl⟩
    go_wp2
    go_ret
    exact OpQ.sameB h.out B1
  | some t =>
    rw [hv] at A
    unfold actV at A
    dsimp only at A
    dsimp only
    obtain ⟨ht, hn, _⟩ := actv_mem hv
    by_cases hl0 : last < 0
    · rw [if_pos hl0]
      replace h := Aside0.mk h
      replace hC := Aside0.mk hC
      clear P1 hv ht hn
      generalize l.Q t.num = q at *
      go_enter Tryz.func15, Tryz.ntmps15
      go_wp2_with fail
      rw [← hw1]
      clear hw1
      refine A.mono ?_
      rintro e w' ⟨rfl, rfl⟩
      go_wp2
      go_ret
      exact OpQ.sameB h.out B1
    · rw [if_neg hl0]
      obtain ⟨TK, CEL, GN, OT, RDS, PUT⟩ := write_rest base l S t a last w w1 K N h hC ht (by omega) hw1 ha
      obtain ⟨c8, c9, t1, _, _⟩ := CEL w1 (Fr.refl _ _)
      have HC : ∀ n, Calls Tryz.prog 40 #[ptr l.lp, .agg #[.string a.1, .string a.2]] (w1.drewN n) fun e w' => e = .returned (.tuple #[.int .i64 ((holder S.locks a).getD 0), .bool (holder S.locks a).isSome]) ∧ Below w1.heap.size w1 w' := fun n => by
        rw [← got_holder]
        refine (Lck.Holder_calls l.lp l.lb S.caps.locks S.locks a (w1.drewN n) (P1.below (drewB2 w1 n)).locks ha.lck).mono ?_
        rintro e w' ⟨rfl, B⟩
        exact ⟨rfl, below_then (drewB2 w1 n) (by simp) B⟩
      have CELB : ∀ W, Below w1.heap.size w1 W → W.cell? ⟨l.p, 8, none⟩ = some (ptr l.lp) ∧ W.cell? ⟨w.heap.size, 0, none⟩ = some (.string a.1) ∧ W.cell? ⟨w.heap.size, 1, none⟩ = some (.string a.2) := fun W B => ⟨below_cell B c8, below_cell B b0, below_cell B b1⟩
      have SAME : ∀ W, Below w1.heap.size w1 W → OpQ base l S (0, S) w (.returned (.int .i64 0)) W := fun W B => OpQ.sameB h (below_then B1 B1.size B)
      by_cases e0 : holder S.locks a = some tx
      · rw [if_pos e0]
        rw [e0] at HC
        replace HC : ∀ n, Calls Tryz.prog 40 #[ptr l.lp, .agg #[.string a.1, .string a.2]] (w1.drewN n) fun e w' => e = .returned (.tuple #[.int .i64 tx, .bool true]) ∧ Below w1.heap.size w1 w' := HC
        clear t1 c9 TK CEL GN OT RDS PUT P1 h B1 hsz hC ha hv ht
        unfold OpQ at SAME ⊢
        replace CELB := Aside0.mk CELB
        replace SAME := Aside0.mk SAME
        replace e0 := Aside0.mk e0
        replace hn := Aside0.mk hn
        generalize l.Q t.num = q at *
        go_enter Tryz.func15, Tryz.ntmps15
        go_wp2_with fail
        rw [← hw1]
        clear hw1
        refine A.mono ?_
        rintro e w' ⟨rfl, rfl⟩
        go_wp2_with fail
        go_region_held3 (fun V => V.cell? ⟨l.p, 8, none⟩ = some (ptr l.lp) ∧ V.cell? ⟨w.heap.size, 0, none⟩ = some (.string a.1) ∧ V.cell? ⟨w.heap.size, 1, none⟩ = some (.string a.2)) (first | exact ⟨c8, b0, b1⟩ | exact K2)
          ((go_at_call 40; refine (HC _).mono ?_; rintro e w2 ⟨rfl, B2⟩; have K2 := CELB.out w2 B2))
        all_goals
          have SAME := Aside0.mk (SAME.out w2 B2)
          replace B2 := Aside0.mk B2
          clear HC
          go_wp2
          go_ret
          exact ⟨rfl, SAME.out.2⟩
      · rw [if_neg e0]
        subst hn
        have hnot : (holder S.locks a).isSome = true → ((holder S.locks a).getD 0 == t.num) = false := fun h2 => by
          cases hh : holder S.locks a with
          | none => rw [hh] at h2; cases h2
          | some z =>
            rw [hh] at e0
            simp only [Option.getD_some]
            have : z ≠ t.num := fun e => e0 (by rw [e])
            simpa using this
        have hlenX := tk_len (most := S.caps.locks) (L := S.locks) (tx := t.num) (snap := t.snap) (last := last) (a := a) hC.lck
        have hbadX := tk_bad (most := S.caps.locks) (L := S.locks) (tx := t.num) (snap := t.snap) (last := last) (a := a)
        generalize tk S.caps.locks S.locks t.num t.snap last a = X at TK hlenX hbadX ⊢
        generalize hy : S.txs.any (fun o => concB t o && (!o.act && decide (a ∈ o.wrote))) = y at OT ⊢
        generalize hR : (if X.1 ≠ 0 then (X.1, S.gone (iS S.caps.reads) t.num) else if y = true then (81, Sm.gone (iS S.caps.reads) { S with locks := X.2 } t.num) else Sm.put (iS S.caps.reads) { S with locks := X.2 } t (fun o => decide (o.num ∈ (iS S.caps.reads).rdrs S.reads a.1 a.2)) false) = R
        refine (Write_walk l.p l.lp l.rp (l.Q t.num) t.num t.snap last ((holder S.locks a).getD 0) X.1 a (holder S.locks a).isSome y w w1 hw1 (fun k W => OpQ base l S R w (.returned (.int .i64 k)) W)
          (fun W => Below w1.heap.size w1 W) (fun W => Pm W base l { S with locks := X.2 } ∧ Fr (fun k => k = l.lb) w1 W) (fun W => Pm W base l { S with locks := X.2 } ∧ Fr (fun k => k = l.lb) w1 W)
          A hl0 c8 b0 b1 hnot HC ?_ ?_ ?_ ?_ ?_ ?_ ?_ ?_).mono (fun e w' ⟨k, h1, h2⟩ => by rw [h1]; exact h2)
        · exact fun W B => ⟨(CELB W B).1, (CELB W B).2.1, (CELB W B).2.2, below_cell B t1⟩
        · exact fun W B n => TK W B n
        · exact fun W ⟨P, F⟩ => ⟨(CEL W F).1, (CEL W F).2.2.2.1, (CEL W F).2.2.2.2, (CEL W F).2.2.1⟩
        · intro hc W ⟨P, F⟩
          have := GN W X.2 X.1 F P hlenX
          rw [hbadX hc] at this
          rw [← hR, if_pos hc]
          exact this
        · intro hc W ⟨P, F⟩
          refine (OT W X.2 F P).mono ?_
          rintro e w4 ⟨A4, n4, c4, h1, h2, h3, h4⟩
          exact ⟨A4, n4, c4, h1, h2, h3, P.below h4, F.trans (Fr.ofBelow (O := fun _ => False) h4) (fun k hk _ => hk.elim)⟩
        · intro hc hy1 W ⟨P, F⟩
          rw [← hR, if_neg (fun h => h hc), if_pos hy1]
          exact GN W X.2 81 F P hlenX
        · exact fun W ⟨P, F⟩ => ⟨(CEL W F).2.1, (CEL W F).2.2.2.1, (CEL W F).2.2.2.2⟩
        · intro W ⟨P, F⟩ W2 B
          refine (RDS W W2 X.2 P B).mono ?_
          rintro e w5 ⟨v, rfl, hv5, B5⟩
          obtain ⟨A5, c5, rfl, _⟩ := hv5.slice
          refine ⟨A5, _, c5, rfl, B5, fun k hk => ⟨(hv5.typed k hk).1, (hv5.typed k hk).2.1⟩, fun hc hy0 w6 b B6 hrow hb => ?_⟩
          refine (PUT W w6 X.2 b _ _ F P hlenX B6 (hv5.move hrow) hb).mono ?_
          rintro e w7 ⟨u, rfl, hu⟩
          refine ⟨u, rfl, hu.mono ?_⟩
          intro e w8 h8
          rw [← hR, if_neg (fun h => h hc), if_neg (by rw [hy0]; decide)]
          obtain ⟨h9, h10⟩ := h8
          exact ⟨_, h9, rfl, h10⟩
end Go.Proofs.YthaoedfalkebbaaGreat
