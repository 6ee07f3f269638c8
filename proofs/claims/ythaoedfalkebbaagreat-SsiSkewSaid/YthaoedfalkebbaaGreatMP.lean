import Derived.Test.YthaoedfalkebbaaGreatMO
import Derived.Test.YthaoedfalkebbaaGreatMJ
namespace Go.Proofs.YthaoedfalkebbaaGreat
open Go.RowKit Go.Maps Go.Sort Go.Lib Go.Shelf Go.Proofs.YthaoedfalkebbaaGreatW.PrintWords Go.Proofs.YthaoedfalkebbaaGreatW.PrintLast Go.Proofs.YthaoedfalkebbaaGreatW.PrintMore
set_option linter.unusedVariables false
set_option linter.unusedSimpArgs false
set_option linter.unusedSectionVars false
/-! ### gone -/
/-- some go, notes and locks with them -/
theorem Pm.turn2 {w w' : World} {base : Nat} {l : Loc} {S S' : Sm St} {O : Nat → Prop} (h : Pm w base l S) (f : Fr O w w') (hO : ∀ k, O k → k = l.mb ∨ k = l.rp ∨ k = l.rb ∨ k = l.lb) (e1 : S'.caps = S.caps) (e2 : S'.now = S.now) (e3 : S'.last = S.last) (e4 : S'.clock = S.clock) (hs : S'.txs.Sublist S.txs)
    (ht : TabT w' l.mb S'.txs.length (txL l.Q S'.txs)) (hr : MrS w' base l.rp l.rb S.caps.reads S'.reads) (hl : Lck.Mg w' l.lp l.lb S.caps.locks S'.locks) : Pm w' base l S' := by
  obtain ⟨hk, k1, k2, k3, k4, k5, k6, k7, k8, k9, k10, k11, k12⟩ := h.kinds
  have hm : ∀ t, t ∈ S'.txs → t ∈ S.txs := fun t ht => hs.subset ht
  have no : ∀ k, (k ≠ l.mb ∧ k ≠ l.rp ∧ k ≠ l.rb ∧ k ≠ l.lb) → ¬ O k := fun k hk h => by
    rcases hO k h with e | e | e | e
    · exact hk.1 e
    · exact hk.2.1 e
    · exact hk.2.2.1 e
    · exact hk.2.2.2 e
  obtain ⟨es1, c1, hmap⟩ := h.tab.isMap
  obtain ⟨cr, sr, hrr⟩ := h.reads.is55
  obtain ⟨⟨L, M, _, _⟩, _⟩ := h.reads
  obtain ⟨e3', c3', hrm⟩ := M.tab.isMap
  obtain ⟨D, ⟨es, clock, hlm, _⟩, _⟩ := h.locks.tab
  constructor
  · have := f.block _ _ (no l.p ⟨k1, k4, k5, k3⟩) h.head
    unfold hdCells at this ⊢
    rw [e1, e2, e3, e4]
    exact this
  · exact ht
  · intro t htm
    obtain ⟨v, h1, ws, h2, h3⟩ := h.tx t (hm t htm)
    obtain ⟨q1, q2, q3, q4, q5, q6⟩ := hk t (hm t htm)
    refine ⟨v, f.block _ _ (no _ ⟨q2, q5, q6, q4⟩) h1, ws, h2.move fun g hg => ?_, h3⟩
    obtain ⟨_, _, cells, hc⟩ := h2.typed g hg
    refine (f.block g _ (no g ⟨fun e => ?_, fun e => ?_, fun e => ?_, fun e => ?_⟩) hc).trans hc.symm
    · rw [e, hmap] at hc; cases hc
    · rw [e, hrr] at hc; simp at hc
    · rw [e, hrm] at hc; cases hc
    · rw [e, hlm] at hc; cases hc
  · exact fun t ht u hu e => h.qinj t (hm t ht) u (hm u hu) e
  · rw [e1]; exact hl
  · obtain ⟨c, s, hc⟩ := h.lkind
    exact ⟨c, s, f.block _ _ (no _ ⟨k6, k8, k9, k7⟩) hc⟩
  · rw [e1]; exact hr
  · exact h.dist.sublist hs
  · intro t ht
    rw [e3]
    exact h.nums t (hm t ht)
  · exact Nat.le_trans hs.length_le h.few
  · exact h.ne1
  · exact h.ne2
  · exact h.ne3
  · exact ⟨h.low.1, h.low.2.1, h.low.2.2.1, h.low.2.2.2.1, h.low.2.2.2.2.1, fun t ht => h.low.2.2.2.2.2 t (hm t ht)⟩
def own4 (l : Loc) (k : Nat) : Prop := k = l.mb ∨ k = l.rp ∨ k = l.rb ∨ k = l.lb
theorem Fr.drewN {O : Nat → Prop} (w : World) (n : Nat) : Fr O w (w.drewN n) := ⟨rfl, rfl, rfl, Nat.le_refl _, fun _ _ _ h => h⟩
theorem drewB2 (w : World) (n : Nat) : Below w.heap.size w (w.drewN n) := (Below.refl _ w).grown (drewNG w n) (Nat.le_refl _) (by simp)
set_option maxHeartbeats 16000000 in
set_option maxRecDepth 100000 in
theorem gone_s (base : Nat) (l : Loc) (S : Sm St) (t : Tx) (w : World) (h : Pm w base l S) (ht : t ∈ S.txs) (hlk : S.locks.length ≤ 4096) :
    Calls Tryz.prog 43 #[ptr l.p, ptr (l.Q t.num)] w fun e w' => e = .returned (.tuple #[]) ∧ Pm w' base l (S.gone (iS S.caps.reads) t.num) ∧ Fr (own4 l) w w' := by
  obtain ⟨_, _, _, _, _, _, _, c7, c8, c9⟩ := h.cells
  obtain ⟨hk, k1, k2, k3, k4, k5, k6, k7, k8, k9, k10, k11, k12⟩ := h.kinds
  obtain ⟨q1, q2, q3, q4, q5, q6⟩ := hk t ht
  obtain ⟨vt, hvt, _⟩ := h.tx t ht
  obtain ⟨t0, _⟩ := tx_cells hvt
  have hok := (h.nums t ht).2.2
  have CELL : ∀ W, Fr (own4 l) w W → W.cell? ⟨l.p, 7, none⟩ = some (.map (some l.mb)) ∧ W.cell? ⟨l.p, 8, none⟩ = some (ptr l.lp) ∧ W.cell? ⟨l.p, 9, none⟩ = some (ptr l.rp) ∧ W.cell? ⟨l.Q t.num, 0, none⟩ = some (.int .i64 t.num) := fun W F => by
    have no : ¬ own4 l l.p := fun h => by rcases h with e | e | e | e <;> omega
    have no2 : ¬ own4 l (l.Q t.num) := fun h => by rcases h with e | e | e | e <;> omega
    exact ⟨F.cell c7 no, F.cell c8 no, F.cell c9 no, F.cell t0 no2⟩
  have R1 : ∀ n, Calls Tryz.prog 53 #[ptr l.lp, .int .i64 t.num] (w.drewN n) fun e w1 => (∃ k, e = .returned (.int .i64 k)) ∧ Lck.Mg w1 l.lp l.lb S.caps.locks (S.locks.filter (fun p => p.2 ≠ t.num)) ∧ Fr (fun k => k = l.lb) w w1 := fun n => by
    have hM := (h.below (drewB2 w n)).locks
    refine (Lck.Release_calls l.lp l.lb S.caps.locks S.locks t.num (w.drewN n) hM hlk).mono ?_
    rintro e w1 ⟨rfl, h1, h2⟩
    exact ⟨⟨_, rfl⟩, h1, (Fr.drewN w n).trans (Fr.grown h2) (fun k hk _ => by injection hk with hk; exact hk.symm)⟩
  have R2 : ∀ w1, Fr (fun k => k = l.lb) w w1 → ∀ n, Calls Tryz.prog 54 #[ptr l.rp, .int .i64 t.num] (w1.drewN n) fun e w2 => (∃ k, e = .returned (.int .i64 k)) ∧ MrS w2 base l.rp l.rb S.caps.reads (dropP S.reads t.num).2 ∧ Fr (fun k => k = l.rp ∨ k = l.rb) w1 w2 := fun w1 F1 n => by
    have hM1 : MrS w1 base l.rp l.rb S.caps.reads S.reads := h.reads.fr F1 (fun e => k11 e) (fun e => h.ne3 e.symm) (fun k c s hk hc => by
      obtain ⟨D, ⟨es, clock, hlm, _⟩, _⟩ := h.locks.tab
      have hk : k = l.lb := hk
      rw [hk, hlm] at hc; cases hc)
    refine (Drop_S base l.rp l.rb S.caps.reads S.reads t.num (w1.drewN n) (hM1.kept (drewNG w1 n))).mono ?_
    rintro e w2 ⟨rfl, h1, h2⟩
    exact ⟨⟨_, rfl⟩, h1, (Fr.drewN w1 n).trans (Fr.ofBut h2) (fun k hk _ => hk)⟩
  have R3 : ∀ w1 w2, Lck.Mg w1 l.lp l.lb S.caps.locks (S.locks.filter (fun p => p.2 ≠ t.num)) → Fr (fun k => k = l.lb) w w1 → MrS w2 base l.rp l.rb S.caps.reads (dropP S.reads t.num).2 → Fr (fun k => k = l.rp ∨ k = l.rb) w1 w2 →
      ∃ w3, (Builtin.delete_ #[86, 2] 0 #[.map (some l.mb), .int .i64 t.num]).run Tryz.prog w2.drew = .ok (.tuple #[]) w3 ∧ Fr (own4 l) w w3 ∧ Pm w3 base l { S with locks := S.locks.filter (fun p => p.2 != t.num), reads := (dropP S.reads t.num).2, txs := S.txs.filter (fun u => u.num != t.num) } := by
    intro w1 w2 hL1 F1 hM2 F2
    have F12 : Fr (own4 l) w w2 := (F1.mono (fun k hk _ => .inr (.inr (.inr hk)))).trans F2 (fun k hk _ => by rcases hk with e | e; exact .inr (.inl e); exact .inr (.inr (.inl e)))
    have F12d : Fr (own4 l) w w2.drew := F12.trans (Fr.drewN (O := fun _ => False) w2 1) (fun _ h _ => h.elim)
    have T2 : TabT w2.drew l.mb S.txs.length (txL l.Q S.txs) := by
      have T1 := h.tab.fr F1 (fun e => h.ne1 e)
      have := T1.fr F2 (fun e => by rcases e with e | e; exact k10 e.symm; exact h.ne2 e)
      exact this.fr (Fr.drewN (O := fun _ => False) w2 1) (fun h => h)
    obtain ⟨w3, hdel, T3, hturn⟩ := T2.drop (t := 86) (e := 99) keyN Tryz.underlying86 hok 0
    obtain ⟨es5, cl5, hmap5⟩ := T2.isMap
    have G3 := Fr.grown (turned_grown hturn)
    have F3 : Fr (own4 l) w w3 := F12d.trans G3 (fun k hk _ => by injection hk with hk; exact .inl hk.symm)
    refine ⟨w3, hdel, F3, h.turn2 F3 (fun _ h => h) rfl rfl rfl rfl List.filter_sublist ?_ ?_ ?_⟩
    · rw [txL_filter] at T3
      have T4 := T3.exact
      have e : S.txs.filter (fun u => decide (u.num ≠ t.num)) = S.txs.filter (fun u => u.num != t.num) := List.filter_congr (fun u _ => by by_cases h : u.num = t.num <;> simp [h])
      rw [e] at T4
      have e2 : (txL l.Q (S.txs.filter (fun u => u.num != t.num))).length = (S.txs.filter (fun u => u.num != t.num)).length := by unfold txL; rw [List.length_map]
      rw [e2] at T4
      exact T4
    · have hMd : MrS w2.drew base l.rp l.rb S.caps.reads (dropP S.reads t.num).2 := hM2.kept (drewG w2)
      refine hMd.fr G3 (fun e => by injection e with e; exact k10 e.symm) (fun e => by injection e with e; exact h.ne2 e) (fun k c s hk hc => ?_)
      injection hk with hk
      rw [← hk, hmap5] at hc
      cases hc
    · have e : S.locks.filter (fun p => decide (p.2 ≠ t.num)) = S.locks.filter (fun p => p.2 != t.num) := List.filter_congr (fun p _ => by by_cases h : p.2 = t.num <;> simp [h])
      rw [← e]
      have L2 := hL1.fr F2 (fun e => by rcases e with e | e; exact k8 e; exact k9 e) (fun e => by rcases e with e | e; exact k11 e.symm; exact h.ne3 e)
      have L2d := L2.fr (Fr.drewN (O := fun _ => False) w2 1) (fun h => h) (fun h => h)
      exact L2d.fr G3 (fun e => by injection e with e; exact k6 e.symm) (fun e => by injection e with e; exact h.ne1 e)
  have R4 : ∀ w3, Fr (own4 l) w w3 → Pm w3 base l { S with locks := S.locks.filter (fun p => p.2 != t.num), reads := (dropP S.reads t.num).2, txs := S.txs.filter (fun u => u.num != t.num) } → Calls Tryz.prog 55 #[ptr l.p] w3 fun e w' => e = .returned (.tuple #[]) ∧ Pm w' base l (S.gone (iS S.caps.reads) t.num) ∧ Fr (own4 l) w w' := fun w3 F3 P3 => by
    refine (forget_s base l _ w3 P3).mono ?_
    rintro e w' ⟨rfl, h1, h2⟩
    exact ⟨rfl, h1, F3.trans h2 (fun k hk _ => by rcases hk with e | e | e; exact .inl e; exact .inr (.inl e); exact .inr (.inr (.inl e)))⟩
  have F0 := fun w1 (F1 : Fr (fun k => k = l.lb) w w1) => F1.mono (O2 := own4 l) (fun k hk _ => .inr (.inr (.inr hk)))
  have F00 := fun w1 w2 (F1 : Fr (fun k => k = l.lb) w w1) (F2 : Fr (fun k => k = l.rp ∨ k = l.rb) w1 w2) => (F0 w1 F1).trans F2 (fun k hk _ => by rcases hk with e | e; exact .inr (.inl e); exact .inr (.inr (.inl e)))
  clear h hk hvt q1 q2 q3 q4 q5 q6 k1 k2 k3 k4 k5 k6 k7 k8 k9 k10 k11 k12 hok ht hlk
  replace CELL := Aside0.mk CELL
  replace R2 := Aside0.mk R2
  replace R3 := Aside0.mk R3
  replace R4 := Aside0.mk R4
  replace F0 := Aside0.mk F0
  replace F00 := Aside0.mk F00
  generalize hqt : l.Q t.num = qt at *
  replace hqt := Aside0.mk hqt
  go_enter Tryz.func43, Tryz.ntmps43
  go_wp2_with fail
  go_region_held3 (fun V => V.cell? ⟨l.p, 8, none⟩ = some (ptr l.lp) ∧ V.cell? ⟨qt, 0, none⟩ = some (.int .i64 t.num)) (first | exact ⟨c8, t0⟩ | exact ⟨K9.2.1, K9.2.2.2⟩)
    ((go_at_call 53; refine (R1 _).mono ?_; rintro e w1 ⟨⟨kk, rfl⟩, hL1, hF1⟩; have K9 := CELL.out w1 (F0.out w1 hF1)))
  clear R1 c7 c8 c9 t0
  obtain ⟨d7, d8, d9, e0⟩ := K9
  have R2 := R2.out w1 hF1
  go_wp2_with fail
  go_region_held3 (fun V => V.cell? ⟨l.p, 9, none⟩ = some (ptr l.rp) ∧ V.cell? ⟨qt, 0, none⟩ = some (.int .i64 t.num)) (first | exact ⟨d9, e0⟩ | exact ⟨K10.2.2.1, K10.2.2.2⟩)
    ((go_at_call 54; refine (R2 _).mono ?_; rintro e w2 ⟨⟨kk2, rfl⟩, hM2, hF2⟩; have K10 := CELL.out w2 (F00.out w1 w2 hF1 hF2)))
  clear R2 d7 d8 d9 e0
  obtain ⟨d7, d8, d9, e0⟩ := K10
  obtain ⟨w3, hdel, hF3, P3⟩ := R3.out w1 w2 hL1 hF1 hM2 hF2
  have R4 := R4.out w3 hF3 P3
  obtain ⟨g7, _, _, g0⟩ := CELL.out w3 hF3
  clear P3 hF3 hM2 hF2 hL1 hF1
  go_wp2_with fail
  go_region_held3 (fun V => V.cell? ⟨l.p, 7, none⟩ = some (.map (some l.mb)) ∧ V.cell? ⟨qt, 0, none⟩ = some (.int .i64 t.num)) (first | exact ⟨d7, e0⟩ | exact ⟨g7, g0⟩) (fail)
  clear hdel d7 d8 d9 e0 g7 g0
  go_wp2_with fail
  refine R4.mono ?_
  rintro e w4 ⟨rfl, hP, hF⟩
  replace hP := Aside0.mk hP
  replace hF := Aside0.mk hF
  go_wp2
  go_end0
  exact ⟨rfl, hP.out, hF.out⟩
end Go.Proofs.YthaoedfalkebbaaGreat
namespace Go.Proofs.YthaoedfalkebbaaGreat
open Go.RowKit Go.Maps Go.Sort Go.Lib Go.Shelf Go.Proofs.YthaoedfalkebbaaGreatW.PrintWords Go.Proofs.YthaoedfalkebbaaGreatW.PrintLast Go.Proofs.YthaoedfalkebbaaGreatW.PrintMore
set_option linter.unusedVariables false
set_option linter.unusedSimpArgs false
set_option linter.unusedSectionVars false
/-! ### rows of places: ContainsFunc, Contains -/
abbrev RowL (w : World) (base : Nat) (v : Value) (xs : List Lk) : Prop := Lo Lck.cellsL 2 23 w base v xs
theorem RowL.at {w : World} {base g n c : Nat} {xs : List Lk} (h : RowL w base (.slice (some ⟨g, 0, none⟩) n c) xs) (j : Nat) (x : Lk) (hj : xs[j]? = some x) :
    w.cell? ⟨g, j * 2, none⟩ = some (.string x.1) ∧ w.cell? ⟨g, j * 2 + 1, none⟩ = some (.string x.2) := by
  have H := h.cell (fun _ => rfl) rfl j x hj
  exact ⟨by simpa using H 0 _ rfl, H 1 _ rfl⟩
def PredL (w : World) (g : Nat) (lb : Array Value) (p : Lk → Bool) (xs : List Lk) : Prop :=
  ∀ (W : World) (x : Lk), x ∈ xs → Below w.heap.size w W → Calls Tryz.prog g (#[.agg #[.string x.1, .string x.2]] ++ lb) W fun e w' => e = .returned (.bool (p x)) ∧ Below W.heap.size W w'
def idxL (p : Lk → Bool) (xs : List Lk) : Int := if xs.findIdx p < xs.length then xs.findIdx p else -1
theorem idxL_hit {p : Lk → Bool} {xs : List Lk} {j : Nat} (hj : j < xs.length) (h : p xs[j] = true) (hn : ∀ i (hi : i < xs.length), i < j → p xs[i] = false) : xs.findIdx p = j := by
  rw [List.findIdx_eq hj]
  exact ⟨h, fun i hi => hn i (by omega) hi⟩
theorem idxL_none {p : Lk → Bool} {xs : List Lk} (h : ∀ i (hi : i < xs.length), p xs[i] = false) : xs.findIdx p = xs.length := by
  rw [List.findIdx_eq_length]
  intro x hx
  obtain ⟨i, hi, rfl⟩ := List.getElem_of_mem hx
  exact h i hi
set_option maxHeartbeats 4000000 in
set_option maxRecDepth 100000 in
theorem IndexFuncL_calls (base : Nat) (v : Value) (xs : List Lk) (p : Lk → Bool) (g : Nat) (lb : Array Value) (eg : ∀ args w, (callFunc g args).run Tryz.prog w = .ok (.enter g args) w) (w : World) (h : RowL w base v xs) (hl : xs.length ≤ 9223372036854775806) (hp : PredL w g lb p xs) :
    Calls Tryz.prog 163 #[v, .func (.func g) #[] lb] w fun e w' => e = .returned (.int .i64 (idxL p xs)) ∧ Below w.heap.size w w' := by
  obtain ⟨A, c, rfl, hlc, hA⟩ := h.slice
  go_enter Tryz.func163, Tryz.ntmps163
  go_wp2_with fail
  go_loopw [5, 8] (fun _ iv wr => ∃ j : Nat, j ≤ xs.length ∧ iv = .int .i64 j ∧ RowL wr base (.slice A xs.length c) xs ∧ Below w.heap.size w wr ∧ (∀ i (hi : i < xs.length), i < j → p xs[i] = false)) (fun _ iv _ => xs.length - (intOf iv).toNat)
  case atStart => exact ⟨0, Nat.zero_le _, rfl, h, Below.refl _ _, fun i _ hi => by omega⟩
  case round =>
    clear h
    obtain ⟨j, hj, rfl, h, hb, hn⟩ := hrel
    by_cases hjl : j < xs.length
    · obtain ⟨k, rfl, _⟩ := hA (by omega)
      obtain ⟨y0, y1⟩ := RowL.at h j xs[j] (List.getElem?_eq_getElem hjl)
      have hcall := hp wr xs[j] (List.getElem_mem hjl) hb
      have hx := idxL_hit (p := p) hjl
      generalize hy : xs[j] = x at y0 y1 hcall hx
      replace hy := Aside0.mk hy
      replace hn := Aside0.mk hn
      replace h := Aside0.mk h
      cases hq : p x with
      | true =>
        rw [hq] at hcall
        go_wp2_with (go_at_fn g; refine hcall.mono ?_; rintro e w' ⟨rfl, hb'⟩)
        go_ret
        have := hx hq hn.out
        exact ⟨by rw [idxL, this, if_pos hjl]; rfl, below_then hb hb.size hb'⟩
      | false =>
        rw [hq] at hcall
        go_wp2_with (go_at_fn g; refine hcall.mono ?_; rintro e w' ⟨rfl, hb'⟩)
        go_roundw
        case rel =>
          refine ⟨j + 1, by omega, by go_num, h.out.grown (grown_of_below hb' none) (by simp), below_then hb hb.size hb', fun i hi hij => ?_⟩
          rcases Nat.lt_or_ge i j with h1 | h1
          · exact hn.out i hi h1
          · obtain rfl : i = j := by omega
            rw [hy.out]; exact hq
        case measure => simp [intOf]; omega
    · obtain rfl : j = xs.length := by omega
      have := idxL_none (p := p) (xs := xs) fun i hi => hn i hi hi
      go_wp2
      go_ret
      exact ⟨by rw [idxL, this, if_neg (by omega)]; rfl, hb⟩
theorem idxL_any (p : Lk → Bool) (xs : List Lk) : decide (0 ≤ idxL p xs) = xs.any p := by
  unfold idxL
  cases h : xs.any p with
  | true =>
    rw [if_pos (List.findIdx_lt_length.2 (by simpa using h))]
    simp
  | false =>
    rw [if_neg (by
      rw [List.findIdx_lt_length]
      rintro ⟨x, hx, h2⟩
      have : xs.any p = true := List.any_eq_true.2 ⟨x, hx, h2⟩
      rw [h] at this; cases this)]
    simp
set_option maxHeartbeats 4000000 in
set_option maxRecDepth 100000 in
theorem ContainsFuncL_calls (base : Nat) (v : Value) (xs : List Lk) (p : Lk → Bool) (g : Nat) (lb : Array Value) (eg : ∀ args w, (callFunc g args).run Tryz.prog w = .ok (.enter g args) w) (w : World) (h : RowL w base v xs) (hl : xs.length ≤ 9223372036854775806) (hp : PredL w g lb p xs) :
    Calls Tryz.prog 133 #[v, .func (.func g) #[] lb] w fun e w' => e = .returned (.bool (xs.any p)) ∧ Below w.heap.size w w' := by
  have C := IndexFuncL_calls base v xs p g lb eg w h hl hp
  rw [← idxL_any]
  clear h hp eg
  generalize idxL p xs = i at C ⊢
  go_enter Tryz.func133, Tryz.ntmps133
  go_wp2_with (go_at_call 163; refine C.mono ?_; rintro e w' ⟨rfl, hb⟩)
  go_ret
  exact ⟨rfl, hb⟩
theorem enters134 : ∀ args w, (callFunc 134 args).run Tryz.prog w = .ok (.enter 134 args) w := enters_of Tryz.func134 (by kernel_rfl) rfl
theorem isEmpty_eq (l : List UInt8) : (l == []) = l.isEmpty := by cases l <;> rfl
set_option maxHeartbeats 4000000 in
set_option maxRecDepth 100000 in
theorem pred134 (tb f u : ByteArray) (b1 b2 b3 : Nat) (xs : List Lk) (w : World) (hb : b1 < w.heap.size ∧ b2 < w.heap.size ∧ b3 < w.heap.size) (h1 : w.cell? ⟨b1, 0, none⟩ = some (.string tb)) (h2 : w.cell? ⟨b2, 0, none⟩ = some (.string f)) (h3 : w.cell? ⟨b3, 0, none⟩ = some (.string u)) :
    PredL w 134 #[ptr b1, ptr b2, ptr b3] (fun l => eqS l.1 tb && inR l.2 f u) xs := by
  intro W x hx B
  obtain ⟨q1, q2, q3⟩ := hb
  have c1 : W.cell? ⟨b1, 0, none⟩ = some (.string tb) := (B.cell (p := ⟨b1, 0, none⟩) q1).trans h1
  have c2 : W.cell? ⟨b2, 0, none⟩ = some (.string f) := (B.cell (p := ⟨b2, 0, none⟩) q2).trans h2
  have c3 : W.cell? ⟨b3, 0, none⟩ = some (.string u) := (B.cell (p := ⟨b3, 0, none⟩) q3).trans h3
  obtain ⟨w1, hw1⟩ : ∃ w1, w1 = W.alloc (.cells #[.string x.1, .string x.2] 23) := ⟨_, rfl⟩
  have B1 : Below W.heap.size W w1 := by rw [hw1]; exact (Below.refl _ W).alloc (Nat.le_refl _) _
  have oy : w1.heap[W.heap.size]? = some (.cells #[.string x.1, .string x.2] 23 (0, 0)) := by rw [hw1]; exact heap_alloc_new W _
  have y0 : w1.cell? ⟨W.heap.size, 0, none⟩ = some (.string x.1) := by simp [World.cell?, oy]
  have y1 : w1.cell? ⟨W.heap.size, 1, none⟩ = some (.string x.2) := by simp [World.cell?, oy]
  have d1 : w1.cell? ⟨b1, 0, none⟩ = some (.string tb) := (B1.cell (p := ⟨b1, 0, none⟩) (by have := B.size; show b1 < _; omega)).trans c1
  have d2 : w1.cell? ⟨b2, 0, none⟩ = some (.string f) := (B1.cell (p := ⟨b2, 0, none⟩) (by have := B.size; show b2 < _; omega)).trans c2
  have d3 : w1.cell? ⟨b3, 0, none⟩ = some (.string u) := (B1.cell (p := ⟨b3, 0, none⟩) (by have := B.size; show b3 < _; omega)).trans c3
  have hleq := leq_less f.toList x.2.toList
  show Calls Tryz.prog 134 #[.agg #[.string x.1, .string x.2], ptr b1, ptr b2, ptr b3] W fun e w' => e = .returned (.bool (eqS x.1 tb && inR x.2 f u)) ∧ Below W.heap.size W w'
  clear oy c1 c2 c3 h1 h2 h3 q1 q2 q3
  go_enter Tryz.func134, Tryz.ntmps134
  go_upto_region 1 with (fail)
  rw [← hw1]
  clear hw1
  go_wp2
  all_goals
    go_ret
    refine ⟨?_, B1⟩
    clear B1 B
    simp_all [eqS, inR, leq_less, leq_iff]
end Go.Proofs.YthaoedfalkebbaaGreat
namespace Go.Proofs.YthaoedfalkebbaaGreat
open Go.RowKit Go.Maps Go.Sort Go.Lib Go.Shelf Go.Proofs.YthaoedfalkebbaaGreatW.PrintWords Go.Proofs.YthaoedfalkebbaaGreatW.PrintLast Go.Proofs.YthaoedfalkebbaaGreatW.PrintMore
set_option linter.unusedVariables false
set_option linter.unusedSimpArgs false
set_option linter.unusedSectionVars false
/-! ### Index, Contains over a row of places -/
theorem RowL.later {w w1 : World} {base : Nat} {v : Value} {xs : List Lk} (h : RowL w base v xs) (B : Below w.heap.size w w1) : RowL w1 base v xs := h.grown (grown_of_below B none) (by simp)
def eqB (a : Lk) (y : Lk) : Bool := decide (a = y)
set_option maxHeartbeats 4000000 in
set_option maxRecDepth 100000 in
theorem IndexL_calls (base : Nat) (v : Value) (xs : List Lk) (a : Lk) (w : World) (h : RowL w base v xs) (hl : xs.length ≤ 65536) :
    Calls Tryz.prog 86 #[v, .agg #[.string a.1, .string a.2]] w fun e w' => e = .returned (.int .i64 (idxL (eqB a) xs)) ∧ Below w.heap.size w w' := by
  obtain ⟨w1, hw1⟩ : ∃ w1, w1 = w.alloc (.cells #[.string a.1, .string a.2] 23) := ⟨_, rfl⟩
  have hB : Below w.heap.size w w1 := by rw [hw1]; exact (Below.refl _ w).alloc (Nat.le_refl _) _
  have hc1 : w1.cell? ⟨w.heap.size, 0, none⟩ = some (.string a.1) := by rw [hw1]; simp [go_sem]
  have hc2 : w1.cell? ⟨w.heap.size, 1, none⟩ = some (.string a.2) := by rw [hw1]; simp [go_sem]
  have h1 := h.later hB
  obtain ⟨A, c, rfl, hlc, hA⟩ := h.slice
  clear h
  go_enter Tryz.func86, Tryz.ntmps86
  go_upto_region 1 with (fail)
  rw [← hw1]
  clear hw1
  go_wp2_with fail
  go_loopw [5, 8] (fun _ iv wr => ∃ j : Nat, j ≤ xs.length ∧ iv = .int .i64 j ∧ RowL wr base (.slice A xs.length c) xs ∧ wr.cell? ⟨w.heap.size, 0, none⟩ = some (.string a.1) ∧ wr.cell? ⟨w.heap.size, 1, none⟩ = some (.string a.2) ∧ Below w.heap.size w wr ∧ (∀ i (hi : i < xs.length), i < j → eqB a xs[i] = false)) (fun _ iv _ => xs.length - (intOf iv).toNat)
  case atStart => exact ⟨0, Nat.zero_le _, rfl, h1, hc1, hc2, hB, fun i _ hi => by omega⟩
  case round =>
    clear h1 hc1 hc2 hB
    obtain ⟨j, hj, rfl, h, hc1, hc2, hb, hn⟩ := hrel
    by_cases hjl : j < xs.length
    · obtain ⟨g, rfl, _⟩ := hA (by omega)
      obtain ⟨y0, y1⟩ := RowL.at h j xs[j] (List.getElem?_eq_getElem hjl)
      have hx := idxL_hit (p := eqB a) hjl
      generalize hy : xs[j] = y at y0 y1 hx
      have heq : ∀ W, _ := fun W => Lck.eqLk a y W
      have e1 : eqB a y = decide (a = y) := rfl
      rw [← e1] at heq
      have h2 := h.grown (w1 := wr.drew) (row := none) ⟨rfl, rfl, rfl, Nat.le_refl _, fun _ _ _ => rfl⟩ (by simp)
      replace hy := Aside0.mk hy
      replace hn := Aside0.mk hn
      replace h := Aside0.mk h
      replace h2 := Aside0.mk h2
      replace e1 := Aside0.mk e1
      cases hq : eqB a y with
      | true =>
        rw [hq] at heq
        have hi := hx hq hn.out
        replace hi := Aside0.mk hi
        clear hx hq
        go_wp2_with fail
        go_region_held3 (fun W => W.cell? ⟨w.heap.size, 0, none⟩ = some (.string a.1) ∧ W.cell? ⟨w.heap.size, 1, none⟩ = some (.string a.2) ∧ W.cell? ⟨g, j * 2, none⟩ = some (.string y.1) ∧ W.cell? ⟨g, j * 2 + 1, none⟩ = some (.string y.2)) (exact ⟨hc1, hc2, y0, y1⟩) (fail)
        go_wp2
        go_ret
        exact ⟨by rw [idxL, hi.out, if_pos hjl]; rfl, hb.os, hb.tape, hb.output, hb.size, hb.block⟩
      | false =>
        rw [hq] at heq
        replace hq := Aside0.mk hq
        clear hx
        go_wp2_with fail
        go_region_held3 (fun W => W.cell? ⟨w.heap.size, 0, none⟩ = some (.string a.1) ∧ W.cell? ⟨w.heap.size, 1, none⟩ = some (.string a.2) ∧ W.cell? ⟨g, j * 2, none⟩ = some (.string y.1) ∧ W.cell? ⟨g, j * 2 + 1, none⟩ = some (.string y.2)) (exact ⟨hc1, hc2, y0, y1⟩) (fail)
        go_wp2
        go_roundw
        case rel =>
          refine ⟨j + 1, by omega, by go_num, h2.out, hc1, hc2, ⟨hb.os, hb.tape, hb.output, hb.size, hb.block⟩, fun i hi hij => ?_⟩
          rcases Nat.lt_or_ge i j with h1 | h1
          · exact hn.out i hi h1
          · obtain rfl : i = j := by omega
            rw [hy.out]; exact hq.out
        case measure => simp [intOf]; omega
    · obtain rfl : j = xs.length := by omega
      have := idxL_none (p := eqB a) (xs := xs) fun i hi => hn i hi hi
      go_wp2
      go_ret
      exact ⟨by rw [idxL, this, if_neg (by omega)]; rfl, hb⟩
theorem any_eqB (a : Lk) (xs : List Lk) : xs.any (eqB a) = decide (a ∈ xs) := by
  rw [Bool.eq_iff_iff, List.any_eq_true, decide_eq_true_iff]
  constructor
  · rintro ⟨x, hx, h⟩
    have : a = x := of_decide_eq_true h
    rw [this]; exact hx
  · exact fun h => ⟨a, h, decide_eq_true rfl⟩
set_option maxHeartbeats 4000000 in
set_option maxRecDepth 100000 in
theorem ContainsL_calls (base : Nat) (v : Value) (xs : List Lk) (a : Lk) (w : World) (h : RowL w base v xs) (hl : xs.length ≤ 65536) :
    Calls Tryz.prog 46 #[v, .agg #[.string a.1, .string a.2]] w fun e w' => e = .returned (.bool (decide (a ∈ xs))) ∧ Below w.heap.size w w' := by
  obtain ⟨w1, hw1⟩ : ∃ w1, w1 = w.alloc (.cells #[.string a.1, .string a.2] 23) := ⟨_, rfl⟩
  have hB : Below w.heap.size w w1 := by rw [hw1]; exact (Below.refl _ w).alloc (Nat.le_refl _) _
  have hc1 : w1.cell? ⟨w.heap.size, 0, none⟩ = some (.string a.1) := by rw [hw1]; simp [go_sem]
  have hc2 : w1.cell? ⟨w.heap.size, 1, none⟩ = some (.string a.2) := by rw [hw1]; simp [go_sem]
  have C := IndexL_calls base v xs a w1 (h.later hB) hl
  rw [← any_eqB, ← idxL_any]
  clear h
  generalize idxL (eqB a) xs = i at C ⊢
  go_enter Tryz.func46, Tryz.ntmps46
  go_upto_region 1 with (fail)
  rw [← hw1]
  clear hw1
  go_wp2_with (go_at_call 86; refine C.mono ?_; rintro e w' ⟨rfl, hb⟩)
  go_ret
  exact ⟨rfl, below_then hB hB.size hb⟩
end Go.Proofs.YthaoedfalkebbaaGreat
namespace Go.Proofs.YthaoedfalkebbaaGreat
open Go.RowKit Go.Maps Go.Sort Go.Lib Go.Shelf Go.Proofs.YthaoedfalkebbaaGreatW.PrintWords Go.Proofs.YthaoedfalkebbaaGreatW.PrintLast Go.Proofs.YthaoedfalkebbaaGreatW.PrintMore
set_option linter.unusedVariables false
set_option linter.unusedSimpArgs false
set_option linter.unusedSectionVars false
/-! ### put: the plain law -/
theorem any_perm {α : Type} {p : α → Bool} {l m : List α} (h : l.Perm m) : l.any p = m.any p := by
  rw [Bool.eq_iff_iff, List.any_eq_true, List.any_eq_true]
  exact ⟨fun ⟨x, hx, hp⟩ => ⟨x, h.mem_iff.1 hx, hp⟩, fun ⟨x, hx, hp⟩ => ⟨x, h.mem_iff.2 hx, hp⟩⟩
theorem someT_any {p : Tx → Bool} {vis : List Tx} : someT (vis.filter p) = vis.any p := by
  unfold someT
  rw [Bool.eq_iff_iff, decide_eq_true_iff, List.any_eq_true, List.length_pos_iff_exists_mem]
  constructor
  · rintro ⟨x, hx⟩
    obtain ⟨h1, h2⟩ := List.mem_filter.1 hx
    exact ⟨x, h1, h2⟩
  · rintro ⟨x, hx, h⟩
    exact ⟨x, List.mem_filter.2 ⟨hx, h⟩⟩
theorem conc_ne {t o : Tx} (h : concB t o = true) : o.num ≠ t.num := by
  unfold concB at h
  intro e
  simp [e] at h
/-- the others that are told of -/
def osOf (t : Tx) (so : Tx → Bool) (vis : List Tx) : List Tx := vis.filter (fun o => concB t o && so o)
theorem osOf_q (Q : Int → Nat) (t : Tx) (so : Tx → Bool) (vis : List Tx) : selQ Q t so vis = (osOf t so vis).map (fun o => Q o.num) := rfl
theorem osOf_in {t : Tx} {so : Tx → Bool} {vis txs : List Tx} (hp : vis.Perm txs) : ∀ o ∈ osOf t so vis, o ∈ txs ∧ o.num ≠ t.num := fun o ho => by
  obtain ⟨h1, h2⟩ := List.mem_filter.1 ho
  rw [Bool.and_eq_true] at h2
  exact ⟨hp.mem_iff.1 h1, conc_ne h2.1⟩
theorem osOf_nodup {t : Tx} {so : Tx → Bool} {vis txs : List Tx} (hp : vis.Perm txs) (hd : txs.Pairwise (fun a b => a.num < b.num)) : ((osOf t so vis).map (fun o => o.num)).Nodup := by
  have h1 : (txs.map (fun o => o.num)).Nodup := by
    rw [List.Nodup, List.pairwise_map]
    exact hd.imp (fun h => by omega)
  have h2 : (vis.map (fun o => o.num)).Nodup := (hp.map _).nodup_iff.2 h1
  exact h2.sublist (List.filter_sublist.map _)
theorem putB_bad (t : Tx) (so : Tx → Bool) (out : Bool) {vis txs : List Tx} (hp : vis.Perm txs) :
    badB t (osOf t so vis) out = (bothB t.fin t.fout (!out && txs.any (fun o => concB t o && so o)) (out && txs.any (fun o => concB t o && so o)) || txs.any (fun o => (concB t o && so o) && (!o.act && bothB o.fin o.fout out (!out)))) := by
  unfold badB bad0 osOf
  rw [someT_any, List.any_filter, any_perm hp, any_perm hp]
  rfl
theorem putB_map (t : Tx) (so : Tx → Bool) (out : Bool) {vis txs : List Tx} (hp : vis.Perm txs) (hd : txs.Pairwise (fun a b => a.num < b.num)) :
    txs.map (psi t (someT (osOf t so vis)) out (osOf t so vis)) = txs.map (fun o => if o.num == t.num then (if txs.any (fun o => concB t o && so o) then setF o (!out) else o) else if concB t o && so o then setF o out else o) := by
  refine List.map_congr_left fun x hx => ?_
  unfold psi osOf
  rw [someT_any, any_perm hp]
  by_cases e : x.num = t.num
  · simp [e]
  · have e2 : (x.num == t.num) = false := by simpa using e
    rw [if_neg e, e2]
    simp only [Bool.false_eq_true, if_false]
    have : x.num ∈ (vis.filter (fun o => concB t o && so o)).map (fun o => o.num) ↔ (concB t x && so x) = true := by
      constructor
      · intro h
        obtain ⟨y, hy, hn⟩ := List.mem_map.1 h
        obtain ⟨h1, h2⟩ := List.mem_filter.1 hy
        have : y = x := dist_inj hd (hp.mem_iff.1 h1) hx hn
        rw [← this]; exact h2
      · exact fun h => List.mem_map.2 ⟨x, List.mem_filter.2 ⟨hp.mem_iff.2 hx, h⟩, rfl⟩
    by_cases h : (concB t x && so x) = true
    · rw [if_pos (this.2 h), if_pos h]
    · rw [if_neg (fun h2 => h (this.1 h2)), if_neg h]
/-- what put does -/
theorem put_join {base : Nat} {l : Loc} {S : Sm St} {t : Tx} {so : Tx → Bool} {vis : List Tx} {out : Bool} {w w' : World} {e : Ending} (hp : vis.Perm S.txs) (hd : S.txs.Pairwise (fun a b => a.num < b.num))
    (h : PutPost base l S t (osOf t so vis) out w (fun W => Pm W base l (S.gone (iS S.caps.reads) t.num) ∧ Fr (l.own S.txs) w W) e w') :
    e = .returned (.int .i64 (S.put (iS S.caps.reads) t so out).1) ∧ Pm w' base l (S.put (iS S.caps.reads) t so out).2 ∧ Fr (l.own S.txs) w w' := by
  unfold Sm.put
  rw [← putB_bad t so out hp, ← putB_map t so out hp hd]
  rcases h with ⟨h1, h2, h3, h4⟩ | ⟨h1, h2, h3, h4⟩
  · rw [if_pos h1]
    exact ⟨h2, h3, h4⟩
  · rw [if_neg (by rw [h1]; decide)]
    exact ⟨h2, h3, h4⟩
theorem own4_own {l : Loc} {txs : List Tx} (k : Nat) (h : own4 l k) : l.own txs k := by
  rcases h with h | h | h | h
  · exact .inr (.inl h)
  · exact .inr (.inr (.inr (.inl h)))
  · exact .inr (.inr (.inr (.inr (.inl h))))
  · exact .inr (.inr (.inl h))
/-! ### wrote -/
theorem held_any (L : List (Lk × Int)) (n : Int) (p : Lk → Bool) : (Lck.heldOf L n).any p = (heldOf L n).any p := by
  unfold Lck.heldOf heldOf Lck.srt
  rw [any_perm (List.mergeSort_perm ..)]
  congr 2
theorem held_len (L : List (Lk × Int)) (n : Int) : (Lck.heldOf L n).length ≤ L.length := by
  unfold Lck.heldOf
  rw [Lck.srt_length, List.length_map]
  exact List.length_filter_le _ _
theorem any_mem {α : Type} {p : α → Bool} {l m : List α} (h : ∀ a, a ∈ l ↔ a ∈ m) : l.any p = m.any p := by
  rw [Bool.eq_iff_iff, List.any_eq_true, List.any_eq_true]
  exact ⟨fun ⟨x, hx, hp⟩ => ⟨x, (h x).1 hx, hp⟩, fun ⟨x, hx, hp⟩ => ⟨x, (h x).2 hx, hp⟩⟩
set_option maxHeartbeats 16000000 in
set_option maxRecDepth 100000 in
theorem wrote_s (base : Nat) (l : Loc) (S : Sm St) (o : Tx) (tb f u : ByteArray) (w : World) (h : Pm w base l S) (ho : o ∈ S.txs) (hlk : S.locks.length ≤ 4096) :
    Calls Tryz.prog 84 #[ptr l.p, ptr (l.Q o.num), .string tb, .string f, .string u] w fun e w' => e = .returned (.bool (wroteB S.locks o tb f u)) ∧ Below w.heap.size w w' := by
  obtain ⟨w1, hw1⟩ : ∃ w1, w1 = ((w.alloc (.cells #[.string tb] 9)).alloc (.cells #[.string f] 9)).alloc (.cells #[.string u] 9) := ⟨_, rfl⟩
  have B1 : Below w.heap.size w w1 := by rw [hw1]; exact below_alloc (below_alloc ((Below.refl _ w).alloc (Nat.le_refl _) _) _) _
  have hsz : w1.heap.size = w.heap.size + 3 := by rw [hw1]; simp [go_sem]
  have b1 : w1.cell? ⟨w.heap.size, 0, none⟩ = some (.string tb) := by rw [hw1]; simp [go_sem]
  have b2 : w1.cell? ⟨w.heap.size + 1, 0, none⟩ = some (.string f) := by rw [hw1]; simp [go_sem]
  have b3 : w1.cell? ⟨w.heap.size + 2, 0, none⟩ = some (.string u) := by rw [hw1]; simp [go_sem]
  have CONT : ∀ W v base xs, Below w1.heap.size w1 W → RowL W base v xs → xs.length ≤ 4096 → Calls Tryz.prog 133 #[v, .func (.func 134) #[] #[ptr w.heap.size, ptr (w.heap.size + 1), ptr (w.heap.size + 2)]] W fun e w' => e = .returned (.bool (xs.any (fun l => eqS l.1 tb && inR l.2 f u))) ∧ Below W.heap.size W w' := fun W v base xs B hr hx => by
    have hs := B.size
    have q1 : w.heap.size < w1.heap.size := by omega
    have q2 : w.heap.size + 1 < w1.heap.size := by omega
    have q3 : w.heap.size + 2 < w1.heap.size := by omega
    exact ContainsFuncL_calls base v xs _ 134 _ enters134 W hr (by omega) (pred134 tb f u _ _ _ xs W ⟨by omega, by omega, by omega⟩ ((B.cell (p := ⟨w.heap.size, 0, none⟩) q1).trans b1) ((B.cell (p := ⟨w.heap.size + 1, 0, none⟩) q2).trans b2) ((B.cell (p := ⟨w.heap.size + 2, 0, none⟩) q3).trans b3))
  have P1 := h.below B1
  obtain ⟨_, _, _, _, _, _, _, c7, c8, c9⟩ := P1.cells
  obtain ⟨vt, hvt, ws, hws, hwl, hwm, -⟩ := P1.tx o ho
  obtain ⟨t0, t1, t2, t3, t4, t5, t6, t7⟩ := tx_cells hvt
  have HL : ∀ n, Calls Tryz.prog 51 #[ptr l.lp, .int .i64 o.num] (w1.drewN n) fun e w' => ∃ v, e = .returned v ∧ RowL w' (w1.drewN n).heap.size v (Lck.heldOf S.locks o.num) ∧ Below w1.heap.size w1 w' := fun n => by
    have P2 := P1.below (drewB2 w1 n)
    refine (Lck.Held_calls l.lp l.lb S.caps.locks S.locks o.num (w1.drewN n) P2.locks hlk).mono ?_
    rintro e w' ⟨v, rfl, hv, B⟩
    exact ⟨v, rfl, Lo.ofR hv, below_then (drewB2 w1 n) (by simp) B⟩
  have hln := held_len S.locks o.num
  have CEL : ∀ W, Below w1.heap.size w1 W → W.cell? ⟨l.p, 8, none⟩ = some (ptr l.lp) ∧ W.cell? ⟨l.Q o.num, 0, none⟩ = some (.int .i64 o.num) := fun W B => ⟨(B.cell (p := ⟨l.p, 8, none⟩) (World.block_lt_of_cell? _ _ c8)).trans c8, (B.cell (p := ⟨l.Q o.num, 0, none⟩) (World.block_lt_of_cell? _ _ t0)).trans t0⟩
  unfold wroteB
  cases hact : o.act with
  | true =>
    rw [if_pos rfl, ← held_any]
    rw [hact] at t2
    have CONT := fun W v base B hr => CONT W v base (Lck.heldOf S.locks o.num) B hr (Nat.le_trans hln hlk)
    clear P1 h hvt hws hwl hwm hln hlk b1 b2 b3 t1 t3 t4 t5 t6 hsz ho
    generalize Lck.heldOf S.locks o.num = hs at HL CONT ⊢
    generalize l.Q o.num = qo at *
    replace hact := Aside0.mk hact
    replace CONT := Aside0.mk CONT
    replace CEL := Aside0.mk CEL
    go_enter Tryz.func84, Tryz.ntmps84
    go_upto_region 1 with (fail)
    rw [← hw1]
    clear hw1
    go_wp2_with fail
    go_region_held3 (fun V => V.cell? ⟨l.p, 8, none⟩ = some (ptr l.lp) ∧ V.cell? ⟨qo, 0, none⟩ = some (.int .i64 o.num)) (first | exact ⟨c8, t0⟩ | exact K2)
      ((go_at_call 51; refine (HL _).mono ?_; rintro e w2 ⟨v2, rfl, hv, B2⟩; have CC := CONT.out w2 v2 _ B2 hv; have K2 := CEL.out w2 B2))
    clear HL CONT CEL c7 c8 c9 t0 t2
    go_wp2_with fail
    refine CC.mono ?_
    rintro e w3 ⟨rfl, B3⟩
    go_wp2
    go_ret
    exact ⟨rfl, below_then (below_then B1 B1.size B2) (below_then B1 B1.size B2).size B3⟩
  | false =>
    rw [if_neg (by decide), ← any_mem hwm]
    rw [hact] at t2
    have CC := CONT w1 vt base ws (Below.refl _ _) hws hwl
    clear CEL CONT HL P1 h hvt hws hwl hwm hln hlk b1 b2 b3 t1 t3 t4 t5 t6 hsz ho
    generalize l.Q o.num = qo at *
    generalize ws.any (fun l => eqS l.1 tb && inR l.2 f u) = bb at CC ⊢
    replace hact := Aside0.mk hact
    go_enter Tryz.func84, Tryz.ntmps84
    go_upto_region 1 with (fail)
    rw [← hw1]
    clear hw1
    go_wp2_with fail
    refine CC.mono ?_
    rintro e w3 ⟨rfl, B3⟩
    go_wp2
    go_ret
    exact ⟨rfl, below_then B1 B1.size B3⟩
end Go.Proofs.YthaoedfalkebbaaGreat
namespace Go.Proofs.YthaoedfalkebbaaGreat
open Go.RowKit Go.Maps Go.Sort Go.Lib Go.Shelf Go.Proofs.YthaoedfalkebbaaGreatW.PrintWords Go.Proofs.YthaoedfalkebbaaGreatW.PrintLast Go.Proofs.YthaoedfalkebbaaGreatW.PrintMore
set_option linter.unusedVariables false
set_option linter.unusedSimpArgs false
set_option linter.unusedSectionVars false
/-! ### the closures that tell of others -/
theorem entersT83 : ∀ args w, (callFunc 83 args).run Tryz.prog w = .ok (.enter 83 args) w := enters_of Tryz.func83 (by kernel_rfl) rfl
theorem entersT45 : ∀ args w, (callFunc 45 args).run Tryz.prog w = .ok (.enter 45 args) w := enters_of Tryz.func45 (by kernel_rfl) rfl
theorem entersT49 : ∀ args w, (callFunc 49 args).run Tryz.prog w = .ok (.enter 49 args) w := enters_of Tryz.func49 (by kernel_rfl) rfl
theorem below_cell {w W : World} (B : Below w.heap.size w W) {b i : Nat} {v : Value} (h : w.cell? ⟨b, i, none⟩ = some v) : W.cell? ⟨b, i, none⟩ = some v := (B.cell (p := ⟨b, i, none⟩) (World.block_lt_of_cell? _ _ h)).trans h
set_option maxHeartbeats 4000000 in
set_option maxRecDepth 100000 in
/-- it wrote what the read touches -/
theorem pred83 (base : Nat) (l : Loc) (S : Sm St) (tb f u : ByteArray) (b0 b1 b2 b3 : Nat) (w : World) (h : Pm w base l S) (hlk : S.locks.length ≤ 4096)
    (h0 : w.cell? ⟨b0, 0, none⟩ = some (ptr l.p)) (h1 : w.cell? ⟨b1, 0, none⟩ = some (.string tb)) (h2 : w.cell? ⟨b2, 0, none⟩ = some (.string f)) (h3 : w.cell? ⟨b3, 0, none⟩ = some (.string u)) :
    PredT w 83 #[ptr b0, ptr b1, ptr b2, ptr b3] l.Q (fun o => wroteB S.locks o tb f u) S.txs := by
  intro W o ho B
  have P := h.below B
  have c0 := below_cell B h0
  have c1 := below_cell B h1
  have c2 := below_cell B h2
  have c3 := below_cell B h3
  have C := wrote_s base l S o tb f u W P ho hlk
  show Calls Tryz.prog 83 #[ptr (l.Q o.num), ptr b0, ptr b1, ptr b2, ptr b3] W fun e w' => e = .returned (.bool (wroteB S.locks o tb f u)) ∧ Below W.heap.size W w'
  generalize wroteB S.locks o tb f u = r at C ⊢
  clear P h h0 h1 h2 h3 hlk B
  go_enter Tryz.func83, Tryz.ntmps83
  go_wp2_with fail
  refine C.mono ?_
  rintro e w3 ⟨rfl, D3⟩
  go_wp2
  go_ret
  exact ⟨rfl, D3⟩
set_option maxHeartbeats 4000000 in
set_option maxRecDepth 100000 in
/-- it has been read by one of them -/
theorem pred49 (base base2 : Nat) (l : Loc) (S : Sm St) (ns : List Int) (v : Value) (b0 : Nat) (w : World) (h : Pm w base l S) (hv : RowI w base2 v ns) (hl : ns.length ≤ 65536) (h0 : w.cell? ⟨b0, 0, none⟩ = some v) :
    PredT w 49 #[ptr b0] l.Q (fun o => ns.any (· == o.num)) S.txs := by
  intro W o ho B
  have P := h.below B
  have c0 := below_cell B h0
  obtain ⟨vt, hvt, _⟩ := P.tx o ho
  obtain ⟨t0, _⟩ := tx_cells hvt
  have C : ∀ n, Calls Tryz.prog 50 #[v, .int .i64 o.num] (W.drewN n) fun e w' => e = .returned (.bool (ns.any (· == o.num))) ∧ Below W.heap.size W w' := fun n => by
    have hv2 : RowI (W.drewN n) base2 v ns := (hv.grown (grown_of_below B none) (by simp)).grown (drewNG W n) (by simp)
    refine (Contains_calls base2 v ns o.num _ hv2 hl).mono ?_
    rintro e w' ⟨rfl, rfl⟩
    exact ⟨rfl, drewB2 W n⟩
  have K : ∀ W2, Below W.heap.size W W2 → W2.cell? ⟨b0, 0, none⟩ = some v ∧ W2.cell? ⟨l.Q o.num, 0, none⟩ = some (.int .i64 o.num) := fun W2 B2 => ⟨below_cell B2 c0, below_cell B2 t0⟩
  show Calls Tryz.prog 49 #[ptr (l.Q o.num), ptr b0] W fun e w' => e = .returned (.bool (ns.any (· == o.num))) ∧ Below W.heap.size W w'
  generalize l.Q o.num = q at *
  generalize ns.any (· == o.num) = r at C ⊢
  clear P h h0 hl hv hvt B
  replace K := Aside0.mk K
  go_enter Tryz.func49, Tryz.ntmps49
  go_wp2_with fail
  go_region_held3 (fun V => V.cell? ⟨b0, 0, none⟩ = some v ∧ V.cell? ⟨q, 0, none⟩ = some (.int .i64 o.num)) (first | exact ⟨c0, t0⟩ | exact K2)
    ((go_at_call 50; refine (C _).mono ?_; rintro e w3 ⟨rfl, D3⟩; have K2 := K.out w3 D3))
  all_goals go_wp2
  all_goals go_ret
  all_goals exact ⟨rfl, D3⟩
set_option maxHeartbeats 4000000 in
set_option maxRecDepth 100000 in
/-- it is over and wrote the place -/
theorem pred45 (base : Nat) (l : Loc) (S : Sm St) (a : Lk) (b0 : Nat) (w : World) (h : Pm w base l S) (h0 : w.cell? ⟨b0, 0, none⟩ = some (.string a.1)) (h1 : w.cell? ⟨b0, 1, none⟩ = some (.string a.2)) :
    PredT w 45 #[ptr b0] l.Q (fun o => !o.act && decide (a ∈ o.wrote)) S.txs := by
  intro W o ho B
  have P := h.below B
  have c0 := below_cell B h0
  have c1 := below_cell B h1
  obtain ⟨vt, hvt, ws, hws, hwl, hwm, -⟩ := P.tx o ho
  obtain ⟨_, _, t2, _, _, _, _, t7⟩ := tx_cells hvt
  have e : decide (a ∈ o.wrote) = decide (a ∈ ws) := decide_eq_decide.2 (hwm a).symm
  show Calls Tryz.prog 45 #[ptr (l.Q o.num), ptr b0] W fun e w' => e = .returned (.bool (!o.act && decide (a ∈ o.wrote))) ∧ Below W.heap.size W w'
  rw [e]
  have C : ∀ n, Calls Tryz.prog 46 #[vt, .agg #[.string a.1, .string a.2]] (W.drewN n) fun e w' => e = .returned (.bool (decide (a ∈ ws))) ∧ Below W.heap.size W w' := fun n => by
    have hv2 : RowL (W.drewN n) base vt ws := hws.grown (drewNG W n) (by simp)
    refine (ContainsL_calls base vt ws a _ hv2 (by omega)).mono ?_
    rintro e w' ⟨rfl, B2⟩
    exact ⟨rfl, below_then (drewB2 W n) (by simp) B2⟩
  have K : ∀ W2, Below W.heap.size W W2 → W2.cell? ⟨b0, 0, none⟩ = some (.string a.1) ∧ W2.cell? ⟨b0, 1, none⟩ = some (.string a.2) ∧ W2.cell? ⟨l.Q o.num, 2, none⟩ = some (.bool o.act) ∧ W2.cell? ⟨l.Q o.num, 7, none⟩ = some vt := fun W2 B2 => ⟨below_cell B2 c0, below_cell B2 c1, below_cell B2 t2, below_cell B2 t7⟩
  show Calls Tryz.prog 45 #[ptr (l.Q o.num), ptr b0] W fun e w' => e = .returned (.bool (!o.act && decide (a ∈ ws))) ∧ Below W.heap.size W w'
  generalize l.Q o.num = q at *
  generalize decide (a ∈ ws) = r at C ⊢
  generalize o.act = oa at *
  clear P h h0 h1 hwl hwm hws hvt B e
  replace K := Aside0.mk K
  cases oa with
  | true =>
    clear C
    go_enter Tryz.func45, Tryz.ntmps45
    go_wp2_with fail
    go_region
    all_goals go_wp2
    all_goals go_ret
    all_goals exact ⟨rfl, by first | exact Below.refl _ _ | exact drewB2 _ _⟩
  | false =>
    go_enter Tryz.func45, Tryz.ntmps45
    go_wp2_with fail
    go_region_held3 (fun V => V.cell? ⟨b0, 0, none⟩ = some (.string a.1) ∧ V.cell? ⟨b0, 1, none⟩ = some (.string a.2) ∧ V.cell? ⟨q, 2, none⟩ = some (.bool false) ∧ V.cell? ⟨q, 7, none⟩ = some vt) (first | exact ⟨c0, c1, t2, t7⟩ | exact K2)
      ((go_at_call 46; refine (C _).mono ?_; rintro e w3 ⟨rfl, D3⟩; have K2 := K.out w3 D3))
    all_goals go_wp2
    all_goals go_ret
    all_goals exact ⟨rfl, D3⟩
/-! ### a note is taken: the map of the notes may move -/
theorem Pm.noted {w w' : World} {base : Nat} {l : Loc} {S : Sm St} {rb' : Nat} {r : St} (h : Pm w base l S) (hg : w.grownBy w' (some l.rp)) (hr : MrS w' base l.rp rb' S.caps.reads r) (hb : rb' = l.rb ∨ w.heap.size ≤ rb') : Pm w' base { l with rb := rb' } { S with reads := r } := by
  obtain ⟨hk, k1, k2, k3, k4, k5, k6, k7, k8, k9, k10, k11, k12⟩ := h.kinds
  have f := Fr.grown hg
  have no : ∀ k, k ≠ l.rp → ¬ (some l.rp = some k) := fun k hk e => by injection e with e; exact hk e.symm
  obtain ⟨es1, c1, hmap⟩ := h.tab.isMap
  obtain ⟨cr, sr, hrr⟩ := h.reads.is55
  obtain ⟨D, ⟨es, clock, hlm, _⟩, _⟩ := h.locks.tab
  have l1 : l.mb < w.heap.size := (Array.getElem?_eq_some_iff.1 hmap).1
  have l2 : l.lb < w.heap.size := (Array.getElem?_eq_some_iff.1 hlm).1
  have hbb : base ≤ rb' := by
    obtain ⟨⟨L, M, _, hbb⟩, _⟩ := hr
    exact hbb
  constructor
  · exact f.block _ _ (no l.p k4) h.head
  · exact h.tab.fr f (no _ (fun e => k10 e.symm))
  · intro t ht
    obtain ⟨v, h1, ws, h2, h3⟩ := h.tx t ht
    obtain ⟨q1, q2, q3, q4, q5, q6⟩ := hk t ht
    refine ⟨v, f.block _ _ (no _ q5) h1, ws, h2.move fun g hg => ?_, h3⟩
    obtain ⟨_, _, cells, hc⟩ := h2.typed g hg
    refine (f.block g _ (no g (fun e => ?_)) hc).trans hc.symm
    rw [e, hrr] at hc
    simp at hc
  · exact h.qinj
  · exact h.locks.fr f (no _ (by omega)) (no _ (fun e => k11 e.symm))
  · obtain ⟨c, s, hc⟩ := h.lkind
    exact ⟨c, s, f.block _ _ (no _ (by omega)) hc⟩
  · exact hr
  · exact h.dist
  · exact h.nums
  · exact h.few
  · exact h.ne1
  · rcases hb with e | e
    · show l.mb ≠ rb'
      rw [e]; exact h.ne2
    · show l.mb ≠ rb'
      omega
  · rcases hb with e | e
    · show l.lb ≠ rb'
      rw [e]; exact h.ne3
    · show l.lb ≠ rb'
      omega
  · exact ⟨h.low.1, h.low.2.1, h.low.2.2.1, h.low.2.2.2.1, hbb, h.low.2.2.2.2.2⟩
end Go.Proofs.YthaoedfalkebbaaGreat
namespace Go.Proofs.YthaoedfalkebbaaGreat
open Go.RowKit Go.Maps Go.Sort Go.Lib Go.Shelf Go.Proofs.YthaoedfalkebbaaGreatW.PrintWords Go.Proofs.YthaoedfalkebbaaGreatW.PrintLast Go.Proofs.YthaoedfalkebbaaGreatW.PrintMore
set_option linter.unusedVariables false
set_option linter.unusedSimpArgs false
set_option linter.unusedSectionVars false
/-! ### read -/
theorem put_all (base nb : Nat) (l : Loc) (S : Sm St) (t : Tx) (so : Tx → Bool) (out : Bool) (u : Value) (w : World) (vis : List Tx) (h : Pm w base l S) (ht : t ∈ S.txs) (hp : vis.Perm S.txs) (hu : RowQ w nb u (selQ l.Q t so vis)) (hlk : S.locks.length ≤ 4096) :
    Calls Tryz.prog 48 #[ptr l.p, ptr (l.Q t.num), u, .bool out] w fun e w' => e = .returned (.int .i64 (S.put (iS S.caps.reads) t so out).1) ∧ Pm w' base l (S.put (iS S.caps.reads) t so out).2 ∧ Fr (l.own S.txs) w w' := by
  rw [osOf_q] at hu
  have hle : (osOf t so vis).length ≤ 65536 := Nat.le_trans (Nat.le_trans (List.length_filter_le _ _) (Nat.le_of_eq hp.length_eq)) h.few
  refine (put_s base nb l S t (osOf t so vis) out u w (fun W => Pm W base l (S.gone (iS S.caps.reads) t.num) ∧ Fr (l.own S.txs) w W) h ht (osOf_in hp) (osOf_nodup hp h.dist) hu hle (fun W B => ?_)).mono (fun e w' H => put_join hp h.dist H)
  refine (gone_s base l S t W (h.below B) ht hlk).mono ?_
  rintro e w' ⟨rfl, h1, h2⟩
  exact ⟨rfl, h1, (Fr.ofBelow (O := l.own S.txs) B).trans h2 (fun k hk _ => own4_own k hk)⟩
theorem others_all (base : Nat) (l : Loc) (S : Sm St) (t : Tx) (so : Tx → Bool) (g : Nat) (lb : Array Value) (eg : ∀ args w, (callFunc g args).run Tryz.prog w = .ok (.enter g args) w) (w : World) (h : Pm w base l S) (ht : t ∈ S.txs) (hp : PredT w g lb l.Q so S.txs) :
    Calls Tryz.prog 44 #[ptr l.p, ptr (l.Q t.num), .func (.func g) #[] lb] w fun e w' => ∃ v vis, e = .returned v ∧ vis.Perm S.txs ∧ RowQ w' w.heap.size v (selQ l.Q t so vis) ∧ Below w.heap.size w w' := by
  refine (others_s base l S t so g lb eg w h ht hp).mono ?_
  rintro e w' ⟨v, vis, h1, h2, h3, h4⟩
  exact ⟨v, vis, h1, h2, Lo.ofR h3, h4⟩
def NoteQ (base : Nat) (l : Loc) (S : Sm St) (t : Tx) (x : Rd) (w : World) (e : Ending) (w2 : World) : Prop :=
  e = .returned (.int .i64 (noteP S.reads S.caps.reads t.num x).1) ∧ ∃ rb', Pm w2 base { l with rb := rb' } { S with reads := (noteP S.reads S.caps.reads t.num x).2 } ∧ (rb' = l.rb ∨ w.heap.size ≤ rb') ∧ Fr (fun k => k = l.rp) w w2
theorem note_all (base : Nat) (l : Loc) (S : Sm St) (t : Tx) (x : Rd) (w : World) (n : Nat) (h : Pm w base l S) (ht : t ∈ S.txs) (hx : x.OK) :
    Calls Tryz.prog 70 #[ptr l.rp, .int .i64 t.num, .agg #[.string x.t, .int .i64 x.k, .string x.f, .string x.u]] (w.drewN n) (NoteQ base l S t x w) := by
  have P := h.below (drewB2 w n)
  refine (Note_S base l.rp l.rb S.caps.reads S.reads t.num x (w.drewN n) P.reads hx (h.nums t ht).2.2).mono ?_
  rintro e w2 ⟨rfl, ⟨rb', h1, h2⟩, h3⟩
  refine ⟨rfl, rb', P.noted h3 h1 h2, by simpa using h2, (Fr.drewN w n).trans (Fr.grown h3) (fun k hk _ => by injection hk with hk; exact hk.symm)⟩
theorem Pm.lts {w : World} {base : Nat} {l : Loc} {S : Sm St} (h : Pm w base l S) : ∀ k, l.own S.txs k → k < w.heap.size := by
  intro k hk
  rcases hk with rfl | rfl | rfl | rfl | rfl | ⟨o, ho, rfl⟩
  · exact (Array.getElem?_eq_some_iff.1 h.head).1
  · obtain ⟨es1, c1, hmap⟩ := h.tab.isMap
    exact (Array.getElem?_eq_some_iff.1 hmap).1
  · obtain ⟨D, ⟨es, clock, hlm, _⟩, _⟩ := h.locks.tab
    exact (Array.getElem?_eq_some_iff.1 hlm).1
  · exact h.reads.lt
  · obtain ⟨⟨L, M, _, _⟩, _⟩ := h.reads
    obtain ⟨e3', c3', hrm⟩ := M.tab.isMap
    exact (Array.getElem?_eq_some_iff.1 hrm).1
  · obtain ⟨v, hv, _⟩ := h.tx o ho
    exact (Array.getElem?_eq_some_iff.1 hv).1
def ReadQ (base : Nat) (l : Loc) (S : Sm St) (t : Tx) (x : Rd) (f u : ByteArray) (w : World) (e : Ending) (w' : World) : Prop :=
  e = .returned (.int .i64 (S.noteS (iS S.caps.reads) t x f u).1) ∧ ∃ rb', Pm w' base { l with rb := rb' } (S.noteS (iS S.caps.reads) t x f u).2 ∧ (rb' = l.rb ∨ w.heap.size ≤ rb') ∧ Fr (l.own S.txs) w w'
set_option maxHeartbeats 16000000 in
set_option maxRecDepth 100000 in
theorem read_s (base : Nat) (l : Loc) (S : Sm St) (t : Tx) (x : Rd) (f u : ByteArray) (w : World) (h : Pm w base l S) (ht : t ∈ S.txs) (hx : x.OK) (hlk : S.locks.length ≤ 4096) :
    Calls Tryz.prog 41 #[ptr l.p, ptr (l.Q t.num), .agg #[.string x.t, .int .i64 x.k, .string x.f, .string x.u], .string x.t, .string f, .string u] w (ReadQ base l S t x f u w) := by
  obtain ⟨w1, hw1⟩ : ∃ w1, w1 = ((((w.alloc (.cells #[ptr l.p] 26)).alloc (.cells #[.string x.t, .int .i64 x.k, .string x.f, .string x.u] 108)).alloc (.cells #[.string x.t] 9)).alloc (.cells #[.string f] 9)).alloc (.cells #[.string u] 9) := ⟨_, rfl⟩
  have hsz : w1.heap.size = w.heap.size + 5 := by rw [hw1]; simp [go_sem]
  have B1 : Below w.heap.size w w1 := by rw [hw1]; exact below_alloc (below_alloc (below_alloc (below_alloc ((Below.refl _ w).alloc (Nat.le_refl _) _) _) _) _) _
  have b0 : w1.cell? ⟨w.heap.size, 0, none⟩ = some (ptr l.p) := by rw [hw1]; simp [go_sem]
  have x0 : w1.cell? ⟨w.heap.size + 1, 0, none⟩ = some (.string x.t) := by rw [hw1]; simp [go_sem]
  have x1 : w1.cell? ⟨w.heap.size + 1, 1, none⟩ = some (.int .i64 x.k) := by rw [hw1]; simp [go_sem]
  have x2 : w1.cell? ⟨w.heap.size + 1, 2, none⟩ = some (.string x.f) := by rw [hw1]; simp [go_sem]
  have x3 : w1.cell? ⟨w.heap.size + 1, 3, none⟩ = some (.string x.u) := by rw [hw1]; simp [go_sem]
  have b1 : w1.cell? ⟨w.heap.size + 2, 0, none⟩ = some (.string x.t) := by rw [hw1]; simp [go_sem]
  have b2 : w1.cell? ⟨w.heap.size + 3, 0, none⟩ = some (.string f) := by rw [hw1]; simp [go_sem]
  have b3 : w1.cell? ⟨w.heap.size + 4, 0, none⟩ = some (.string u) := by rw [hw1]; simp [go_sem]
  have P1 := h.below B1
  obtain ⟨_, _, _, _, _, _, _, c7, c8, c9⟩ := P1.cells
  obtain ⟨vt, hvt, _⟩ := P1.tx t ht
  obtain ⟨t0, _⟩ := tx_cells hvt
  have hrp : l.rp < w.heap.size := h.reads.lt
  obtain ⟨hk, k1, k2, k3, k4, k5, k6, k7, k8, k9, k10, k11, k12⟩ := h.kinds
  have q5 := (hk t ht).2.2.2.2.1
  have NT := fun n => note_all base l S t x w1 n P1 ht hx
  have CEL : ∀ W, Fr (fun k => k = l.rp) w1 W → (W.cell? ⟨w.heap.size, 0, none⟩ = some (ptr l.p) ∧ W.cell? ⟨w.heap.size + 2, 0, none⟩ = some (.string x.t) ∧ W.cell? ⟨w.heap.size + 3, 0, none⟩ = some (.string f) ∧ W.cell? ⟨w.heap.size + 4, 0, none⟩ = some (.string u)) ∧ W.cell? ⟨l.p, 9, none⟩ = some (ptr l.rp) ∧ W.cell? ⟨l.Q t.num, 0, none⟩ = some (.int .i64 t.num) ∧ W.cell? ⟨w.heap.size + 1, 0, none⟩ = some (.string x.t) ∧ W.cell? ⟨w.heap.size + 1, 1, none⟩ = some (.int .i64 x.k) ∧ W.cell? ⟨w.heap.size + 1, 2, none⟩ = some (.string x.f) ∧ W.cell? ⟨w.heap.size + 1, 3, none⟩ = some (.string x.u) := fun W F =>
    ⟨⟨F.cell b0 (by show ¬ w.heap.size = l.rp; omega), F.cell b1 (by show ¬ w.heap.size + 2 = l.rp; omega), F.cell b2 (by show ¬ w.heap.size + 3 = l.rp; omega), F.cell b3 (by show ¬ w.heap.size + 4 = l.rp; omega)⟩, F.cell c9 (by show ¬ l.p = l.rp; omega), F.cell t0 (by show ¬ l.Q t.num = l.rp; omega),
      F.cell x0 (by show ¬ w.heap.size + 1 = l.rp; omega), F.cell x1 (by show ¬ w.heap.size + 1 = l.rp; omega), F.cell x2 (by show ¬ w.heap.size + 1 = l.rp; omega), F.cell x3 (by show ¬ w.heap.size + 1 = l.rp; omega)⟩
  have BAD : ∀ rb' w2, (noteP S.reads S.caps.reads t.num x).1 ≠ 0 → Pm w2 base { l with rb := rb' } { S with reads := (noteP S.reads S.caps.reads t.num x).2 } → (rb' = l.rb ∨ w1.heap.size ≤ rb') → Fr (fun k => k = l.rp) w1 w2 →
      Calls Tryz.prog 43 #[ptr l.p, ptr (l.Q t.num)] w2 fun e w' => e = .returned (.tuple #[]) ∧ ReadQ base l S t x f u w (.returned (.int .i64 (noteP S.reads S.caps.reads t.num x).1)) w' := fun rb' w2 hne P2 hb F2 => by
    refine (gone_s base _ _ t w2 P2 ht hlk).mono ?_
    rintro e w' ⟨rfl, h1, h2⟩
    have hs := B1.size
    refine ⟨rfl, ?_⟩
    unfold ReadQ Sm.noteS
    rw [if_pos (show ((iS S.caps.reads).note S.reads t.num x).1 ≠ 0 from hne)]
    refine ⟨rfl, rb', h1, by rcases hb with e | e; exact .inl e; exact .inr (by omega), ?_⟩
    refine ((Fr.ofBelow (O := l.own S.txs) B1).trans F2 (fun k hk _ => .inr (.inr (.inr (.inl hk))))).trans h2 (fun k hk hkl => ?_)
    rcases hk with e | e | e | e
    · exact .inr (.inl e)
    · exact .inr (.inr (.inr (.inl e)))
    · rcases hb with e2 | e2
      · exact .inr (.inr (.inr (.inr (.inl (e.trans e2)))))
      · have e : k = rb' := e
        omega
    · exact .inr (.inr (.inl e))
  have GOOD : ∀ rb' w2, (noteP S.reads S.caps.reads t.num x).1 = 0 → Pm w2 base { l with rb := rb' } { S with reads := (noteP S.reads S.caps.reads t.num x).2 } → (rb' = l.rb ∨ w1.heap.size ≤ rb') → Fr (fun k => k = l.rp) w1 w2 → ∀ n,
      Calls Tryz.prog 44 #[ptr l.p, ptr (l.Q t.num), .func (.func 83) #[] #[ptr w.heap.size, ptr (w.heap.size + 2), ptr (w.heap.size + 3), ptr (w.heap.size + 4)]] (w2.drewN n) fun e w3 => ∃ v, e = .returned v ∧ w3.cell? ⟨w.heap.size, 0, none⟩ = some (ptr l.p) ∧
        Calls Tryz.prog 48 #[ptr l.p, ptr (l.Q t.num), v, .bool true] w3 (fun e w' => ReadQ base l S t x f u w e w' ∧ w'.cell? ⟨w.heap.size, 0, none⟩ = some (ptr l.p)) := fun rb' w2 he P2 hb F2 n => by
    obtain ⟨⟨d0, d1, d2, d3⟩, _⟩ := CEL w2 F2
    have P3 := P2.below (drewB2 w2 n)
    have PR := pred83 base _ _ x.t f u _ _ _ _ (w2.drewN n) P3 hlk (below_cell (drewB2 w2 n) d0) (below_cell (drewB2 w2 n) d1) (below_cell (drewB2 w2 n) d2) (below_cell (drewB2 w2 n) d3)
    refine (others_all base _ _ t _ 83 _ entersT83 (w2.drewN n) P3 ht PR).mono ?_
    rintro e w3 ⟨v, vis, rfl, hp, hv, B3⟩
    have B23 : Below w2.heap.size w2 w3 := below_then (drewB2 w2 n) (by simp) B3
    refine ⟨v, rfl, below_cell B23 d0, ?_⟩
    refine (put_all base _ _ _ t _ true v w3 vis (P2.below B23) ht hp hv hlk).mono ?_
    rintro e w' ⟨rfl, h1, h2⟩
    have hs := B1.size
    unfold ReadQ Sm.noteS
    rw [if_neg (show ¬ ((iS S.caps.reads).note S.reads t.num x).1 ≠ 0 from fun h => h he)]
    have hcell : w'.cell? ⟨w.heap.size, 0, none⟩ = some (ptr l.p) := h2.cell (below_cell B23 d0) (fun hk => by
      have lt := h.lts w.heap.size
      rcases hk with e | e | e | e | e | ⟨o, ho, e⟩
      · have := lt (.inl e); omega
      · have := lt (.inr (.inl e)); omega
      · have := lt (.inr (.inr (.inl e))); omega
      · have := lt (.inr (.inr (.inr (.inl e)))); omega
      · have e : w.heap.size = rb' := e
        rcases hb with e2 | e2
        · have := lt (.inr (.inr (.inr (.inr (.inl (e.trans e2)))))); omega
        · omega
      · have := lt (.inr (.inr (.inr (.inr (.inr ⟨o, ho, e⟩))))); omega)
    refine ⟨?_, hcell⟩
    refine ⟨rfl, rb', h1, by rcases hb with e | e; exact .inl e; exact .inr (by omega), ?_⟩
    refine (((Fr.ofBelow (O := l.own S.txs) B1).trans F2 (fun k hk _ => .inr (.inr (.inr (.inl hk))))).trans (Fr.ofBelow (O := fun _ => False) B23) (fun _ h _ => h.elim)).trans h2 (fun k hk hkl => ?_)
    rcases hk with e | e | e | e | e | ⟨o, ho, e⟩
    · exact .inl e
    · exact .inr (.inl e)
    · exact .inr (.inr (.inl e))
    · exact .inr (.inr (.inr (.inl e)))
    · rcases hb with e2 | e2
      · exact .inr (.inr (.inr (.inr (.inl (e.trans e2)))))
      · have e : k = rb' := e
        omega
    · exact .inr (.inr (.inr (.inr (.inr ⟨o, ho, e⟩))))
  have K1 := CEL w1 (Fr.refl _ _)
  clear hsz h hk k1 k2 k3 k4 k5 k6 k7 k8 k9 k10 k11 k12 q5 P1 hvt B1 b0 b1 b2 b3 x0 x1 x2 x3 c7 c8 c9 t0 hrp hx hlk ht
  obtain ⟨⟨b0, b1, b2, b3⟩, c9, t0, x0, x1, x2, x3⟩ := K1
  unfold NoteQ at NT
  generalize l.Q t.num = q at *
  generalize (noteP S.reads S.caps.reads t.num x).1 = rc at *
  replace CEL := Aside0.mk CEL
  replace BAD := Aside0.mk BAD
  replace GOOD := Aside0.mk GOOD
  go_enter Tryz.func41, Tryz.ntmps41
  go_upto_region 1 with (fail)
  rw [← hw1]
  clear hw1
  go_wp2_with fail
  go_region_held3 (fun V => V.cell? ⟨w.heap.size, 0, none⟩ = some (ptr l.p) ∧ V.cell? ⟨l.p, 9, none⟩ = some (ptr l.rp) ∧ V.cell? ⟨q, 0, none⟩ = some (.int .i64 t.num) ∧ V.cell? ⟨w.heap.size + 1, 0, none⟩ = some (.string x.t) ∧ V.cell? ⟨w.heap.size + 1, 1, none⟩ = some (.int .i64 x.k) ∧ V.cell? ⟨w.heap.size + 1, 2, none⟩ = some (.string x.f) ∧ V.cell? ⟨w.heap.size + 1, 3, none⟩ = some (.string x.u)) (first | exact ⟨b0, c9, t0, x0, x1, x2, x3⟩ | exact ⟨K2.1.1, K2.2⟩)
    ((go_at_call 70; refine (NT _).mono ?_; rintro e w2 ⟨rfl, rb', P2, hb, F2⟩; have K2 := CEL.out w2 F2))
  clear NT b0 b1 b2 b3 c9 t0 x0 x1 x2 x3
  obtain ⟨⟨b0, _, _, _⟩, _⟩ := K2
  by_cases hr : rc = 0
  · have G := GOOD.out rb' w2 hr P2 hb F2
    clear P2 hb F2 BAD GOOD CEL
    subst hr
    go_wp2_with fail
    go_region_held3 (fun V => V.cell? ⟨w.heap.size, 0, none⟩ = some (ptr l.p)) (first | exact b0 | exact d0 | exact e0)
      (first | (go_at_call 44; refine (G _).mono ?_; rintro e w3 ⟨v, rfl, d0, PT⟩) | (go_at_call 48; refine PT.mono ?_; rintro e w4 ⟨H4, e0⟩; obtain rfl := H4.1))
    all_goals
      generalize (S.noteS (iS S.caps.reads) t x f u).1 = z at H4 ⊢
      replace H4 := Aside0.mk H4
      clear b0 d0 e0
      go_wp2
      go_ret
      exact H4.out
  · have G := BAD.out rb' w2 hr P2 hb F2
    clear P2 hb F2 BAD GOOD CEL
    have hr2 : (rc != 0) = true := by simpa using hr
    clear hr
    go_wp2_with fail
    refine G.mono ?_
    rintro e w3 ⟨rfl, H3⟩
    replace H3 := Aside0.mk H3
    go_wp2
    all_goals go_ret
    all_goals exact H3.out
end Go.Proofs.YthaoedfalkebbaaGreat
