import Derived.Test.YthaoedfalkebbaaGreatMP
import Derived.Test.YthaoedfalkebbaaGreatMG
import Derived.OwnWalk
import Derived.Laws.Rows
namespace Go.Proofs.YthaoedfalkebbaaGreat
open Go.RowKit Go.Maps Go.Sort Go.Lib Go.Shelf Go.Proofs.YthaoedfalkebbaaGreatW.PrintWords Go.Proofs.YthaoedfalkebbaaGreatW.PrintLast Go.Proofs.YthaoedfalkebbaaGreatW.PrintMore
set_option linter.unusedVariables false
set_option linter.unusedSimpArgs false
set_option linter.unusedSectionVars false
/-! ### Abort, Scan -/
theorem actv_mem {S : Sm St} {tx : Int} {t : Tx} (h : S.actv tx = some t) : t ∈ S.txs ∧ t.num = tx ∧ t.act = true := by
  unfold Sm.actv at h
  have h1 := List.mem_of_find?_eq_some h
  have h2 := List.find?_some h
  rw [Bool.and_eq_true] at h2
  exact ⟨h1, by simpa using h2.1, h2.2⟩
set_option maxHeartbeats 4000000 in
set_option maxRecDepth 100000 in
theorem Abort_s (base : Nat) (l : Loc) (S : Sm St) (tx : Int) (w : World) (h : Pm w base l S) (hx : okN tx) (hlk : S.locks.length ≤ 4096) :
    Calls Tryz.prog 25 #[ptr l.p, .int .i64 tx] w fun e w' => e = .returned (.int .i64 (S.abort (iS S.caps.reads) tx).1) ∧ Pm w' base l (S.abort (iS S.caps.reads) tx).2 ∧ Fr (own4 l) w w' := by
  have A := active_s base l S tx w h hx
  unfold Sm.abort
  cases ha : S.actv tx with
  | none =>
    rw [ha] at A
    unfold actV at A
    dsimp only at A
    replace h := Aside0.mk h
    replace ha := Aside0.mk ha
    go_enter Tryz.func25, Tryz.ntmps25
    go_wp2_with fail
    refine A.mono ?_
    rintro e w' ⟨rfl, rfl⟩
    go_wp2
    go_ret
    exact ⟨rfl, h.out, Fr.refl _ _⟩
  | some t =>
    rw [ha] at A
    unfold actV at A
    dsimp only at A
    obtain ⟨ht, hn, _⟩ := actv_mem ha
    have G := gone_s base l S t w h ht hlk
    dsimp only
    rw [hn] at G A
    generalize l.Q tx = q at *
    generalize (S.gone (iS S.caps.reads) tx) = S2 at G ⊢
    clear h ha hn ht
    go_enter Tryz.func25, Tryz.ntmps25
    go_wp2_with fail
    refine A.mono ?_
    rintro e w' ⟨rfl, rfl⟩
    go_wp2_with fail
    refine G.mono ?_
    rintro e w' ⟨rfl, hP, hF⟩
    replace hP := Aside0.mk hP
    replace hF := Aside0.mk hF
    go_wp2
    go_ret
    exact ⟨rfl, hP.out, hF.out⟩
/-- what an operation answers and leaves -/
def OpQ (base : Nat) (l : Loc) (S : Sm St) (r : Int × Sm St) (w : World) (e : Ending) (w' : World) : Prop :=
  e = .returned (.int .i64 r.1) ∧ ∃ rb', Pm w' base { l with rb := rb' } r.2 ∧ (rb' = l.rb ∨ w.heap.size ≤ rb') ∧ Fr (l.own S.txs) w w'
theorem OpQ.same {base : Nat} {l : Loc} {S : Sm St} {w : World} {r : Int} (h : Pm w base l S) : OpQ base l S (r, S) w (.returned (.int .i64 r)) w := ⟨rfl, l.rb, h, .inl rfl, Fr.refl _ _⟩
theorem OpQ.sameB {base : Nat} {l : Loc} {S : Sm St} {w w' : World} {r : Int} (h : Pm w base l S) (B : Below w.heap.size w w') : OpQ base l S (r, S) w (.returned (.int .i64 r)) w' := ⟨rfl, l.rb, h.below B, .inl rfl, Fr.ofBelow B⟩
theorem OpQ.goneB {base : Nat} {l : Loc} {S S2 : Sm St} {w w' : World} {r : Int} (h : Pm w' base l S2) (F : Fr (own4 l) w w') : OpQ base l S (r, S2) w (.returned (.int .i64 r)) w' := ⟨rfl, l.rb, h, .inl rfl, F.mono (fun k hk _ => own4_own k hk)⟩
set_option maxHeartbeats 8000000 in
set_option maxRecDepth 100000 in
theorem Scan_s (base : Nat) (l : Loc) (S : Sm St) (tx : Int) (tb f u : ByteArray) (w : World) (h : Pm w base l S) (hx : okN tx) (h1 : tb.size ≤ reachBytes) (h2 : f.size ≤ reachBytes) (h3 : u.size ≤ reachBytes) (hlk : S.locks.length ≤ 4096) :
    Calls Tryz.prog 33 #[ptr l.p, .int .i64 tx, .string tb, .string f, .string u] w (OpQ base l S (S.scan (iS S.caps.reads) tx tb f u) w) := by
  have A := active_s base l S tx w h hx
  unfold Sm.scan
  cases ha : S.actv tx with
  | none =>
    rw [ha] at A
    unfold actV at A
    dsimp only at A
    replace h := Aside0.mk h
    replace ha := Aside0.mk ha
    go_enter Tryz.func33, Tryz.ntmps33
    go_wp2_with fail
    refine A.mono ?_
    rintro e w' ⟨rfl, rfl⟩
    go_wp2
    go_ret
    exact OpQ.same h.out
  | some t =>
    rw [ha] at A
    unfold actV at A
    dsimp only at A
    obtain ⟨ht, hn, _⟩ := actv_mem ha
    have R := read_s base l S t ⟨tb, 2, f, u⟩ f u w h ht ⟨h1, by show (Lit.int .i64 2).wf = true; decide, h2, h3⟩ hlk
    have hle := leq_less u.toList f.toList
    rw [hn] at R A
    generalize l.Q tx = q at *
    replace h := Aside0.mk h
    replace ha := Aside0.mk ha
    replace hn := Aside0.mk hn
    dsimp only
    by_cases hc : u.toList ≠ [] ∧ Op.bytesLess f.toList u.toList = false
    · rw [if_pos hc]
      obtain ⟨c1, c2⟩ := hc
      have c3 : (u.toList != []) = true := by simpa using c1
      have c4 : u.toList.isEmpty = false := by simpa using c1
      clear R
      replace c1 := Aside0.mk c1
      go_enter Tryz.func33, Tryz.ntmps33
      go_wp2_with fail
      refine A.mono ?_
      rintro e w' ⟨rfl, rfl⟩
      go_wp2
      all_goals go_ret
      all_goals exact OpQ.same h.out
    · rw [if_neg hc]
      unfold ReadQ at R
      unfold OpQ
      generalize S.noteS (iS S.caps.reads) t ⟨tb, 2, f, u⟩ f u = X at R ⊢
      by_cases c1 : u.toList = []
      · have c3 : (u.toList != []) = false := by simp [c1]
        have c4 : u.toList.isEmpty = true := by simp [c1]
        replace c1 := Aside0.mk c1
        clear hc hle
        go_enter Tryz.func33, Tryz.ntmps33
        go_wp2_with fail
        refine A.mono ?_
        rintro e w' ⟨rfl, rfl⟩
        go_wp2_with fail
        refine R.mono ?_
        rintro e w' ⟨rfl, H⟩
        replace H := Aside0.mk H
        go_wp2
        go_ret
        exact ⟨rfl, H.out⟩
      · have c2 : Op.bytesLess f.toList u.toList = true := by
          cases hb : Op.bytesLess f.toList u.toList with
          | true => rfl
          | false => exact absurd ⟨c1, hb⟩ hc
        have c3 : (u.toList != []) = true := by simpa using c1
        have c4 : u.toList.isEmpty = false := by simpa using c1
        replace c1 := Aside0.mk c1
        clear hc
        go_enter Tryz.func33, Tryz.ntmps33
        go_wp2_with fail
        refine A.mono ?_
        rintro e w' ⟨rfl, rfl⟩
        go_wp2_with fail
        refine R.mono ?_
        rintro e w' ⟨rfl, H⟩
        replace H := Aside0.mk H
        go_wp2
        go_ret
        exact ⟨rfl, H.out⟩
end Go.Proofs.YthaoedfalkebbaaGreat
namespace Go.Proofs.YthaoedfalkebbaaGreat
open Go.RowKit Go.Maps Go.Sort Go.Lib Go.Shelf Go.Proofs.YthaoedfalkebbaaGreatW.PrintWords Go.Proofs.YthaoedfalkebbaaGreatW.PrintLast Go.Proofs.YthaoedfalkebbaaGreatW.PrintMore
set_option linter.unusedVariables false
set_option linter.unusedSimpArgs false
set_option linter.unusedSectionVars false
/-! ### Read -/
theorem got_holder (L : List (Lk × Int)) (a : Lk) : Lck.got L a = holder L a := by
  rfl
structure LkOK (a : Lk) : Prop where
  t : a.1.size ≤ reachBytes
  k : a.2.size ≤ reachBytes
theorem LkOK.lck {a : Lk} (h : LkOK a) : Lck.okL a := ⟨Nat.le_trans h.t (by decide), Nat.le_trans h.k (by decide)⟩
theorem lk_box (w w1 : World) (a : Lk) (hw1 : w1 = w.alloc (.cells #[.string a.1, .string a.2] 23)) : Below w.heap.size w w1 ∧ w1.heap.size = w.heap.size + 1 ∧ w1.cell? ⟨w.heap.size, 0, none⟩ = some (.string a.1) ∧ w1.cell? ⟨w.heap.size, 1, none⟩ = some (.string a.2) := by
  subst hw1
  exact ⟨(Below.refl _ w).alloc (Nat.le_refl _) _, by simp [go_sem], by simp [go_sem], by simp [go_sem]⟩
set_option maxHeartbeats 16000000 in
set_option maxRecDepth 100000 in
theorem Read_s (base : Nat) (l : Loc) (S : Sm St) (tx : Int) (a : Lk) (w : World) (h : Pm w base l S) (hx : okN tx) (ha : LkOK a) (hlk : S.locks.length ≤ 4096) :
    Calls Tryz.prog 14 #[ptr l.p, .int .i64 tx, .agg #[.string a.1, .string a.2]] w (OpQ base l S (S.read (iS S.caps.reads) tx a) w) := by
  obtain ⟨w1, hw1⟩ : ∃ w1, w1 = w.alloc (.cells #[.string a.1, .string a.2] 23) := ⟨_, rfl⟩
  obtain ⟨B1, hsz, b0, b1⟩ := lk_box w w1 a hw1
  have P1 := h.below B1
  have A := active_s base l S tx w1 P1 hx
  unfold Sm.read
  cases hv : S.actv tx with
  | none =>
    rw [hv] at A
    unfold actV at A
    dsimp only at A
    replace h := Aside0.mk h
    replace hv := Aside0.mk hv
    clear P1
    go_enter Tryz.func14, Tryz.ntmps14
    go_wp2_with fail
    rw [← hw1]
    clear hw1
    refine A.mono ?_
    rintro e w' ⟨rfl, rfl⟩
    go_wp2
    go_ret
    exact OpQ.sameB h.out B1
  | some t =>
    rw [hv] at A
    unfold actV at A
    dsimp only at A
    dsimp only
    obtain ⟨ht, hn, _⟩ := actv_mem hv
    obtain ⟨_, _, _, _, _, _, _, _, c8, _⟩ := P1.cells
    have HC : ∀ n, Calls Tryz.prog 40 #[ptr l.lp, .agg #[.string a.1, .string a.2]] (w1.drewN n) fun e w' => e = .returned (.tuple #[.int .i64 ((holder S.locks a).getD 0), .bool (holder S.locks a).isSome]) ∧ Below w1.heap.size w1 w' := fun n => by
      rw [← got_holder]
      refine (Lck.Holder_calls l.lp l.lb S.caps.locks S.locks a (w1.drewN n) (P1.below (drewB2 w1 n)).locks ha.lck).mono ?_
      rintro e w' ⟨rfl, B⟩
      exact ⟨rfl, below_then (drewB2 w1 n) (by simp) B⟩
    have CEL : ∀ W, Below w1.heap.size w1 W → W.cell? ⟨l.p, 8, none⟩ = some (ptr l.lp) ∧ W.cell? ⟨w.heap.size, 0, none⟩ = some (.string a.1) ∧ W.cell? ⟨w.heap.size, 1, none⟩ = some (.string a.2) := fun W B => ⟨below_cell B c8, below_cell B b0, below_cell B b1⟩
    have RD : ∀ W, Below w1.heap.size w1 W → Calls Tryz.prog 41 #[ptr l.p, ptr (l.Q t.num), .agg #[.string a.1, .int .i64 1, .string a.2, .string ⟨#[]⟩], .string a.1, .string a.2, .string (a.2 ++ ⟨#[0]⟩)] W (OpQ base l S (S.noteS (iS S.caps.reads) t ⟨a.1, 1, a.2, ⟨#[]⟩⟩ a.2 (a.2 ++ ⟨#[0]⟩)) w) := fun W B => by
      have BW := below_then B1 B1.size B
      have hs := BW.size
      have R := read_s base l S t ⟨a.1, 1, a.2, ⟨#[]⟩⟩ a.2 (a.2 ++ ⟨#[0]⟩) W (h.below BW) ht ⟨ha.t, by show (Lit.int .i64 1).wf = true; decide, ha.k, by show (0 : Nat) ≤ reachBytes; decide⟩ hlk
      refine R.mono ?_
      unfold ReadQ OpQ
      generalize S.noteS (iS S.caps.reads) t ⟨a.1, 1, a.2, ⟨#[]⟩⟩ a.2 (a.2 ++ ⟨#[0]⟩) = X
      rintro e w' ⟨h0, rb', h1, h2, h3⟩
      exact ⟨h0, rb', h1, by rcases h2 with e | e; exact .inl e; exact .inr (by omega), (Fr.ofBelow (O := l.own S.txs) BW).trans h3 (fun k hk _ => hk)⟩
    have hadd : ∀ W, (Op.stringOp .add a.2 ⟨#[0]⟩).run Tryz.prog W = .ok (.string (a.2 ++ ⟨#[0]⟩)) W := add_zero_byte a.2 ha.k
    have SAME : ∀ W, Below w1.heap.size w1 W → OpQ base l S (0, S) w (.returned (.int .i64 0)) W := fun W B => OpQ.sameB h (below_then B1 B1.size B)
    rw [hn] at A RD
    generalize S.noteS (iS S.caps.reads) t ⟨a.1, 1, a.2, ⟨#[]⟩⟩ a.2 (a.2 ++ ⟨#[0]⟩) = X at RD ⊢
    unfold OpQ at RD ⊢
    unfold OpQ at SAME
    clear h P1 hv ht hn
    replace CEL := Aside0.mk CEL
    replace RD := Aside0.mk RD
    replace SAME := Aside0.mk SAME
    generalize l.Q tx = q at *
    cases hh : holder S.locks a with
    | none =>
      rw [hh] at HC
      rw [if_neg (by simp)]
      replace HC : ∀ n, Calls Tryz.prog 40 #[ptr l.lp, .agg #[.string a.1, .string a.2]] (w1.drewN n) fun e w' => e = .returned (.tuple #[.int .i64 0, .bool false]) ∧ Below w1.heap.size w1 w' := HC
      replace hh := Aside0.mk hh
      go_enter Tryz.func14, Tryz.ntmps14
      go_wp2_with fail
      rw [← hw1]
      clear hw1
      refine A.mono ?_
      rintro e w' ⟨rfl, rfl⟩
      go_wp2_with fail
      go_region_held3 (fun V => V.cell? ⟨l.p, 8, none⟩ = some (ptr l.lp) ∧ V.cell? ⟨w.heap.size, 0, none⟩ = some (.string a.1) ∧ V.cell? ⟨w.heap.size, 1, none⟩ = some (.string a.2)) (first | exact ⟨c8, b0, b1⟩ | exact K2)
        ((go_at_call 40; refine (HC _).mono ?_; rintro e w2 ⟨rfl, B2⟩; have K2 := CEL.out w2 B2))
      all_goals
        have RD := RD.out w2 B2
        obtain ⟨_, d0, d1⟩ := K2
        replace B2 := Aside0.mk B2
        clear HC
        go_wp2_with fail
        refine RD.mono ?_
        rintro e w3 ⟨rfl, H⟩
        replace H := Aside0.mk H
        go_wp2
        go_ret
        exact ⟨rfl, H.out⟩
    | some h0 =>
      rw [hh] at HC
      replace HC : ∀ n, Calls Tryz.prog 40 #[ptr l.lp, .agg #[.string a.1, .string a.2]] (w1.drewN n) fun e w' => e = .returned (.tuple #[.int .i64 h0, .bool true]) ∧ Below w1.heap.size w1 w' := HC
      replace hh := Aside0.mk hh
      by_cases e0 : h0 = tx
      · rw [if_pos (by rw [e0])]
        subst e0
        go_enter Tryz.func14, Tryz.ntmps14
        go_wp2_with fail
        rw [← hw1]
        clear hw1
        refine A.mono ?_
        rintro e w' ⟨rfl, rfl⟩
        go_wp2_with fail
        go_region_held3 (fun V => V.cell? ⟨l.p, 8, none⟩ = some (ptr l.lp) ∧ V.cell? ⟨w.heap.size, 0, none⟩ = some (.string a.1) ∧ V.cell? ⟨w.heap.size, 1, none⟩ = some (.string a.2)) (first | exact ⟨c8, b0, b1⟩ | exact K2)
          ((go_at_call 40; refine (HC _).mono ?_; rintro e w2 ⟨rfl, B2⟩; have K2 := CEL.out w2 B2))
        all_goals
          have SAME := Aside0.mk (SAME.out w2 B2)
          replace B2 := Aside0.mk B2
          clear HC
          go_wp2
          go_ret
          exact ⟨rfl, SAME.out.2⟩
      · rw [if_neg (by intro e; injection e with e; exact e0 e)]
        have e1 : (h0 == tx) = false := by simpa using e0
        go_enter Tryz.func14, Tryz.ntmps14
        go_wp2_with fail
        rw [← hw1]
        clear hw1
        refine A.mono ?_
        rintro e w' ⟨rfl, rfl⟩
        go_wp2_with fail
        go_region_held3 (fun V => V.cell? ⟨l.p, 8, none⟩ = some (ptr l.lp) ∧ V.cell? ⟨w.heap.size, 0, none⟩ = some (.string a.1) ∧ V.cell? ⟨w.heap.size, 1, none⟩ = some (.string a.2)) (first | exact ⟨c8, b0, b1⟩ | exact K2)
          ((go_at_call 40; refine (HC _).mono ?_; rintro e w2 ⟨rfl, B2⟩; have K2 := CEL.out w2 B2))
        all_goals
          have RD := RD.out w2 B2
          obtain ⟨_, d0, d1⟩ := K2
          replace B2 := Aside0.mk B2
          clear HC
          go_wp2_with fail
          refine RD.mono ?_
          rintro e w3 ⟨rfl, H⟩
          replace H := Aside0.mk H
          go_wp2
          go_ret
          exact ⟨rfl, H.out⟩
end Go.Proofs.YthaoedfalkebbaaGreat
namespace Go.Proofs.YthaoedfalkebbaaGreat
open Go.RowKit Go.Maps Go.Sort Go.Lib Go.Shelf Go.Proofs.YthaoedfalkebbaaGreatW.PrintWords Go.Proofs.YthaoedfalkebbaaGreatW.PrintLast Go.Proofs.YthaoedfalkebbaaGreatW.PrintMore
set_option linter.unusedVariables false
set_option linter.unusedSimpArgs false
set_option linter.unusedSectionVars false
/-! ### Write -/
theorem tk_lck {most : Int} {L : List (Lk × Int)} {tx snap last : Int} {a : Lk} (h1 : 1 ≤ tx) (h2 : 0 ≤ snap) (h3 : 0 ≤ last) : Lck.tk most L tx snap last a = ((tk most L tx snap last a).2, (tk most L tx snap last a).1) := by
  unfold Lck.tk tk
  rw [if_neg (by omega), got_holder]
  cases holder L a with
  | none =>
    simp only
    split
    · rfl
    · split <;> rfl
  | some h =>
    simp only
    split <;> rfl
theorem tk_bad {most : Int} {L : List (Lk × Int)} {tx snap last : Int} {a : Lk} (h : (tk most L tx snap last a).1 ≠ 0) : (tk most L tx snap last a).2 = L := by
  unfold tk at h ⊢
  split
  · split <;> rfl
  · rename_i e
    rw [e] at h
    simp only at h
    split
    · rfl
    · rename_i h1
      rw [if_neg h1] at h
      split
      · rfl
      · rename_i h2
        rw [if_neg h2] at h
        exact absurd rfl h
theorem Pm.locked {w W : World} {base : Nat} {l : Loc} {S : Sm St} {L : List (Lk × Int)} (h : Pm w base l S) (F : Fr (fun k => k = l.lb) w W) (hM : Lck.Mg W l.lp l.lb S.caps.locks L) : Pm W base l { S with locks := L } := by
  obtain ⟨hk, k1, k2, k3, k4, k5, k6, k7, k8, k9, k10, k11, k12⟩ := h.kinds
  refine h.turn2 F (fun k hk => .inr (.inr (.inr hk))) rfl rfl rfl rfl (List.Sublist.refl _) (h.tab.fr F (fun e => h.ne1 e)) ?_ hM
  refine h.reads.fr F (fun e => k11 e) (fun e => h.ne3 e.symm) (fun k c s hk hc => ?_)
  obtain ⟨D, ⟨es, clock, hlm, _⟩, _⟩ := h.locks.tab
  have hk : k = l.lb := hk
  rw [hk, hlm] at hc
  cases hc
theorem any_beq (ns : List Int) (n : Int) : ns.any (· == n) = decide (n ∈ ns) := by
  rw [Bool.eq_iff_iff, List.any_eq_true, decide_eq_true_iff]
  exact ⟨fun ⟨x, hx, e⟩ => by rw [← (by simpa using e : x = n)]; exact hx, fun h => ⟨n, h, by simp⟩⟩
theorem selQ_any {Q : Int → Nat} {t : Tx} {so : Tx → Bool} {vis txs : List Tx} (hp : vis.Perm txs) : decide (0 < (selQ Q t so vis).length) = txs.any (fun o => concB t o && so o) := by
  rw [osOf_q, List.length_map]
  have h := someT_any (p := fun o => concB t o && so o) (vis := vis)
  rw [any_perm hp] at h
  rw [← h]
  rfl
theorem readP_len {S : St} (hI : InvK S) (tab key : ByteArray) : ((readP S tab key).length : Int) ≤ S.n := by
  have h1 := rise_length ((S.K.filter (fun q => (q.2.toList == tab.toList) && (S.R q).any (fun y => holdB y key))).map (·.1))
  rw [List.length_map] at h1
  have h2 := List.length_filter_le (fun q => (q.2.toList == tab.toList) && (S.R q).any (fun y => holdB y key)) S.K
  have := hI.card
  unfold readP
  omega
/-- what the calls of Write do -/
theorem write_rest (base : Nat) (l : Loc) (S : Sm St) (t : Tx) (a : Lk) (last : Int) (w w1 : World) (K N : Int) (h : Pm w base l S) (hC : Cap S K N) (ht : t ∈ S.txs) (hl0 : 0 ≤ last) (hw1 : w1 = w.alloc (.cells #[.string a.1, .string a.2] 23)) (ha : LkOK a) :
    (∀ W, Below w1.heap.size w1 W → ∀ n, Calls Tryz.prog 42 #[ptr l.lp, .int .i64 t.num, .int .i64 t.snap, .int .i64 last, .agg #[.string a.1, .string a.2]] (W.drewN n) fun e w3 => e = .returned (.int .i64 (tk S.caps.locks S.locks t.num t.snap last a).1) ∧ Pm w3 base l { S with locks := (tk S.caps.locks S.locks t.num t.snap last a).2 } ∧ Fr (fun k => k = l.lb) w1 w3) ∧
    (∀ W, Fr (fun k => k = l.lb) w1 W → W.cell? ⟨l.p, 8, none⟩ = some (ptr l.lp) ∧ W.cell? ⟨l.p, 9, none⟩ = some (ptr l.rp) ∧ W.cell? ⟨l.Q t.num, 1, none⟩ = some (.int .i64 t.snap) ∧ W.cell? ⟨w.heap.size, 0, none⟩ = some (.string a.1) ∧ W.cell? ⟨w.heap.size, 1, none⟩ = some (.string a.2)) ∧
    (∀ W L c, Fr (fun k => k = l.lb) w1 W → Pm W base l { S with locks := L } → (L.length : Int) ≤ S.caps.locks → Calls Tryz.prog 43 #[ptr l.p, ptr (l.Q t.num)] W fun e w' => e = .returned (.tuple #[]) ∧ OpQ base l S (c, Sm.gone (iS S.caps.reads) { S with locks := L } t.num) w (.returned (.int .i64 c)) w') ∧
    (∀ W L, Fr (fun k => k = l.lb) w1 W → Pm W base l { S with locks := L } → Calls Tryz.prog 44 #[ptr l.p, ptr (l.Q t.num), .func (.func 45) #[] #[ptr w.heap.size]] W fun e w4 => ∃ A n c, e = .returned (.slice A n c) ∧ decide (0 < n) = S.txs.any (fun o => concB t o && (!o.act && decide (a ∈ o.wrote))) ∧ n ≤ 65536 ∧ Below W.heap.size W w4) ∧
    (∀ W W2 L, Pm W base l { S with locks := L } → Below W.heap.size W W2 → Calls Tryz.prog 47 #[ptr l.rp, .string a.1, .string a.2] W2 fun e w5 => ∃ v, e = .returned v ∧ RowI w5 W2.heap.size v (readP S.reads a.1 a.2) ∧ Below W2.heap.size W2 w5) ∧
    (∀ W W2 L b nb v, Fr (fun k => k = l.lb) w1 W → Pm W base l { S with locks := L } → (L.length : Int) ≤ S.caps.locks → Below W.heap.size W W2 → RowI W2 nb v (readP S.reads a.1 a.2) → W2.cell? ⟨b, 0, none⟩ = some v → Calls Tryz.prog 44 #[ptr l.p, ptr (l.Q t.num), .func (.func 49) #[] #[ptr b]] W2 fun e w6 => ∃ u, e = .returned u ∧
      Calls Tryz.prog 48 #[ptr l.p, ptr (l.Q t.num), u, .bool false] w6 fun e w' => OpQ base l S (Sm.put (iS S.caps.reads) { S with locks := L } t (fun o => decide (o.num ∈ (iS S.caps.reads).rdrs S.reads a.1 a.2)) false) w e w') := by
  obtain ⟨B1, hsz, b0, b1⟩ := lk_box w w1 a hw1
  have P1 := h.below B1
  obtain ⟨_, _, _, _, _, _, _, _, c8, c9⟩ := P1.cells
  obtain ⟨vt, hvt, _⟩ := P1.tx t ht
  obtain ⟨_, t1, _⟩ := tx_cells hvt
  obtain ⟨hk, k1, k2, k3, k4, k5, k6, k7, k8, k9, k10, k11, k12⟩ := h.kinds
  have hlb : l.lb < w.heap.size := h.lts _ (.inr (.inr (.inl rfl)))
  have q4 := (hk t ht).2.2.2.1
  have hns := hC.tx t ht
  have hpos := h.nums t ht
  have F01 : ∀ W, Fr (fun k => k = l.lb) w1 W → Fr (own4 l) w W := fun W F => (Fr.ofBelow (O := own4 l) B1).trans F (fun k hk _ => .inr (.inr (.inr hk)))
  refine ⟨fun W B n => ?_, fun W F => ?_, fun W L c F P hL => ?_, fun W L F P => ?_, fun W W2 L P B => ?_, fun W W2 L b nb v F P hL B hv hb => ?_⟩
  · have PW := P1.below B
    have PD := PW.below (drewB2 W n)
    refine (Lck.Take_any l.lp l.lb S.caps.locks S.locks t.num t.snap last a (W.drewN n) PD.locks ha.lck hpos.2.2 (by have := hC.lck4; simp only [maxLen]; omega)).mono ?_
    rintro e w3 ⟨rfl, h1, h2⟩
    rw [tk_lck hpos.1 hns.2.2 hl0] at h1 ⊢
    have F2 : Fr (fun k => k = l.lb) (W.drewN n) w3 := (Fr.grown h2).mono (fun k hk _ => by injection hk with hk; exact hk.symm)
    refine ⟨rfl, PD.locked F2 h1, ?_⟩
    exact ((Fr.ofBelow (O := fun k => k = l.lb) B).trans (Fr.drewN W n) (fun k hk _ => hk)).trans F2 (fun k hk _ => hk)
  · exact ⟨F.cell c8 (by show ¬ l.p = l.lb; omega), F.cell c9 (by show ¬ l.p = l.lb; omega), F.cell t1 (by show ¬ l.Q t.num = l.lb; omega), F.cell b0 (by show ¬ w.heap.size = l.lb; omega), F.cell b1 (by show ¬ w.heap.size = l.lb; omega)⟩
  · refine (gone_s base l _ t W P ht (by have := hC.caps; show L.length ≤ 4096; omega)).mono ?_
    rintro e w' ⟨rfl, h1, h2⟩
    exact ⟨rfl, OpQ.goneB h1 ((F01 W F).trans h2 (fun k hk _ => hk))⟩
  · obtain ⟨_, _, _, d0, d1⟩ : W.cell? ⟨l.p, 8, none⟩ = some (ptr l.lp) ∧ True ∧ True ∧ W.cell? ⟨w.heap.size, 0, none⟩ = some (.string a.1) ∧ W.cell? ⟨w.heap.size, 1, none⟩ = some (.string a.2) := ⟨F.cell c8 (by show ¬ l.p = l.lb; omega), trivial, trivial, F.cell b0 (by show ¬ w.heap.size = l.lb; omega), F.cell b1 (by show ¬ w.heap.size = l.lb; omega)⟩
    refine (others_all base l _ t _ 45 _ entersT45 W P ht (pred45 base l _ a _ W P d0 d1)).mono ?_
    rintro e w4 ⟨v, vis, rfl, hp, hv, B4⟩
    obtain ⟨A, c, rfl, _⟩ := hv.slice
    refine ⟨A, _, c, rfl, selQ_any hp, ?_, B4⟩
    rw [osOf_q, List.length_map]
    exact Nat.le_trans (Nat.le_trans (List.length_filter_le _ _) (Nat.le_of_eq hp.length_eq)) h.few
  · refine (Readers_S base l.rp l.rb S.caps.reads S.reads a.1 a.2 W2 (P.below B).reads).mono ?_
    rintro e w5 ⟨v, rfl, hv, B5⟩
    exact ⟨v, rfl, Lo.ofR hv, B5⟩
  · have P2 := P.below B
    obtain ⟨_, hI, hn, h3, h4⟩ := P2.reads
    have hlen : (readP S.reads a.1 a.2).length ≤ 65536 := by
      have e1 : ((readP S.reads a.1 a.2).length : Int) ≤ S.reads.n := readP_len hI a.1 a.2
      have e2 := hC.caps
      have hn : S.reads.n ≤ S.caps.reads := hn
      omega
    have PR := pred49 base nb l _ (readP S.reads a.1 a.2) v b W2 P2 hv hlen hb
    have e : (fun o : Tx => (readP S.reads a.1 a.2).any (· == o.num)) = fun o => decide (o.num ∈ (iS S.caps.reads).rdrs S.reads a.1 a.2) := by
      funext o
      exact any_beq _ _
    rw [e] at PR
    refine (others_all base l _ t _ 49 _ entersT49 W2 P2 ht PR).mono ?_
    rintro e w6 ⟨u, vis, rfl, hp, hu, B6⟩
    refine ⟨u, rfl, ?_⟩
    refine (put_all base _ l _ t _ false u w6 vis (P2.below B6) ht hp hu (by have := hC.caps; show L.length ≤ 4096; omega)).mono ?_
    rintro e w' ⟨rfl, h1, h2⟩
    refine ⟨rfl, l.rb, h1, .inl rfl, ?_⟩
    exact (((F01 W F).mono (O2 := l.own S.txs) (fun k hk _ => own4_own k hk)).trans (Fr.ofBelow (O := fun _ => False) (below_then B B.size B6)) (fun k hk _ => hk.elim)).trans h2 (fun k hk _ => hk)
end Go.Proofs.YthaoedfalkebbaaGreat
namespace Go.Proofs.YthaoedfalkebbaaGreat
open Go.RowKit Go.Maps Go.Sort Go.Lib Go.Shelf Go.Proofs.YthaoedfalkebbaaGreatW.PrintWords Go.Proofs.YthaoedfalkebbaaGreatW.PrintLast Go.Proofs.YthaoedfalkebbaaGreatW.PrintMore
set_option linter.unusedVariables false
set_option linter.unusedSimpArgs false
set_option linter.unusedSectionVars false
/-! ### Write, walked -/
theorem allocB (w : World) (o : Obj) : Below w.heap.size w (w.alloc o) := (Below.refl _ w).alloc (Nat.le_refl _) _
theorem boxSz (w : World) (o : Obj) (n : Nat) : ((w.alloc o).drewN n).heap.size = w.heap.size + 1 := by show (w.heap.push o).size = _; simp
theorem boxDN {w w5 : World} {o : Obj} {n : Nat} (B : Below ((w.alloc o).drewN n).heap.size ((w.alloc o).drewN n) w5) : w5.heap[w.heap.size]? = some o := (B.block _ (by show w.heap.size < (w.alloc o).heap.size; simp)).trans (heap_alloc_new w o)
theorem allocDB (w : World) (o : Obj) : Below w.heap.size w (w.alloc o).drew := (allocB w o).grown (drewG _) (allocB w o).size (by simp)
theorem allocDN (w : World) (o : Obj) (n : Nat) : Below w.heap.size w ((w.alloc o).drewN n) := (allocB w o).grown (drewNG _ n) (allocB w o).size (by simp)
set_option maxHeartbeats 32000000 in
set_option maxRecDepth 100000 in
theorem Write_walk (p lp rp q : Nat) (tx snap last ho code : Int) (a : Lk) (hs y : Bool) (w w1 : World) (hw1 : w1 = w.alloc (.cells #[.string a.1, .string a.2] 23)) (Post : Int → World → Prop) (H2 H3 H4 : World → Prop)
    (A : Calls Tryz.prog 39 #[ptr p, .int .i64 tx] w1 fun e w' => e = .returned (.tuple #[ptr q, .int .i64 0]) ∧ w1 = w') (hl0 : ¬ last < 0)
    (c8 : w1.cell? ⟨p, 8, none⟩ = some (ptr lp)) (b0 : w1.cell? ⟨w.heap.size, 0, none⟩ = some (.string a.1)) (b1 : w1.cell? ⟨w.heap.size, 1, none⟩ = some (.string a.2))
    (hnot : hs = true → (ho == tx) = false)
    (HC : ∀ n, Calls Tryz.prog 40 #[ptr lp, .agg #[.string a.1, .string a.2]] (w1.drewN n) fun e w2 => e = .returned (.tuple #[.int .i64 ho, .bool hs]) ∧ H2 w2)
    (C2 : ∀ W, H2 W → W.cell? ⟨p, 8, none⟩ = some (ptr lp) ∧ W.cell? ⟨w.heap.size, 0, none⟩ = some (.string a.1) ∧ W.cell? ⟨w.heap.size, 1, none⟩ = some (.string a.2) ∧ W.cell? ⟨q, 1, none⟩ = some (.int .i64 snap))
    (TK : ∀ W, H2 W → ∀ n, Calls Tryz.prog 42 #[ptr lp, .int .i64 tx, .int .i64 snap, .int .i64 last, .agg #[.string a.1, .string a.2]] (W.drewN n) fun e w3 => e = .returned (.int .i64 code) ∧ H3 w3)
    (C3 : ∀ W, H3 W → W.cell? ⟨p, 8, none⟩ = some (ptr lp) ∧ W.cell? ⟨w.heap.size, 0, none⟩ = some (.string a.1) ∧ W.cell? ⟨w.heap.size, 1, none⟩ = some (.string a.2) ∧ W.cell? ⟨q, 1, none⟩ = some (.int .i64 snap))
    (BAD : code ≠ 0 → ∀ W, H3 W → Calls Tryz.prog 43 #[ptr p, ptr q] W fun e w' => e = .returned (.tuple #[]) ∧ Post code w')
    (OT : code = 0 → ∀ W, H3 W → Calls Tryz.prog 44 #[ptr p, ptr q, .func (.func 45) #[] #[ptr w.heap.size]] W fun e w4 => ∃ A n c, e = .returned (.slice A n c) ∧ decide (0 < n) = y ∧ n ≤ 65536 ∧ H4 w4)
    (LATE : code = 0 → y = true → ∀ W, H4 W → Calls Tryz.prog 43 #[ptr p, ptr q] W fun e w' => e = .returned (.tuple #[]) ∧ Post 81 w')
    (C4 : ∀ W, H4 W → W.cell? ⟨p, 9, none⟩ = some (ptr rp) ∧ W.cell? ⟨w.heap.size, 0, none⟩ = some (.string a.1) ∧ W.cell? ⟨w.heap.size, 1, none⟩ = some (.string a.2))
    (RDS : ∀ W, H4 W → ∀ W2, Below W.heap.size W W2 → Calls Tryz.prog 47 #[ptr rp, .string a.1, .string a.2] W2 fun e w5 => ∃ A5 n5 c5, e = .returned (.slice A5 n5 c5) ∧ Below W2.heap.size W2 w5 ∧ (∀ k, (Value.slice A5 n5 c5).ownBlock = some k → W2.heap.size ≤ k ∧ k < w5.heap.size) ∧
      (code = 0 → y = false → ∀ w6 b, Below W.heap.size W w6 → (∀ k, (Value.slice A5 n5 c5).ownBlock = some k → w6.heap[k]? = w5.heap[k]?) → w6.cell? ⟨b, 0, none⟩ = some (.slice A5 n5 c5) → Calls Tryz.prog 44 #[ptr p, ptr q, .func (.func 49) #[] #[ptr b]] w6 fun e w7 => ∃ u, e = .returned u ∧ Calls Tryz.prog 48 #[ptr p, ptr q, u, .bool false] w7 fun e w' => ∃ k, e = .returned (.int .i64 k) ∧ Post k w')) :
    Calls Tryz.prog 15 #[ptr p, .int .i64 tx, .agg #[.string a.1, .string a.2], .int .i64 last] w fun e w' => ∃ k, e = .returned (.int .i64 k) ∧ Post k w' := by
  replace C2 := Aside0.mk C2
  replace C3 := Aside0.mk C3
  replace C4 := Aside0.mk C4
  replace TK := Aside0.mk TK
  replace BAD := Aside0.mk BAD
  replace OT := Aside0.mk OT
  replace LATE := Aside0.mk LATE
  replace RDS := Aside0.mk RDS
  have hcd := Decidable.em (code = 0)
  replace hcd := Aside0.mk hcd
  go_enter Tryz.func15, Tryz.ntmps15
  go_wp2_with fail
  rw [← hw1]
  clear hw1
  refine A.mono ?_
  rintro e w' ⟨rfl, rfl⟩
  go_wp2_with fail
  go_region_held3 (fun V => V.cell? ⟨p, 8, none⟩ = some (ptr lp) ∧ V.cell? ⟨w.heap.size, 0, none⟩ = some (.string a.1) ∧ V.cell? ⟨w.heap.size, 1, none⟩ = some (.string a.2)) (first | exact ⟨c8, b0, b1⟩ | exact ⟨K2.1, K2.2.1, K2.2.2.1⟩)
    ((go_at_call 40; refine (HC _).mono ?_; rintro e w2 ⟨rfl, B2⟩; have K2 := C2.out w2 B2))
  clear HC c8 b0 b1
  have TK2 := TK.out w2 B2
  clear B2
  go_wp2_with fail
  all_goals
    obtain ⟨d0, d1, d2, d3⟩ := K2
    go_region_held3 (fun V => V.cell? ⟨p, 8, none⟩ = some (ptr lp) ∧ V.cell? ⟨q, 1, none⟩ = some (.int .i64 snap) ∧ V.cell? ⟨w.heap.size, 0, none⟩ = some (.string a.1) ∧ V.cell? ⟨w.heap.size, 1, none⟩ = some (.string a.2)) (first | exact ⟨d0, d3, d1, d2⟩ | exact ⟨K3.1, K3.2.2.2, K3.2.1, K3.2.2.1⟩)
      ((go_at_call 42; refine (TK2 _).mono ?_; rintro e w3 ⟨rfl, B3⟩; have K3 := C3.out w3 B3))
  all_goals
    clear TK2 d0 d1 d2 d3 K3
    rcases hcd.out with hc0 | hc0
    · have OT2 := OT.out hc0 w3 B3
      have LT := Aside0.mk (LATE.out hc0)
      have RD : Aside0 (∀ W, H4 W → ∀ W2, Below W.heap.size W W2 → Calls Tryz.prog 47 #[ptr rp, .string a.1, .string a.2] W2 fun e w5 => ∃ A5 n5 c5, e = .returned (.slice A5 n5 c5) ∧ Below W2.heap.size W2 w5 ∧ (∀ k, (Value.slice A5 n5 c5).ownBlock = some k → W2.heap.size ≤ k ∧ k < w5.heap.size) ∧
          (y = false → ∀ w6 b, Below W.heap.size W w6 → (∀ k, (Value.slice A5 n5 c5).ownBlock = some k → w6.heap[k]? = w5.heap[k]?) → w6.cell? ⟨b, 0, none⟩ = some (.slice A5 n5 c5) → Calls Tryz.prog 44 #[ptr p, ptr q, .func (.func 49) #[] #[ptr b]] w6 fun e w7 => ∃ u, e = .returned u ∧ Calls Tryz.prog 48 #[ptr p, ptr q, u, .bool false] w7 fun e w' => ∃ k, e = .returned (.int .i64 k) ∧ Post k w')) :=
        Aside0.mk (fun W h W2 B => (RDS.out W h W2 B).mono (fun e w5 ⟨A5, n5, c5, h1, h2, h3, h4⟩ => ⟨A5, n5, c5, h1, h2, h3, h4 hc0⟩))
      clear BAD B3 RDS LATE OT hcd
      subst hc0
      go_wp2_with fail
      refine OT2.mono ?_
      rintro e w4 ⟨A4, n4, c4, rfl, hy4, hn4, H4'⟩
      clear OT2
      by_cases hn0 : 0 < n4
      · have hy1 : y = true := by rw [← hy4]; exact decide_eq_true hn0
        have L2 := LT.out hy1 w4 H4'
        clear RD hy1 hy4 LT
        go_wp2_with fail
        refine L2.mono ?_
        rintro e w5 ⟨rfl, HP⟩
        go_wp2
        go_ret
        exact ⟨_, rfl, HP⟩
      · have hy0 : y = false := by rw [← hy4]; exact decide_eq_false hn0
        have hn1 : n4 = 0 := by omega
        obtain ⟨e0, e1, e2⟩ := C4.out w4 H4'
        have RD2 := RD.out w4 H4'
        clear hy4 LT hn0 hn4 RD
        subst hn1
        go_wp2_with fail
        have K5 : ∀ w5, Below w4.heap.size w4 w5 → w5.cell? ⟨p, 9, none⟩ = some (ptr rp) ∧ w5.cell? ⟨w.heap.size, 0, none⟩ = some (.string a.1) ∧ w5.cell? ⟨w.heap.size, 1, none⟩ = some (.string a.2) := fun w5 B => ⟨below_cell B e0, below_cell B e1, below_cell B e2⟩
        replace K5 := Aside0.mk K5
        clear C2 C3 C4 TK hnot A
        go_region_held3 (fun V => V.cell? ⟨p, 9, none⟩ = some (ptr rp) ∧ V.cell? ⟨w.heap.size, 0, none⟩ = some (.string a.1) ∧ V.cell? ⟨w.heap.size, 1, none⟩ = some (.string a.2)) (first | exact ⟨e0, e1, e2⟩ | exact K6 | exact K5.out _ (allocB w4 _) | exact K5.out _ (allocDB w4 _) | exact K5.out _ (below_alloc B5' _) | exact K5.out _ ((below_alloc B5' _).setCell (by first | exact B5'.size | simpa using B5'.size) _) | exact K5.out _ (B5'.setCell (Nat.le_refl _) _))
          ((go_at_call 47; first | (refine (RD2 _ (drewB2 _ _)).mono ?_; rintro e w5 ⟨A5, n5, c5, rfl, B5, R5, P5⟩; have B5' := below_then (drewB2 w4 _) (drewB2 w4 _).size B5; have K6 := K5.out w5 B5') | (refine (RD2 _ (allocDN w4 _ _)).mono ?_; rintro e w5 ⟨A5, n5, c5, rfl, B5, R5, P5⟩; have B5' := below_then (allocDN w4 _ _) (allocDN w4 _ _).size B5; have K6 := K5.out w5 B5'; have BX := boxDN B5; have FZ := blk_frozen BX; have CX := cell_of_row w5 _ 0 _ 63 (0, 0) BX)))
        all_goals
          clear RD2 K5 K6 e0 e1 e2
          have P6 := P5 hy0
          clear P5
          replace P6 := Aside0.mk P6
          go_wp2_with fail
          refine (P6.out _ _ (by first | exact below_alloc B5' _ | exact (below_alloc B5' _).setCell (by first | exact B5'.size | simpa using B5'.size) _ | exact B5'.setCell (Nat.le_refl _) _)
            (by
              intro k hk
              have h := R5 k hk
              first
                | exact (World.grownBy_alloc w5 _ none).block k h.2 (by simp)
                | exact (grown_set w5 w4.heap.size _ _).block k h.2 (fun e => by injection e with e; have h1 := h.1; rw [boxSz] at h1; omega))
            (by first | (simp [go_sem]; done) | exact cell_of_row _ w4.heap.size 0 _ 63 (0, 0) (blk_set BX 0 _))).mono ?_
          rintro e w7 ⟨u7, rfl, P7⟩
          go_wp2_with fail
          refine P7.mono ?_
          rintro e w8 ⟨k8, rfl, P8⟩
          go_wp2
          go_ret
          exact ⟨_, rfl, P8⟩
    · have BD := BAD.out hc0 w3 B3
      clear OT LATE RDS BAD B3 hcd
      have hc1 : (code != 0) = true := by simpa using hc0
      clear hc0
      go_wp2_with fail
      refine BD.mono ?_
      rintro e w4 ⟨rfl, HP⟩
      go_wp2
      all_goals go_ret
      all_goals exact ⟨_, rfl, HP⟩
set_option maxHeartbeats 32000000 in
set_option maxRecDepth 100000 in
theorem Write_s (base : Nat) (l : Loc) (S : Sm St) (tx : Int) (a : Lk) (last : Int) (w : World) (K N : Int) (h : Pm w base l S) (hC : Cap S K N) (hx : okN tx) (ha : LkOK a) :
    Calls Tryz.prog 15 #[ptr l.p, .int .i64 tx, .agg #[.string a.1, .string a.2], .int .i64 last] w (OpQ base l S (S.write (iS S.caps.reads) tx a last) w) := by
  obtain ⟨w1, hw1⟩ : ∃ w1, w1 = w.alloc (.cells #[.string a.1, .string a.2] 23) := ⟨_, rfl⟩
  obtain ⟨B1, hsz, b0, b1⟩ := lk_box w w1 a hw1
  have P1 := h.below B1
  have A := active_s base l S tx w1 P1 hx
  unfold Sm.write
  cases hv : S.actv tx with
  | none =>
    rw [hv] at A
    unfold actV at A
    replace h := Aside0.mk h
    replace hv := Aside0.mk hv
    replace hC := Aside0.mk hC
    clear P1
    go_enter Tryz.func15, Tryz.ntmps15
    go_wp2_with fail
    rw [← hw1]
    clear hw1
    refine A.mono ?_
    rintro e w' ⟨rfl, rfl⟩
    go_wp2
    go_ret
    exact OpQ.sameB h.out B1
  | some t =>
    rw [hv] at A
    unfold actV at A
    dsimp only at A
    dsimp only
    obtain ⟨ht, hn, _⟩ := actv_mem hv
    by_cases hl0 : last < 0
    · rw [if_pos hl0]
      replace h := Aside0.mk h
      replace hC := Aside0.mk hC
      clear P1 hv ht hn
      generalize l.Q t.num = q at *
      go_enter Tryz.func15, Tryz.ntmps15
      go_wp2_with fail
      rw [← hw1]
      clear hw1
      refine A.mono ?_
      rintro e w' ⟨rfl, rfl⟩
      go_wp2
      go_ret
      exact OpQ.sameB h.out B1
    · rw [if_neg hl0]
      obtain ⟨TK, CEL, GN, OT, RDS, PUT⟩ := write_rest base l S t a last w w1 K N h hC ht (by omega) hw1 ha
      obtain ⟨c8, c9, t1, _, _⟩ := CEL w1 (Fr.refl _ _)
      have HC : ∀ n, Calls Tryz.prog 40 #[ptr l.lp, .agg #[.string a.1, .string a.2]] (w1.drewN n) fun e w' => e = .returned (.tuple #[.int .i64 ((holder S.locks a).getD 0), .bool (holder S.locks a).isSome]) ∧ Below w1.heap.size w1 w' := fun n => by
        rw [← got_holder]
        refine (Lck.Holder_calls l.lp l.lb S.caps.locks S.locks a (w1.drewN n) (P1.below (drewB2 w1 n)).locks ha.lck).mono ?_
        rintro e w' ⟨rfl, B⟩
        exact ⟨rfl, below_then (drewB2 w1 n) (by simp) B⟩
      have CELB : ∀ W, Below w1.heap.size w1 W → W.cell? ⟨l.p, 8, none⟩ = some (ptr l.lp) ∧ W.cell? ⟨w.heap.size, 0, none⟩ = some (.string a.1) ∧ W.cell? ⟨w.heap.size, 1, none⟩ = some (.string a.2) := fun W B => ⟨below_cell B c8, below_cell B b0, below_cell B b1⟩
      have SAME : ∀ W, Below w1.heap.size w1 W → OpQ base l S (0, S) w (.returned (.int .i64 0)) W := fun W B => OpQ.sameB h (below_then B1 B1.size B)
      by_cases e0 : holder S.locks a = some tx
      · rw [if_pos e0]
        rw [e0] at HC
        replace HC : ∀ n, Calls Tryz.prog 40 #[ptr l.lp, .agg #[.string a.1, .string a.2]] (w1.drewN n) fun e w' => e = .returned (.tuple #[.int .i64 tx, .bool true]) ∧ Below w1.heap.size w1 w' := HC
        clear t1 c9 TK CEL GN OT RDS PUT P1 h B1 hsz hC ha hv ht
        unfold OpQ at SAME ⊢
        replace CELB := Aside0.mk CELB
        replace SAME := Aside0.mk SAME
        replace e0 := Aside0.mk e0
        replace hn := Aside0.mk hn
        generalize l.Q t.num = q at *
        go_enter Tryz.func15, Tryz.ntmps15
        go_wp2_with fail
        rw [← hw1]
        clear hw1
        refine A.mono ?_
        rintro e w' ⟨rfl, rfl⟩
        go_wp2_with fail
        go_region_held3 (fun V => V.cell? ⟨l.p, 8, none⟩ = some (ptr l.lp) ∧ V.cell? ⟨w.heap.size, 0, none⟩ = some (.string a.1) ∧ V.cell? ⟨w.heap.size, 1, none⟩ = some (.string a.2)) (first | exact ⟨c8, b0, b1⟩ | exact K2)
          ((go_at_call 40; refine (HC _).mono ?_; rintro e w2 ⟨rfl, B2⟩; have K2 := CELB.out w2 B2))
        all_goals
          have SAME := Aside0.mk (SAME.out w2 B2)
          replace B2 := Aside0.mk B2
          clear HC
          go_wp2
          go_ret
          exact ⟨rfl, SAME.out.2⟩
      · rw [if_neg e0]
        subst hn
        have hnot : (holder S.locks a).isSome = true → ((holder S.locks a).getD 0 == t.num) = false := fun h2 => by
          cases hh : holder S.locks a with
          | none => rw [hh] at h2; cases h2
          | some z =>
            rw [hh] at e0
            simp only [Option.getD_some]
            have : z ≠ t.num := fun e => e0 (by rw [e])
            simpa using this
        have hlenX := tk_len (most := S.caps.locks) (L := S.locks) (tx := t.num) (snap := t.snap) (last := last) (a := a) hC.lck
        have hbadX := tk_bad (most := S.caps.locks) (L := S.locks) (tx := t.num) (snap := t.snap) (last := last) (a := a)
        generalize tk S.caps.locks S.locks t.num t.snap last a = X at TK hlenX hbadX ⊢
        generalize hy : S.txs.any (fun o => concB t o && (!o.act && decide (a ∈ o.wrote))) = y at OT ⊢
        generalize hR : (if X.1 ≠ 0 then (X.1, S.gone (iS S.caps.reads) t.num) else if y = true then (81, Sm.gone (iS S.caps.reads) { S with locks := X.2 } t.num) else Sm.put (iS S.caps.reads) { S with locks := X.2 } t (fun o => decide (o.num ∈ (iS S.caps.reads).rdrs S.reads a.1 a.2)) false) = R
        refine (Write_walk l.p l.lp l.rp (l.Q t.num) t.num t.snap last ((holder S.locks a).getD 0) X.1 a (holder S.locks a).isSome y w w1 hw1 (fun k W => OpQ base l S R w (.returned (.int .i64 k)) W)
          (fun W => Below w1.heap.size w1 W) (fun W => Pm W base l { S with locks := X.2 } ∧ Fr (fun k => k = l.lb) w1 W) (fun W => Pm W base l { S with locks := X.2 } ∧ Fr (fun k => k = l.lb) w1 W)
          A hl0 c8 b0 b1 hnot HC ?_ ?_ ?_ ?_ ?_ ?_ ?_ ?_).mono (fun e w' ⟨k, h1, h2⟩ => by rw [h1]; exact h2)
        · exact fun W B => ⟨(CELB W B).1, (CELB W B).2.1, (CELB W B).2.2, below_cell B t1⟩
        · exact fun W B n => TK W B n
        · exact fun W ⟨P, F⟩ => ⟨(CEL W F).1, (CEL W F).2.2.2.1, (CEL W F).2.2.2.2, (CEL W F).2.2.1⟩
        · intro hc W ⟨P, F⟩
          have := GN W X.2 X.1 F P hlenX
          rw [hbadX hc] at this
          rw [← hR, if_pos hc]
          exact this
        · intro hc W ⟨P, F⟩
          refine (OT W X.2 F P).mono ?_
          rintro e w4 ⟨A4, n4, c4, h1, h2, h3, h4⟩
          exact ⟨A4, n4, c4, h1, h2, h3, P.below h4, F.trans (Fr.ofBelow (O := fun _ => False) h4) (fun k hk _ => hk.elim)⟩
        · intro hc hy1 W ⟨P, F⟩
          rw [← hR, if_neg (fun h => h hc), if_pos hy1]
          exact GN W X.2 81 F P hlenX
        · exact fun W ⟨P, F⟩ => ⟨(CEL W F).2.1, (CEL W F).2.2.2.1, (CEL W F).2.2.2.2⟩
        · intro W ⟨P, F⟩ W2 B
          refine (RDS W W2 X.2 P B).mono ?_
          rintro e w5 ⟨v, rfl, hv5, B5⟩
          obtain ⟨A5, c5, rfl, _⟩ := hv5.slice
          refine ⟨A5, _, c5, rfl, B5, fun k hk => ⟨(hv5.typed k hk).1, (hv5.typed k hk).2.1⟩, fun hc hy0 w6 b B6 hrow hb => ?_⟩
          refine (PUT W w6 X.2 b _ _ F P hlenX B6 (hv5.move hrow) hb).mono ?_
          rintro e w7 ⟨u, rfl, hu⟩
          refine ⟨u, rfl, hu.mono ?_⟩
          intro e w8 h8
          rw [← hR, if_neg (fun h => h hc), if_neg (by rw [hy0]; decide)]
          obtain ⟨h9, h10⟩ := h8
          exact ⟨_, h9, rfl, h10⟩
end Go.Proofs.YthaoedfalkebbaaGreat
namespace Go.Proofs.YthaoedfalkebbaaGreat
open Go.RowKit Go.Maps Go.Sort Go.Lib Go.Shelf Go.Proofs.YthaoedfalkebbaaGreatW.PrintWords Go.Proofs.YthaoedfalkebbaaGreatW.PrintLast Go.Proofs.YthaoedfalkebbaaGreatW.PrintMore
set_option linter.unusedVariables false
set_option linter.unusedSimpArgs false
set_option linter.unusedSectionVars false
/-! ### a manager that no call made -/
set_option maxRecDepth 100000 in
theorem active_0 (v : Value) (tx : Int) (w : World) (h : Pm0 w v) : Calls Tryz.prog 39 #[v, .int .i64 tx] w fun e w' => e = .returned (.tuple #[.pointer none, .int .i64 2]) ∧ w = w' := by
  have N := none_0 v w h
  clear h
  go_enter Tryz.func39, Tryz.ntmps39
  go_wp2_with fail
  refine N.mono ?_
  rintro e w' ⟨rfl, rfl⟩
  go_wp2
  go_ret2
  exact ⟨rfl, rfl⟩
set_option maxRecDepth 100000 in
theorem Active_0 (v : Value) (w : World) (h : Pm0 w v) : Calls Tryz.prog 26 #[v] w fun e w' => e = .returned (.slice none 0 0) ∧ w = w' := by
  have N := none_0 v w h
  clear h
  go_enter Tryz.func26, Tryz.ntmps26
  go_wp2_with fail
  refine N.mono ?_
  rintro e w' ⟨rfl, rfl⟩
  go_wp2
  go_ret
  exact ⟨rfl, rfl⟩
set_option maxRecDepth 100000 in
theorem Begin_0 (v : Value) (w : World) (h : Pm0 w v) : Calls Tryz.prog 13 #[v] w fun e w' => e = .returned (.tuple #[.int .i64 0, .int .i64 0, .int .i64 2]) ∧ w = w' := by
  have N := none_0 v w h
  clear h
  go_enter Tryz.func13, Tryz.ntmps13
  go_wp2_with fail
  refine N.mono ?_
  rintro e w' ⟨rfl, rfl⟩
  go_wp2
  go_ret3
  exact ⟨rfl, rfl⟩
set_option maxRecDepth 100000 in
theorem Now_0 (v : Value) (w : World) (h : Pm0 w v) : Calls Tryz.prog 34 #[v] w fun e w' => e = .returned (.int .i64 0) ∧ w = w' := by
  have N := none_0 v w h
  clear h
  go_enter Tryz.func34, Tryz.ntmps34
  go_wp2_with fail
  refine N.mono ?_
  rintro e w' ⟨rfl, rfl⟩
  go_wp2
  go_ret
  exact ⟨rfl, rfl⟩
set_option maxRecDepth 100000 in
theorem Oldest_0 (v : Value) (w : World) (h : Pm0 w v) : Calls Tryz.prog 35 #[v] w fun e w' => e = .returned (.int .i64 0) ∧ w = w' := by
  have N := none_0 v w h
  clear h
  go_enter Tryz.func35, Tryz.ntmps35
  go_wp2_with fail
  refine N.mono ?_
  rintro e w' ⟨rfl, rfl⟩
  go_wp2
  go_ret
  exact ⟨rfl, rfl⟩
set_option maxRecDepth 100000 in
theorem Clone_0 (v : Value) (w : World) (h : Pm0 w v) : Calls Tryz.prog 30 #[v] w fun e w' => e = .returned (.pointer none) ∧ w = w' := by
  have N := none_0 v w h
  clear h
  go_enter Tryz.func30, Tryz.ntmps30
  go_wp2_with fail
  refine N.mono ?_
  rintro e w' ⟨rfl, rfl⟩
  go_wp2
  go_ret
  exact ⟨rfl, rfl⟩
set_option maxRecDepth 100000 in
theorem Tracked_0 (v : Value) (w : World) (h : Pm0 w v) : Calls Tryz.prog 24 #[v] w fun e w' => e = .returned (.agg #[.int .i64 0, .int .i64 0, .int .i64 0, .int .i64 0]) ∧ Below w.heap.size w w' := by
  obtain ⟨w1, hw1⟩ : ∃ w1, w1 = w.alloc (.cells #[.int .i64 0, .int .i64 0, .int .i64 0, .int .i64 0] 60) := ⟨_, rfl⟩
  have B1 : Below w.heap.size w w1 := by rw [hw1]; exact (Below.refl _ w).alloc (Nat.le_refl _) _
  have N := none_0 v w1 (h.below B1)
  rw [hw1] at N B1
  clear h hw1
  go_enter Tryz.func24, Tryz.ntmps24
  go_wp2_with fail
  refine N.mono ?_
  rintro e w' ⟨rfl, rfl⟩
  go_wp2
  exact bodyPost_ret (v := .agg #[.int .i64 0, .int .i64 0, .int .i64 0, .int .i64 0]) (by simp [results, Tryz.results24, go_sem]) rfl ⟨rfl, B1⟩
set_option maxRecDepth 100000 in
theorem Abort_0 (v : Value) (tx : Int) (w : World) (h : Pm0 w v) : Calls Tryz.prog 25 #[v, .int .i64 tx] w fun e w' => e = .returned (.int .i64 2) ∧ w = w' := by
  have A := active_0 v tx w h
  clear h
  go_enter Tryz.func25, Tryz.ntmps25
  go_wp2_with fail
  refine A.mono ?_
  rintro e w' ⟨rfl, rfl⟩
  go_wp2
  go_ret
  exact ⟨rfl, rfl⟩
set_option maxRecDepth 100000 in
theorem Commit_0 (v : Value) (tx : Int) (w : World) (h : Pm0 w v) : Calls Tryz.prog 16 #[v, .int .i64 tx] w fun e w' => e = .returned (.tuple #[.int .i64 0, .int .i64 2]) ∧ w = w' := by
  have A := active_0 v tx w h
  clear h
  go_enter Tryz.func16, Tryz.ntmps16
  go_wp2_with fail
  refine A.mono ?_
  rintro e w' ⟨rfl, rfl⟩
  go_wp2
  go_ret2
  exact ⟨rfl, rfl⟩
set_option maxRecDepth 100000 in
theorem Snapshot_0 (v : Value) (tx : Int) (w : World) (h : Pm0 w v) : Calls Tryz.prog 28 #[v, .int .i64 tx] w fun e w' => e = .returned (.tuple #[.int .i64 0, .int .i64 2]) ∧ w = w' := by
  have A := active_0 v tx w h
  clear h
  go_enter Tryz.func28, Tryz.ntmps28
  go_wp2_with fail
  refine A.mono ?_
  rintro e w' ⟨rfl, rfl⟩
  go_wp2
  go_ret2
  exact ⟨rfl, rfl⟩
set_option maxRecDepth 100000 in
theorem Flags_0 (v : Value) (tx : Int) (w : World) (h : Pm0 w v) : Calls Tryz.prog 27 #[v, .int .i64 tx] w fun e w' => e = .returned (.tuple #[.agg #[.bool false, .bool false], .int .i64 2]) ∧ Below w.heap.size w w' := by
  obtain ⟨w1, hw1⟩ : ∃ w1, w1 = w.alloc (.cells #[.bool false, .bool false] 67) := ⟨_, rfl⟩
  have B1 : Below w.heap.size w w1 := by rw [hw1]; exact (Below.refl _ w).alloc (Nat.le_refl _) _
  have A := active_0 v tx w1 (h.below B1)
  rw [hw1] at A B1
  clear h hw1
  go_enter Tryz.func27, Tryz.ntmps27
  go_wp2_with fail
  refine A.mono ?_
  rintro e w' ⟨rfl, rfl⟩
  go_wp2
  exact bodyPost_ret (v := .tuple #[.agg #[.bool false, .bool false], .int .i64 2]) (by simp [results, Tryz.results27, go_sem]) rfl ⟨rfl, B1⟩
set_option maxRecDepth 100000 in
theorem Scan_0 (v : Value) (tx : Int) (tb f u : ByteArray) (w : World) (h : Pm0 w v) : Calls Tryz.prog 33 #[v, .int .i64 tx, .string tb, .string f, .string u] w fun e w' => e = .returned (.int .i64 2) ∧ w = w' := by
  have A := active_0 v tx w h
  clear h
  go_enter Tryz.func33, Tryz.ntmps33
  go_wp2_with fail
  refine A.mono ?_
  rintro e w' ⟨rfl, rfl⟩
  go_wp2
  go_ret
  exact ⟨rfl, rfl⟩
set_option maxRecDepth 100000 in
theorem Read_0 (v : Value) (tx : Int) (a : Lk) (w : World) (h : Pm0 w v) : Calls Tryz.prog 14 #[v, .int .i64 tx, .agg #[.string a.1, .string a.2]] w fun e w' => e = .returned (.int .i64 2) ∧ Below w.heap.size w w' := by
  obtain ⟨w1, hw1⟩ : ∃ w1, w1 = w.alloc (.cells #[.string a.1, .string a.2] 23) := ⟨_, rfl⟩
  have B1 : Below w.heap.size w w1 := by rw [hw1]; exact (Below.refl _ w).alloc (Nat.le_refl _) _
  have A := active_0 v tx w1 (h.below B1)
  clear h
  go_enter Tryz.func14, Tryz.ntmps14
  go_wp2_with fail
  rw [← hw1]
  clear hw1
  refine A.mono ?_
  rintro e w' ⟨rfl, rfl⟩
  go_wp2
  go_ret
  exact ⟨rfl, B1⟩
set_option maxRecDepth 100000 in
theorem Write_0 (v : Value) (tx : Int) (a : Lk) (last : Int) (w : World) (h : Pm0 w v) : Calls Tryz.prog 15 #[v, .int .i64 tx, .agg #[.string a.1, .string a.2], .int .i64 last] w fun e w' => e = .returned (.int .i64 2) ∧ Below w.heap.size w w' := by
  obtain ⟨w1, hw1⟩ : ∃ w1, w1 = w.alloc (.cells #[.string a.1, .string a.2] 23) := ⟨_, rfl⟩
  have B1 : Below w.heap.size w w1 := by rw [hw1]; exact (Below.refl _ w).alloc (Nat.le_refl _) _
  have A := active_0 v tx w1 (h.below B1)
  clear h
  go_enter Tryz.func15, Tryz.ntmps15
  go_wp2_with fail
  rw [← hw1]
  clear hw1
  refine A.mono ?_
  rintro e w' ⟨rfl, rfl⟩
  go_wp2
  go_ret
  exact ⟨rfl, B1⟩
end Go.Proofs.YthaoedfalkebbaaGreat
