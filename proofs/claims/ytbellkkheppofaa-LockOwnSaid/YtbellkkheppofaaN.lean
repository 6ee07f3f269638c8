import Derived.Test.YtbellkkheppofaaOA
import Derived.Laws.StructEq
namespace Go.Proofs.Ytbellkkheppofaa
open Go.RowKit Go.Maps Go.Sort Go.Proofs.YtbellkkheppofaaW.PrintWords Go.Proofs.YtbellkkheppofaaW.PrintLast Go.Proofs.YtbellkkheppofaaW.PrintMore
set_option linter.unusedVariables false
set_option linter.unusedSimpArgs false
set_option linter.unusedSectionVars false
/-! ### locks compared -/
theorem toList_iff (s u : ByteArray) : (s.toList = u.toList) ↔ s = u := ⟨toList_inj, fun h => by rw [h]⟩
theorem eqLk (x y : Lk) (w : World) : (binOp .eql 23 (.agg #[.string x.1, .string x.2]) (.agg #[.string y.1, .string y.2])).run Try.prog w = .ok (.bool (decide (x = y))) w := by
  have u9 := Try.underlying9
  have a9 := Try.isAgg9
  have z9 := Try.sizeOf9
  have hS : Try.prog.underlying 23 = some (.struct (Try.prog.fieldsOf 23)) := by kernel_rfl
  have hp : Try.prog.stoodInHeld 23 = false := by kernel_rfl
  rw [run_eql_struct, show (10000 : Nat) = 9999 + 1 from rfl, run_equalIn_agg w 9999 23 _ _ hS hp]
  simp only [Program.fieldsOf, Try.underlying23]
  go_simp
  obtain ⟨a, b⟩ := x
  obtain ⟨c, d⟩ := y
  simp only [Prod.mk.injEq, toList_iff]
  by_cases h1 : a = c <;> by_cases h2 : b = d <;> simp [h1, h2]
theorem neLk (x y : Lk) (w : World) : (binOp .neq 23 (.agg #[.string x.1, .string x.2]) (.agg #[.string y.1, .string y.2])).run Try.prog w = .ok (.bool (!decide (x = y))) w := by
  have u9 := Try.underlying9
  have a9 := Try.isAgg9
  have z9 := Try.sizeOf9
  have hS : Try.prog.underlying 23 = some (.struct (Try.prog.fieldsOf 23)) := by kernel_rfl
  have hp : Try.prog.stoodInHeld 23 = false := by kernel_rfl
  rw [run_neq_struct, show (10000 : Nat) = 9999 + 1 from rfl, run_equalIn_agg w 9999 23 _ _ hS hp]
  simp only [Program.fieldsOf, Try.underlying23]
  go_simp
  obtain ⟨a, b⟩ := x
  obtain ⟨c, d⟩ := y
  simp only [Prod.mk.injEq, toList_iff]
  by_cases h1 : a = c <;> by_cases h2 : b = d <;> simp [h1, h2]
/-! ### Take, whatever it is called with -/
theorem Take_any (p b : Nat) (most : Int) (L : List (Lk × Int)) (tx snap last : Int) (a : Lk) (w : World) (h : Mg w p b most L) (ha : okL a) (hwf : (Lit.int .i64 tx).wf = true) (hL : L.length < maxLen) :
    Calls Try.prog 10 #[.pointer (some ⟨p, 0, none⟩), .int .i64 tx, .int .i64 snap, .int .i64 last, .agg #[.string a.1, .string a.2]] w fun e w' => e = .returned (.int .i64 (tk most L tx snap last a).2) ∧ Mg w' p b most (tk most L tx snap last a).1 ∧ w.grownBy w' (some b) := by
  by_cases hx : tx < 1 ∨ snap < 0 ∨ last < 0
  · refine (Take_bad p b most L tx snap last a w h ha hx).mono ?_
    rintro e w' ⟨rfl, B⟩
    unfold tk
    rw [if_pos hx]
    exact ⟨rfl, h.below B, ⟨B.os, B.tape, B.output, B.size, fun i hi _ => B.block i hi⟩⟩
  · exact Take_calls p b most L tx snap last a w h ha hwf hL hx
theorem tk_length (most : Int) (L : List (Lk × Int)) (tx snap last : Int) (a : Lk) (h : (L.length : Int) ≤ most) : ((tk most L tx snap last a).1.length : Int) ≤ most := by
  unfold tk
  split
  · exact h
  · split
    · split <;> exact h
    · split
      · exact h
      · split
        · exact h
        · simp; omega
theorem trans_grown {w w1 w2 : World} {r : Option Nat} (h : w.grownBy w1 r) (k : w1.grownBy w2 r) : w.grownBy w2 r :=
  ⟨k.os.trans h.os, k.tape.trans h.tape, k.output.trans h.output, Nat.le_trans h.size k.size, fun i hi hne => (k.block i (Nat.lt_of_lt_of_le hi h.size) hne).trans (h.block i hi hne)⟩
theorem grown_none {w w1 : World} {r : Option Nat} (h : w.grownBy w1 none) : w.grownBy w1 r := ⟨h.os, h.tape, h.output, h.size, fun i hi _ => h.block i hi (by simp)⟩
theorem add_field (ad : Addr) (m j : Nat) (hj : 0 < j) : ad.add (m + j) = ⟨(ad.add m).block, (ad.add m).off + j, none⟩ := by
  unfold Addr.add
  rw [if_neg (by omega)]
  split <;> simp <;> omega
/-! ### LockFirst -/
structure FirstOK (L : List (Lk × Int)) (at_ : Lk) : Prop where
  len : L.length ≤ 4096
  mine : got L at_ = some 1
  rest : ∀ q ∈ L, q.1 ≠ at_ → 2 < q.2
theorem FirstOK.take {L : List (Lk × Int)} {at_ a : Lk} (h : FirstOK L at_) (tx snap last : Int) (ht : 2 < tx) (hne : a ≠ at_) : FirstOK (tk 4096 L tx snap last a).1 at_ := by
  have hl := tk_length 4096 L tx snap last a (by have := h.len; omega)
  refine ⟨by omega, ?_, ?_⟩
  · unfold tk
    split
    · exact h.mine
    · split
      · split <;> exact h.mine
      · split
        · exact h.mine
        · split
          · exact h.mine
          · have := h.mine
            unfold got at this ⊢
            rw [List.find?_append]
            cases hf : L.find? (fun p => decide (p.1 = at_)) with
            | none => rw [hf] at this; cases this
            | some y => rw [hf] at this; exact this
  · intro q hq hne'
    unfold tk at hq
    split at hq
    · exact h.rest q hq hne'
    · split at hq
      · split at hq <;> exact h.rest q hq hne'
      · split at hq
        · exact h.rest q hq hne'
        · split at hq
          · exact h.rest q hq hne'
          · rcases List.mem_append.1 hq with hq | hq
            · exact h.rest q hq hne'
            · rw [List.mem_singleton.1 hq]; exact ht
theorem FirstOK.release {L : List (Lk × Int)} {at_ : Lk} (h : FirstOK L at_) (tx : Int) (ht : 2 < tx) : FirstOK (L.filter (fun p => decide (p.2 ≠ tx))) at_ := by
  refine ⟨Nat.le_trans (List.length_filter_le _ _) h.len, ?_, fun q hq hne => h.rest q (List.mem_filter.1 hq).1 hne⟩
  have hg := h.mine
  clear h
  induction L with
  | nil => cases hg
  | cons p L ih =>
    by_cases e : p.1 = at_
    · have e2 : p.2 = 1 := by simpa [got, e] using hg
      rw [List.filter_cons, if_pos (by simp [e2]; omega)]
      simp [got, e, e2]
    · have e3 : got L at_ = some 1 := by
        have : got (p :: L) at_ = got L at_ := by simp [got, e]
        rw [this] at hg
        exact hg
      rw [List.filter_cons]
      split
      · have : got (p :: L.filter (fun p => decide (p.2 ≠ tx))) at_ = got (L.filter (fun p => decide (p.2 ≠ tx))) at_ := by simp [got, e]
        rw [this]
        exact ih e3
      · exact ih e3
theorem FirstOK.only {L : List (Lk × Int)} {at_ : Lk} (h : FirstOK L at_) (hL : L.Pairwise (fun p p' => p.1 ≠ p'.1)) : ∀ q ∈ L, (q.2 = 1 ↔ q = (at_, 1)) := by
  intro q hq
  constructor
  · intro e
    by_cases e2 : q.1 = at_
    · exact Prod.ext e2 e
    · have := h.rest q hq e2
      omega
  · rintro rfl; rfl
theorem FirstOK.one {L : List (Lk × Int)} {at_ : Lk} (h : FirstOK L at_) (hL : L.Pairwise (fun p p' => p.1 ≠ p'.1)) : (L.filter (fun p => decide (p.2 = 1))).length = 1 := by
  have h1 := h.only hL
  have hm := got_mem h.mine
  clear h
  induction L with
  | nil => cases hm
  | cons p L ih =>
    rw [List.pairwise_cons] at hL
    have h2 : ∀ q ∈ L, (q.2 = 1 ↔ q = (at_, 1)) := fun q hq => h1 q (List.mem_cons_of_mem _ hq)
    by_cases e : p = (at_, 1)
    · have hn : L.filter (fun p => decide (p.2 = 1)) = [] := by
        rw [List.filter_eq_nil_iff]
        intro q hq
        simp only [decide_eq_true_eq]
        intro e2
        have := (h2 q hq).1 e2
        exact hL.1 q hq (by rw [e, this])
      rw [List.filter_cons, if_pos (by rw [e]; rfl), hn]
      rfl
    · have h3 : ¬ p.2 = 1 := fun e2 => e ((h1 p List.mem_cons_self).1 e2)
      rw [List.filter_cons, if_neg (by simpa using h3)]
      refine ih hL.2 h2 ?_
      rcases List.mem_cons.1 hm with hm | hm
      · exact absurd hm.symm e
      · exact hm
theorem FirstOK.gone {L : List (Lk × Int)} {at_ : Lk} (h : FirstOK L at_) (hL : L.Pairwise (fun p p' => p.1 ≠ p'.1)) : (L.filter (fun p => decide (p.2 ≠ 1))).length < 4096 ∧ got (L.filter (fun p => decide (p.2 ≠ 1))) at_ = none := by
  have h1 := h.one hL
  have h2 : (L.filter (fun p => decide (p.2 = 1))).length + (L.filter (fun p => decide (p.2 ≠ 1))).length = L.length := by
    clear h h1 hL
    induction L with
    | nil => rfl
    | cons p L ih =>
      by_cases e : p.2 = 1
      · simp [e] at ih ⊢; omega
      · simp [e] at ih ⊢; omega
  have h3 := h.len
  refine ⟨by omega, ?_⟩
  cases hg : got (L.filter (fun p => decide (p.2 ≠ 1))) at_ with
  | none => rfl
  | some v =>
    have hm := List.mem_filter.1 (got_mem hg)
    have e1 := mem_got hL hm.1
    rw [h.mine] at e1
    injection e1 with e1
    simp [← e1] at hm
structure FI (w : World) (p b bx n : Nat) (at_ : Lk) (i : Value) (wr : World) : Prop where
  ex : ∃ k : Nat, k ≤ n ∧ i = .int .i64 k
  mg : ∃ L, Mg wr p b 4096 L ∧ FirstOK L at_
  b0 : wr.cell? ⟨bx, 0, none⟩ = some (.string at_.1)
  b1 : wr.cell? ⟨bx, 1, none⟩ = some (.string at_.2)
  bel : Below w.heap.size w wr
set_option maxHeartbeats 8000000 in
set_option maxRecDepth 100000 in
theorem LockFirst_calls (s : Int) (at_ : Lk) (z : Scr) (w : World) (hs : (Lit.int .i64 s).wf = true) (ha : okL at_) (hz : z.OK w) :
    Calls Try.prog 3 #[.int .i64 s, mkL at_, z.val] w fun e w' => e = .returned (.bool true) ∧ Below w.heap.size w w' := by
  obtain ⟨A, c, xs⟩ := z
  obtain ⟨hC, hx, _⟩ := hz
  unfold mkL Scr.val
  dsimp only at hC hx ⊢
  obtain ⟨w1, hw1⟩ : ∃ w1, w1 = w.alloc (.cells #[.string at_.1, .string at_.2] 23) := ⟨_, rfl⟩
  have hB1 : Below w.heap.size w w1 := by rw [hw1]; exact (Below.refl _ w).alloc (Nat.le_refl _) _
  have c0 : w1.cell? ⟨w.heap.size, 0, none⟩ = some (.string at_.1) := by rw [hw1]; simp [go_sem]
  have c1 : w1.cell? ⟨w.heap.size, 1, none⟩ = some (.string at_.2) := by rw [hw1]; simp [go_sem]
  go_enter Try.func3, Try.ntmps3
  go_wp2_with fail
  rw [← hw1]
  clear hw1
  refine (begun_calls w1).mono ?_
  rintro e w2 ⟨rfl, B2⟩
  have hB2 := below_then hB1 hB1.size B2
  have d0 := (B2.cell (World.block_lt_of_cell? _ _ c0)).trans c0
  have d1 := (B2.cell (World.block_lt_of_cell? _ _ c1)).trans c1
  clear c0 c1 B2
  go_wp2_with fail
  refine (New_calls 4096 w2 (by omega) (by omega)).mono ?_
  rintro e w3 ⟨rfl, M3, B3⟩
  have hB3 := below_then hB2 hB2.size B3
  have c0 := (B3.cell (World.block_lt_of_cell? _ _ d0)).trans d0
  have c1 := (B3.cell (World.block_lt_of_cell? _ _ d1)).trans d1
  have hbx : w.heap.size < w2.heap.size := World.block_lt_of_cell? _ _ d0
  clear d0 d1 B3
  generalize hp : w2.heap.size + 1 = p at M3
  generalize hb : w2.heap.size = b at M3 hbx
  by_cases h1 : s < 0
  · go_wp2_with fail
    have T := Take_any p b 4096 [] 1 s 0 at_ w3 M3 ha (by decide) (by decide)
    have e1 : tk 4096 [] 1 s 0 at_ = ([], 1) := by unfold tk; rw [if_pos (by omega)]
    rw [e1] at T
    refine T.mono ?_
    rintro e w4 ⟨rfl, M4, G4⟩
    go_wp2
    go_ret
    exact ⟨rfl, below_but hB3 hB3.size G4 (by omega)⟩
  by_cases h2 : 4611686018427387904 < s
  · go_wp2_with fail
    have T := Take_any p b 4096 [] 1 s 0 at_ w3 M3 ha (by decide) (by decide)
    refine T.mono ?_
    rintro e w4 ⟨rfl, M4, G4⟩
    go_wp2
    all_goals
      go_ret
      exact ⟨by simp [show (0 : Int) < s by omega], below_but hB3 hB3.size G4 (by omega)⟩
  have T1 := Take_any p b 4096 [] 1 s s at_ w3 M3 ha (by decide) (by decide)
  have e1 : tk 4096 [] 1 s s at_ = ([(at_, 1)], 0) := by
    unfold tk
    rw [if_neg (by omega)]
    simp [got]
  rw [e1] at T1
  go_wp2_with fail
  refine T1.mono ?_
  rintro e w4 ⟨rfl, M4, G4⟩
  have hB4 := below_but hB3 hB3.size G4 (by omega)
  have d0 := G4.cell c0 (fun e => by injection e with e; simp at e; omega)
  have d1 := G4.cell c1 (fun e => by injection e with e; simp at e; omega)
  clear c0 c1 T1 M3 G4 e1
  have T2 := Take_any p b 4096 [(at_, 1)] 2 s s at_ w4 M4 ha (by decide) (by simp [maxLen])
  have e2 : tk 4096 [(at_, 1)] 2 s s at_ = ([(at_, 1)], 80) := by
    unfold tk
    rw [if_neg (by omega)]
    simp [got]
  rw [e2] at T2
  go_wp2_with fail
  refine T2.mono ?_
  rintro e w5 ⟨rfl, M5, G5⟩
  have hB5 := below_but hB4 hB4.size G5 (by omega)
  have c0 := G5.cell d0 (fun e => by injection e with e; simp at e; omega)
  have c1 := G5.cell d1 (fun e => by injection e with e; simp at e; omega)
  clear d0 d1 T2 M4 G5 e2
  have hn := hC.2.1
  go_wp2_with fail
  go_loopw [50] (fun i wr => FI w p b w.heap.size xs.length at_ i wr) (fun i _ => xs.length - (intOf i).toNat)
  case atStart =>
    exact ⟨⟨0, Nat.zero_le _, rfl⟩, ⟨_, M5, by simp, by simp [got], by simp⟩, c0, c1, hB5⟩
  case round =>
    clear c0 c1 M5 hB5 hB4 hB3 hB2 hB1
    obtain ⟨⟨k, hk, rfl⟩, ⟨L, M, F⟩, c0, c1, B⟩ := hrel
    by_cases hlt : k < xs.length
    · obtain ⟨ad, cs, rfl, hcl, hcs, hcc⟩ := Kd.C_get (Kd.C_below hC B) ⟨0, 0, 0, 0, (ByteArray.empty, ByteArray.empty), ByteArray.empty⟩ (k : Int) (by omega) (by omega)
      generalize haa : xs.getD (k : Int).toNat ⟨0, 0, 0, 0, (ByteArray.empty, ByteArray.empty), ByteArray.empty⟩ = x at hcs
      obtain rfl : cs = x.cells := hcs
      have hx1 : x.OK := by
        have hm : x ∈ xs := by
          rw [← haa, Int.toNat_natCast, List.getD_eq_getElem?_getD, List.getElem?_eq_getElem hlt]
          exact List.getElem_mem hlt
        exact hx _ hm
      obtain ⟨d, tx, snap, last, a, u⟩ := x
      have q0 : wr.cell? (ad.add (k * 7)) = some (.int .i64 d) := hcc 0 _ rfl
      have q1 : wr.cell? ⟨(ad.add (k * 7)).block, (ad.add (k * 7)).off + 1, none⟩ = some (.int .i64 tx) := by rw [← add_field _ _ _ (by omega)]; exact hcc 1 _ rfl
      have q2 : wr.cell? ⟨(ad.add (k * 7)).block, (ad.add (k * 7)).off + 2, none⟩ = some (.int .i64 snap) := by rw [← add_field _ _ _ (by omega)]; exact hcc 2 _ rfl
      have q3 : wr.cell? ⟨(ad.add (k * 7)).block, (ad.add (k * 7)).off + 3, none⟩ = some (.int .i64 last) := by rw [← add_field _ _ _ (by omega)]; exact hcc 3 _ rfl
      have q4 : wr.cell? ⟨(ad.add (k * 7)).block, (ad.add (k * 7)).off + 4, none⟩ = some (.string a.1) := by rw [← add_field _ _ _ (by omega)]; exact hcc 4 _ rfl
      have q5 : wr.cell? ⟨(ad.add (k * 7)).block, (ad.add (k * 7)).off + 5, none⟩ = some (.string a.2) := by rw [← add_field _ _ _ (by omega)]; exact hcc 5 _ rfl
      have q6 : wr.cell? ⟨(ad.add (k * 7)).block, (ad.add (k * 7)).off + 6, none⟩ = some (.string u) := by rw [← add_field _ _ _ (by omega)]; exact hcc 6 _ rfl
      clear hcc hcl haa
      obtain ⟨w6, hw6⟩ : ∃ w6, w6 = wr.alloc (.cells #[.int .i64 d, .int .i64 tx, .int .i64 snap, .int .i64 last, .string a.1, .string a.2, .string u] 32) := ⟨_, rfl⟩
      have g6 : wr.grownBy w6 none := by rw [hw6]; exact World.grownBy_alloc _ _ _
      have B6 : Below w.heap.size w w6 := by rw [hw6]; exact below_alloc B _
      have r0 : w6.cell? ⟨wr.heap.size, 0, none⟩ = some (.int .i64 d) := by rw [hw6]; simp [go_sem]
      have r1 : w6.cell? ⟨wr.heap.size, 1, none⟩ = some (.int .i64 tx) := by rw [hw6]; simp [go_sem]
      have r2 : w6.cell? ⟨wr.heap.size, 2, none⟩ = some (.int .i64 snap) := by rw [hw6]; simp [go_sem]
      have r3 : w6.cell? ⟨wr.heap.size, 3, none⟩ = some (.int .i64 last) := by rw [hw6]; simp [go_sem]
      have r4 : w6.cell? ⟨wr.heap.size, 4, none⟩ = some (.string a.1) := by rw [hw6]; simp [go_sem]
      have r5 : w6.cell? ⟨wr.heap.size, 5, none⟩ = some (.string a.2) := by rw [hw6]; simp [go_sem]
      have c0' := g6.cell c0 (by simp)
      have c1' := g6.cell c1 (by simp)
      have M6 := M.kept g6 (by simp) (by simp)
      have hbr : b < wr.heap.size := M.tab.lt
      have hbxr : w.heap.size < wr.heap.size := World.block_lt_of_cell? _ _ c0
      go_upto_region 13 with (fail)
      rw [← hw6]
      clear hw6 q0 q1 q2 q3 q4 q5 q6 c0 c1 M g6
      have hT := Take_any p b 4096 L tx snap last a w6 M6 hx1.key hx1.tx (by have := F.len; simp [maxLen]; omega)
      have hR := Release_calls p b 4096 L tx w6 M6 F.len
      have hne : ∀ W, _ := fun W => neLk a at_ W
      have stay : FI w p b w.heap.size xs.length at_ (.int .i64 ((k + 1 : Nat) : Int)) w6 := ⟨⟨k + 1, by omega, rfl⟩, ⟨L, M6, F⟩, c0', c1', B6⟩
      by_cases ht : 2 < tx
      · by_cases hd : d = 0
        · subst hd
          by_cases hka : a = at_
          · rw [show decide (a = at_) = true by simpa using hka] at hne
            clear hT hR M6 F
            go_wp2
            go_roundw
            case rel => exact stay
            case measure => simp [intOf]; omega
          · rw [show decide (a = at_) = false by simpa using hka] at hne
            clear hR
            go_wp2_with fail
            refine hT.mono ?_
            rintro e w7 ⟨rfl, M7, G7⟩
            have s0 := G7.cell r0 (fun e => by injection e with e; simp at e; omega)
            have c0 := G7.cell c0' (fun e => by injection e with e; simp at e; omega)
            have c1 := G7.cell c1' (fun e => by injection e with e; simp at e; omega)
            have B7 := below_but B6 B6.size G7 (by omega)
            have F7 := F.take tx snap last ht hka
            go_wp2
            go_roundw
            case rel => exact ⟨⟨k + 1, by omega, by go_num⟩, ⟨_, M7, F7⟩, c0, c1, B7⟩
            case measure => simp [intOf]; omega
        · have hd' : (d == 0) = false := by simpa using hd
          by_cases h4 : d = 4
          · subst h4
            clear hT
            go_wp2_with fail
            refine hR.mono ?_
            rintro e w7 ⟨rfl, M7, G7⟩
            have c0 := G7.cell c0' (fun e => by injection e with e; simp at e; omega)
            have c1 := G7.cell c1' (fun e => by injection e with e; simp at e; omega)
            have B7 := below_but B6 B6.size G7 (by omega)
            have F7 := F.release tx ht
            go_wp2
            go_roundw
            case rel => exact ⟨⟨k + 1, by omega, by go_num⟩, ⟨_, M7, F7⟩, c0, c1, B7⟩
            case measure => simp [intOf]; omega
          · have h4' : (d == 4) = false := by simpa using h4
            clear hT hR M6 F
            go_wp2
            go_roundw
            case rel => exact stay
            case measure => simp [intOf]; omega
      · have ht' : tx ≤ 2 := by omega
        clear hT hR M6 F
        go_wp2
        all_goals
          go_roundw
          case rel => exact stay
          case measure => simp [intOf]; omega
    · obtain rfl : k = xs.length := by omega
      have hbr : b < wr.heap.size := M.tab.lt
      have T3 := Take_any p b 4096 L 2 s s at_ wr M ha (by decide) (by have := F.len; simp [maxLen]; omega)
      have e3 : tk 4096 L 2 s s at_ = (L, 80) := by
        unfold tk
        rw [if_neg (by omega), F.mine]
        simp
      rw [e3] at T3
      go_wp2_with fail
      refine T3.mono ?_
      rintro e w6 ⟨rfl, M6, G6⟩
      have B6 := below_but B B.size G6 (by omega)
      have d0 := G6.cell c0 (fun e => by injection e with e; simp at e; omega)
      have d1 := G6.cell c1 (fun e => by injection e with e; simp at e; omega)
      have T4 := Release_calls p b 4096 L 1 w6 M6 F.len
      rw [F.one M.tab.tidy] at T4
      clear T3 e3 c0 c1 M6 G6
      go_wp2_with fail
      refine T4.mono ?_
      rintro e w7 ⟨rfl, M7, G7⟩
      have B7 := below_but B6 B6.size G7 (by omega)
      have c0 := G7.cell d0 (fun e => by injection e with e; simp at e; omega)
      have c1 := G7.cell d1 (fun e => by injection e with e; simp at e; omega)
      obtain ⟨hl, hg⟩ := F.gone M.tab.tidy
      have T5 := Take_any p b 4096 (L.filter (fun p => decide (p.2 ≠ 1))) 2 s (s + 1) at_ w7 M7 ha (by decide) (by simp only [maxLen]; omega)
      have e5 : tk 4096 (L.filter (fun p => decide (p.2 ≠ 1))) 2 s (s + 1) at_ = (L.filter (fun p => decide (p.2 ≠ 1)), 81) := by
        unfold tk
        rw [if_neg (by omega), hg]
        simp only []
        rw [if_pos (by omega)]
      rw [e5] at T5
      clear T4 e5 d0 d1 M7 G7
      go_wp2_with fail
      refine T5.mono ?_
      rintro e w8 ⟨rfl, M8, G8⟩
      have B8 := below_but B7 B7.size G8 (by omega)
      have d0 := G8.cell c0 (fun e => by injection e with e; simp at e; omega)
      have d1 := G8.cell c1 (fun e => by injection e with e; simp at e; omega)
      have T6 := Take_any p b 4096 (L.filter (fun p => decide (p.2 ≠ 1))) 2 (s + 1) (s + 1) at_ w8 M8 ha (by decide) (by simp only [maxLen]; omega)
      have e6 : (tk 4096 (L.filter (fun p => decide (p.2 ≠ 1))) 2 (s + 1) (s + 1) at_).2 = 0 := by
        unfold tk
        rw [if_neg (by omega), hg]
        simp only []
        rw [if_neg (by omega), if_neg (by omega)]
      rw [e6] at T6
      clear T5 e6 c0 c1 M8 G8
      go_wp2_with fail
      refine T6.mono ?_
      rintro e w9 ⟨rfl, M9, G9⟩
      have B9 := below_but B8 B8.size G9 (by omega)
      go_wp2
      go_ret
      exact ⟨rfl, B9⟩
end Go.Proofs.Ytbellkkheppofaa
