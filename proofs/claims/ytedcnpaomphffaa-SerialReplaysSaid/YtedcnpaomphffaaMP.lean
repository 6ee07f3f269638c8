import Derived.Test.YtedcnpaomphffaaMO
import Derived.Test.YtedcnpaomphffaaMN
import Derived.Test.YtedcnpaomphffaaMK
namespace Go.Proofs.Ytedcnpaomphffaa
open Go.RowKit Go.Maps Go.Sort Go.Lib Go.Shelf Go.Proofs.YtedcnpaomphffaaW.PrintWords Go.Proofs.YtedcnpaomphffaaW.PrintLast Go.Proofs.YtedcnpaomphffaaW.PrintMore
set_option linter.unusedVariables false
set_option linter.unusedSimpArgs false
set_option linter.unusedSectionVars false
/-! ### Orders -/
/-- all orders of a graph -/
def allO (g : List Dp) (names : List Int) : List (List Int) := if (greedy g names names.length []).isSome = true then enum g names names.length [] else []
/-- what is handed over in round k -/
def Hands3 (E : List (List Int)) (n0 k : Nat) (x : Value) (W : World) : Prop := ∃ L, E[k]? = some L ∧ RowI W n0 x L
theorem RowI.turns {A B : World} {base b : Nat} {v : Value} {xs : List Int} (h : RowI A base v xs) (t : Turns b A B) : RowI B base v xs := by
  obtain ⟨l, o, o', hl, ho, hc, rfl⟩ := t
  refine h.move (fun k hk => World.putObj_heap_other (fun e => ?_))
  subst e
  obtain ⟨_, _, cs, hcs⟩ := h.typed k hk
  rw [ho] at hcs
  injection hcs with hcs
  subst hcs
  cases hc
theorem Hands3.turns {E : List (List Int)} {n0 k b : Nat} {x : Value} {A B : World} (h : Hands3 E n0 k x A) (t : Turns b A B) : Hands3 E n0 k x B := by
  obtain ⟨L, h1, h2⟩ := h
  exact ⟨L, h1, h2.turns t⟩
set_option maxRecDepth 100000 in
theorem none46 (n : Nat) (Good : World → Prop) : Iter3 n Try.prog 38 #[] (Hands3 []) (fun k => k = 0) Good := by
  intro l J Jx W hJ hG hY h0
  refine callsIn_wide.2 ?_
  go_enter Try.func38, Try.ntmps38
  go_wp2
  go_end0
  exact ⟨⟨_, rfl⟩, .inl ⟨0, rfl, h0⟩⟩
theorem leftP_start {g : List Dp} {names : List Int} {cs0 : List Int} (hl : cs0.length = names.length) (hc : ∀ j (hj : j < cs0.length), cs0[j] = cnt g names [] (nm names j)) : leftP g names [] = cs0 := by
  refine List.ext_getElem (by rw [leftP_len, hl]) fun j h1 h2 => ?_
  rw [leftP_at, hc j h2, if_neg (by simp)]
set_option maxHeartbeats 8000000 in
set_option maxRecDepth 100000 in
theorem orders48 (n : Nat) {pw bn bi pc : Nat} {At : Option Addr} {ct : Nat} {g : List Dp} {names : List Int} {ss : List Sv} {cs0 : List Int} (hnl : names.length ≤ 4096) (hnn : names.Nodup) (hg : ∀ d ∈ g, d.f ∈ names ∧ d.t ∈ names ∧ d.f ≠ d.t) :
    Iter3 n Try.prog 39 #[.pointer (some ⟨pc, 0, none⟩)] (Hands3 (allO g names)) (fun k => k = (allO g names).length) (fun A => WbC A pw bn bi At ct g names ss cs0 ∧ A.cell? ⟨pc, 0, none⟩ = some (.pointer (some ⟨pw, 0, none⟩))) := by
  intro l J Jx W hJ hG hY h0
  refine callsIn_wide.2 ?_
  obtain ⟨V, hpc⟩ := hG 0 W h0
  have SE := serial_calls W V hnl hnn (fun d hd => ⟨(hg d hd).1, (hg d hd).2.1⟩)
  unfold allO at hY ⊢
  by_cases hs : (greedy g names names.length []).isSome = true
  · rw [if_pos hs] at hY ⊢
    rw [hs] at SE
    have OC : ∀ w3, Below W.heap.size W w3 → Calls Try.prog 40 #[.pointer (some ⟨pw, 0, none⟩), .slice (some ⟨bi, 0, none⟩) names.length names.length, .slice none 0 0, .func (.yield l) #[] #[]] w3 (OrPost J Jx W.heap.size (.slice none 0 0) [] (enum g names names.length []).length w3) := fun w3 B3 => by
      have := orders_calls hnl hnn hg l W.heap.size J Jx (enum g names names.length []) hJ (fun k A h => (hG k A h).1) (fun k x W1 h1 h2 h3 => yieldAt_any (hY k x W1 h1 h2 h3)) names.length [] 0 bi names.length (.slice none 0 0) w3 (hJ 0 W w3 h0 B3) B3.size (Pre.nil g names) (by simp) ⟨[], [], by simp, rfl⟩ (Lo.nil _ _) (.inr fun k A h => by
        have V := (hG k A h).1
        rw [leftP_start V.cl V.cs, V.cl]
        exact V.into)
      rw [Nat.zero_add] at this
      exact this
    replace OC : ∀ w3, Below W.heap.size W w3 → Calls Try.prog 40 #[.pointer (some ⟨pw, 0, none⟩), .slice (some ⟨bi, 0, none⟩) names.length names.length, .slice none 0 0, .func (.yield l) #[] #[]] w3 (fun e w' => ∃ b : Bool, e = .returned (.bool b) ∧ ((∃ k, k = (enum g names names.length []).length ∧ J k w') ∨ Jx w')) := fun w3 B3 => (OC w3 B3).mono fun e w' h => by
      rcases h with ⟨h1, h2, _⟩ | ⟨h1, h2⟩
      · exact ⟨_, h1, .inl ⟨_, rfl, h2⟩⟩
      · exact ⟨_, h1, .inr h2⟩
    have hG2 : ∀ w3, Below W.heap.size W w3 → w3.cell? ⟨pc, 0, none⟩ = some (.pointer (some ⟨pw, 0, none⟩)) ∧ w3.cell? ⟨pw, 2, none⟩ = some (.slice (some ⟨bi, 0, none⟩) names.length names.length) := fun w3 B3 => ⟨(hG 0 w3 (hJ 0 W w3 h0 B3)).2, (hG 0 w3 (hJ 0 W w3 h0 B3)).1.c2⟩
    clear V hY hG hJ h0
    replace hs := Aside0.mk hs
    replace OC := Aside0.mk OC
    replace hG2 := Aside0.mk hG2
    replace hg := Aside0.mk hg
    replace hnn := Aside0.mk hnn
    go_enter Try.func39, Try.ntmps39
    go_wp2_with fail
    refine SE.mono ?_
    rintro e w3 ⟨rfl, B3⟩
    obtain ⟨q0, q1⟩ := hG2.out w3 B3
    have OC3 := OC.out w3.drew (B3.grown (drewNG w3 1) B3.size (by simp))
    clear SE hpc OC
    go_wp2_with fail
    refine start_ (n := 7) (S := fun w' => w'.cell? ⟨pc, 0, none⟩ = some (.pointer (some ⟨pw, 0, none⟩)) ∧ w'.cell? ⟨pw, 2, none⟩ = some (.slice (some ⟨bi, 0, none⟩) names.length names.length)) (ds := [6]) #[false, false, false, false, false, false, false] (by kernel_rfl) rfl rfl ⟨q0, q1⟩ (fun hHeld => ?_)
    refine pure_ (i := 5) (N := some 10) (v := ?_) (a' := ?_) #[false, false, false, false, false, true, false] rfl rfl (by kernel_rfl) (fun _ _ _ h => h) (Or.inl ⟨by rfl, ?_⟩) ?_ ?_
    rotate_left
    · intro w'
      go_simp
      with_reducible rfl
    rotate_left
    · simp only [Act.put, List.setIfInBounds_toArray, List.set_cons_zero, List.set_cons_succ, i64_w, i32_w]
      rfl
    refine take_ (i := 0) (N := some 5) (v := ?_) (a' := ?_) #[true, false, false, false, false, true, false] rfl rfl (by kernel_rfl) (fun _ _ _ h => h) (Or.inl ⟨by rfl, ?_⟩) hHeld ?_ ?_
    rotate_left
    · rintro w' ⟨s0, s1⟩
      go_simp
      with_reducible rfl
    rotate_left
    · simp only [Act.put, List.setIfInBounds_toArray, List.set_cons_zero, List.set_cons_succ, i64_w, i32_w]
      rfl
    refine take_ (i := 1) (N := some 6) (v := ?_) (a' := ?_) #[true, true, false, false, false, true, false] rfl rfl (by kernel_rfl) (fun _ _ _ h => h) (Or.inl ⟨by rfl, ?_⟩) hHeld ?_ ?_
    rotate_left
    · rintro w' ⟨s0, s1⟩
      go_simp
      with_reducible rfl
    rotate_left
    · simp only [Act.put, List.setIfInBounds_toArray, List.set_cons_zero, List.set_cons_succ, i64_w, i32_w]
      rfl
    refine pure_ (i := 2) (N := some 7) (v := ?_) (a' := ?_) #[true, true, true, false, false, true, false] rfl rfl (by kernel_rfl) (fun _ _ _ h => h) (Or.inl ⟨by rfl, ?_⟩) ?_ ?_
    rotate_left
    · intro w'
      go_simp
      with_reducible rfl
    rotate_left
    · simp only [Act.put, List.setIfInBounds_toArray, List.set_cons_zero, List.set_cons_succ, i64_w, i32_w]
      rfl
    refine pure_ (i := 3) (N := some 8) (v := ?_) (a' := ?_) #[true, true, true, true, false, true, false] rfl rfl (by kernel_rfl) (fun _ _ _ h => h) (Or.inl ⟨by rfl, ?_⟩) ?_ ?_
    rotate_left
    · intro w'
      go_simp
      with_reducible rfl
    rotate_left
    · simp only [Act.put, List.setIfInBounds_toArray, List.set_cons_zero, List.set_cons_succ, i64_w, i32_w]
      rfl
    refine take_ (i := 4) (N := some 9) (v := ?_) (a' := ?_) #[true, true, true, true, true, true, false] rfl rfl (by kernel_rfl) (fun _ _ _ h => h) (Or.inl ⟨by rfl, ?_⟩) hHeld ?_ ?_
    rotate_left
    · rintro w' ⟨s0, s1⟩
      go_simp
      with_reducible rfl
    rotate_left
    · simp only [Act.put, List.setIfInBounds_toArray, List.set_cons_zero, List.set_cons_succ, i64_w, i32_w]
      rfl
    refine last_ (i := 6) (N := some 11) #[true, true, true, true, true, true, true] rfl rfl (by kernel_rfl) (by decide) (fun K hK => ?_)
    refine goes_ Try.func40 (by kernel_rfl) rfl #[.pointer (some ⟨pw, 0, none⟩), .slice (some ⟨bi, 0, none⟩) names.length names.length, .slice none 0 0, .func (.yield l) #[] #[]] (by rfl) rfl rfl (by simp only [List.map_toArray, List.map_cons, List.map_nil]; rfl) ?_
    with_reducible refine (OC3).mono ?_
    rintro e w4 ⟨b, rfl, HP⟩
    refine ⟨_, rfl, ?_⟩
    refine hK.out _ _ ?_
    clear hK K
    refine norm_ (a' := ?_) ?_ ?_
    rotate_left
    · show Act.put _ (some 11) _ = _
      simp only [Act.put, List.setIfInBounds_toArray, List.set_cons_zero, List.set_cons_succ, i64_w, i32_w]
      rfl
    refine done_ (by kernel_rfl) ?_

    clear OC3 q0 q1
    replace HP := Aside0.mk HP
    go_wp2
    go_end0
    exact ⟨⟨_, rfl⟩, HP.out⟩
  · have hs' : (greedy g names names.length []).isSome = false := by simpa using hs
    rw [if_neg hs] at hY ⊢
    rw [hs'] at SE
    have KK : ∀ w3, Below W.heap.size W w3 → (∃ k, k = ([] : List (List Int)).length ∧ J k w3) ∨ Jx w3 := fun w3 B3 => .inl ⟨0, rfl, hJ 0 W w3 h0 B3⟩
    clear hY hG hJ h0 V hs hs'
    replace hg := Aside0.mk hg
    replace hnn := Aside0.mk hnn
    go_enter Try.func39, Try.ntmps39
    go_wp2_with fail
    refine SE.mono ?_
    rintro e w3 ⟨rfl, B3⟩
    have K := Aside0.mk (KK w3 B3)
    clear SE KK hpc
    go_wp2
    go_end0
    exact ⟨⟨_, rfl⟩, K.out⟩
end Go.Proofs.Ytedcnpaomphffaa
namespace Go.Proofs.Ytedcnpaomphffaa
open Go.RowKit Go.Maps Go.Sort Go.Lib Go.Shelf Go.Proofs.YtedcnpaomphffaaW.PrintWords Go.Proofs.YtedcnpaomphffaaW.PrintLast Go.Proofs.YtedcnpaomphffaaW.PrintMore
set_option linter.unusedVariables false
set_option linter.unusedSimpArgs false
set_option linter.unusedSectionVars false
/-! ### Orders: the iterator -/
/-- the closure that Orders gives over the history h, in the world W -/
def OsAt (h : Hs) (v : Value) (W : World) : Prop := (¬ OkH h ∧ v = .func (.func 38) #[] #[]) ∨ (OkH h ∧ ∃ pw bn bi pc At ct ss cs, v = .func (.func 39) #[] #[.pointer (some ⟨pc, 0, none⟩)] ∧ WbC W pw bn bi At ct (graphP h) (rise h.C) ss cs ∧ W.cell? ⟨pc, 0, none⟩ = some (.pointer (some ⟨pw, 0, none⟩)))
theorem OsAt.below {h : Hs} {v : Value} {A B : World} (o : OsAt h v A) (b : Below A.heap.size A B) : OsAt h v B := by
  rcases o with o | ⟨ok, pw, bn, bi, pc, At, ct, ss, cs, e, V, c⟩
  · exact .inl o
  · exact .inr ⟨ok, pw, bn, bi, pc, At, ct, ss, cs, e, V.below b, (b.cell (World.block_lt_of_cell? _ _ c)).trans c⟩
def OsPost (w : World) (h : Hs) (e : Ending) (w' : World) : Prop := ∃ v, e = .returned v ∧ OsAt h v w' ∧ Below w.heap.size w w'
/-- the same, and where its web lies -/
def OsF (b : Nat) (h : Hs) (v : Value) (W : World) : Prop := (¬ OkH h ∧ v = .func (.func 38) #[] #[]) ∨ (OkH h ∧ ∃ pw bn bi pc At ct ss cs, v = .func (.func 39) #[] #[.pointer (some ⟨pc, 0, none⟩)] ∧ WbC W pw bn bi At ct (graphP h) (rise h.C) ss cs ∧ W.cell? ⟨pc, 0, none⟩ = some (.pointer (some ⟨pw, 0, none⟩)) ∧ WbF b At pw bn bi ss ∧ b ≤ pc)
theorem OsF.at {b : Nat} {h : Hs} {v : Value} {W : World} (o : OsF b h v W) : OsAt h v W := by
  rcases o with o | ⟨ok, pw, bn, bi, pc, At, ct, ss, cs, e, V, c, _⟩
  · exact .inl o
  · exact .inr ⟨ok, pw, bn, bi, pc, At, ct, ss, cs, e, V, c⟩
def OsPost2 (w : World) (h : Hs) (e : Ending) (w' : World) : Prop := ∃ v, e = .returned v ∧ OsF w.heap.size h v w' ∧ Below w.heap.size w w'
set_option maxHeartbeats 8000000 in
set_option maxRecDepth 100000 in
theorem Orders_calls2 (z : HV) (w : World) (hz : z.OK w) : Calls Try.prog 22 #[mkH z] w (OsPost2 w z.h) := by
  obtain ⟨w1, hw1, B1, hz1, b0, b1⟩ := hv_box z w hz
  obtain ⟨bx, hbx⟩ : ∃ bx, bx = w.heap.size := ⟨_, rfl⟩
  have RD := read_calls z w1 hz1
  have WB := fun W base hb b2 b3 L2 L3 (B : Below w1.heap.size w1 W) hok H => web_calls z W (hz1.below B) hok (base0 := base) (hb := hb) (b2 := b2) (b3 := b3) (L2 := L2) (L3 := L3) H
  obtain ⟨A1, c1, A2, c2, h⟩ := z
  dsimp only [mkH] at *
  clear hz hz1
  replace WB := Aside0.mk WB
  go_enter Try.func22, Try.ntmps22
  go_upto_region 1 with (fail)
  rw [← hw1, ← hbx]
  rw [← hbx] at b0 b1
  clear hw1
  replace hbx := Aside0.mk hbx
  go_wp2_with fail
  refine RD.mono ?_
  rintro e w2 (⟨hno, rfl, B2⟩ | ⟨hok, base, hb, b2, b3, L2, L3, rfl, H, B2, _⟩)
  · have K : OsPost2 w h (.returned (.func (.func 38) #[] #[])) w2 := ⟨_, rfl, .inl ⟨hno, rfl⟩, below_then B1 B1.size B2⟩
    clear RD WB
    replace K := Aside0.mk K
    replace hno := Aside0.mk hno
    go_wp2
    go_ret
    exact K.out
  · have D := WB.out w2 _ _ _ _ _ _ B2 hok H
    have d0 := (B2.cell (World.block_lt_of_cell? _ _ b0)).trans b0
    have d1 := (B2.cell (World.block_lt_of_cell? _ _ b1)).trans b1
    have hlw : w.heap.size ≤ w2.heap.size := (below_then B1 B1.size B2).size
    have hBB := Aside0.mk (fun W (B : Below w2.heap.size w2 W) => below_then B1 B1.size (below_then B2 B2.size B))
    replace hok := Aside0.mk hok
    clear RD WB H b0 b1 B1 B2
    unfold WebPost at D
    go_wp2_with fail
    refine D.mono ?_
    rintro e w3 ⟨pw, bn, bi, At, ct, ss, cs, rfl, V, hlo, B3⟩
    obtain ⟨w4, hw4⟩ : ∃ w4, w4 = w3.alloc (.cells #[.pointer (some ⟨pw, 0, none⟩)] 53) := ⟨_, rfl⟩
    have g4 : w3.grownBy w4 none := by rw [hw4]; exact World.grownBy_alloc _ _ _
    have hc4 : w4.cell? ⟨w3.heap.size, 0, none⟩ = some (.pointer (some ⟨pw, 0, none⟩)) := by rw [hw4]; exact cell_of_row _ _ 0 _ 53 (0, 0) (heap_alloc_new w3 _)
    have B4 : Below w3.heap.size w3 w4 := (Below.refl _ w3).grown g4 (Nat.le_refl _) (by simp)
    have K : OsPost2 w h (.returned (.func (.func 39) #[] #[.pointer (some ⟨w3.heap.size, 0, none⟩)])) w4 := ⟨_, rfl, .inr ⟨hok.out, pw, bn, bi, w3.heap.size, At, ct, ss, cs, rfl, V.below B4, hc4, hlo.lower hlw, Nat.le_trans hlw B3.size⟩, hBB.out _ (below_then B3 B3.size B4)⟩
    rw [hw4] at K
    clear D V hc4 g4 B4 hw4 hBB w4
    replace K := Aside0.mk K
    replace B3 := Aside0.mk B3
    go_wp2
    go_ret
    exact K.out
theorem Orders_calls (z : HV) (w : World) (hz : z.OK w) : Calls Try.prog 22 #[mkH z] w (OsPost w z.h) := (Orders_calls2 z w hz).mono fun e w' ⟨v, e1, o, B⟩ => ⟨v, e1, o.at, B⟩
end Go.Proofs.Ytedcnpaomphffaa
namespace Go.Proofs.Ytedcnpaomphffaa
open Go.RowKit Go.Maps Go.Sort Go.Lib Go.Shelf Go.Proofs.YtedcnpaomphffaaW.PrintWords Go.Proofs.YtedcnpaomphffaaW.PrintLast Go.Proofs.YtedcnpaomphffaaW.PrintMore
set_option linter.unusedVariables false
set_option linter.unusedSimpArgs false
set_option linter.unusedSectionVars false
/-! ### Order -/
open Classical in
/-- the orders that Orders hands over -/
noncomputable def allH (h : Hs) : List (List Int) := if OkH h then allO (graphP h) (rise h.C) else []
open Classical in
/-- the first order -/
noncomputable def ordO (h : Hs) : Option (List Int) := if OkH h then greedy (graphP h) (rise h.C) (rise h.C).length [] else none
theorem allH_head {h : Hs} : (allH h).head? = ordO h := by
  unfold allH ordO
  by_cases hok : OkH h
  · rw [if_pos hok, if_pos hok]
    unfold allO
    have hn := rise_nodup h.C
    cases hg : greedy (graphP h) (rise h.C) (rise h.C).length [] with
    | none => rfl
    | some L =>
      rw [if_pos (show (some L).isSome = true from rfl), ← hg]
      exact (greedy_enum (greedy_topo hn _ [] L (Pre.nil _ _) (by simp) hg) hn _ [] (Pre.nil _ _) (by simp)).1.symm
  · rw [if_neg hok, if_neg hok]
    rfl
theorem Os_iter {h : Hs} {v : Value} {W : World} (o : OsAt h v W) (n : Nat) : ∃ gf lb, ∃ Good : World → Prop, v = .func (.func gf) #[] lb ∧ (∀ args w, (callFunc gf args).run Try.prog w = .ok (.enter gf args) w) ∧ Iter3 n Try.prog gf lb (Hands3 (allH h)) (fun k => k = (allH h).length) Good ∧ ∀ A, Below W.heap.size W A → Good A := by
  rcases o with ⟨hno, rfl⟩ | ⟨ok, pw, bn, bi, pc, At, ct, ss, cs, rfl, V, c⟩
  · have e : allH h = [] := if_neg hno
    rw [e]
    exact ⟨38, #[], fun _ => True, rfl, enters_of Try.func38 (by kernel_rfl) rfl, none46 n _, fun _ _ => trivial⟩
  · have e : allH h = allO (graphP h) (rise h.C) := if_pos ok
    rw [e]
    have hrn := rise_nodup_len ok.nd
    exact ⟨39, _, _, rfl, enters_of Try.func39 (by kernel_rfl) rfl, orders48 n (by rw [hrn]; exact ok.lc) (rise_nodup h.C) (fun d hd => ⟨(graph_ends ok d hd).1, (graph_ends ok d hd).2, (deps_ends ok (mem_graph.1 hd)).2.2⟩), fun A B => ⟨V.below B, (B.cell (World.block_lt_of_cell? _ _ c)).trans c⟩⟩
def OPost (w : World) (h : Hs) (e : Ending) (w' : World) : Prop := ∃ v, e = .returned (.tuple #[v, .bool (ordO h).isSome, .int .i64 (chk h)]) ∧ RowI w' w.heap.size v ((ordO h).getD []) ∧ Below w.heap.size w w'
theorem chk_no_ne {h : Hs} (hno : ¬ OkH h) : chk h = 110 := chk_no hno
attribute [local go_sem] Oper.semAt_some
theorem cells_turns {b : Nat} {A B : World} (t : Turns b A B) {p : Addr} {v : Value} (h : A.cell? p = some v) : B.cell? p = some v := by
  obtain ⟨l, o, o', hl, ho, hc, rfl⟩ := t
  exact cell_kept h (grownBy_putObj' A l o') (fun r e => by cases e; exact ⟨_, ho, hc⟩)
theorem frozen_turns {b : Nat} {A B : World} (t : Turns b A B) {p : Addr} {v : Value} (h : A.cell? p = some v) (hf : A.frozen? p = false) : B.frozen? p = false := by
  obtain ⟨l, o, o', hl, ho, hc, rfl⟩ := t
  exact (frozen_kept h (grownBy_putObj' A l o') (fun r e => by cases e; exact ⟨_, ho, hc⟩)).trans hf
theorem three_set {W : World} {b : Nat} {v1 v2 v3 : Value} (x1 x2 x3 : Value) (h1 : W.cell? ⟨b + 1, 0, none⟩ = some v1) (h2 : W.cell? ⟨b + 2, 0, none⟩ = some v2) (h3 : W.cell? ⟨b + 3, 0, none⟩ = some v3) :
    ((((W.setCell ⟨b + 1, 0, none⟩ x1).setCell ⟨b + 2, 0, none⟩ x2).setCell ⟨b + 3, 0, none⟩ x3).cell? ⟨b + 1, 0, none⟩ = some x1 ∧ (((W.setCell ⟨b + 1, 0, none⟩ x1).setCell ⟨b + 2, 0, none⟩ x2).setCell ⟨b + 3, 0, none⟩ x3).cell? ⟨b + 2, 0, none⟩ = some x2 ∧ (((W.setCell ⟨b + 1, 0, none⟩ x1).setCell ⟨b + 2, 0, none⟩ x2).setCell ⟨b + 3, 0, none⟩ x3).cell? ⟨b + 3, 0, none⟩ = some x3) := by
  refine ⟨?_, ?_, ?_⟩ <;> simp [go_sem, h1, h2, h3]
theorem three_below {W : World} {b n0 : Nat} (x1 x2 x3 : Value) (hb : n0 ≤ b + 1) : Below n0 W (((W.setCell ⟨b + 1, 0, none⟩ x1).setCell ⟨b + 2, 0, none⟩ x2).setCell ⟨b + 3, 0, none⟩ x3) :=
  (((Below.refl n0 W).setCell (p := ⟨b + 1, 0, none⟩) (by simp only; omega) x1).setCell (p := ⟨b + 2, 0, none⟩) (by simp only; omega) x2).setCell (p := ⟨b + 3, 0, none⟩) (by simp only; omega) x3
theorem res16 {V : World} {b : Nat} {x1 x2 x3 : Value} {tmps : Array Value} (t2 : tmps[2]? = some (.pointer (some ⟨b + 1, 0, none⟩))) (t3 : tmps[3]? = some (.pointer (some ⟨b + 2, 0, none⟩))) (t4 : tmps[4]? = some (.pointer (some ⟨b + 3, 0, none⟩)))
    (h1 : V.cell? ⟨b + 1, 0, none⟩ = some x1) (h2 : V.cell? ⟨b + 2, 0, none⟩ = some x2) (h3 : V.cell? ⟨b + 3, 0, none⟩ = some x3) : (results Try.f8 tmps).run Try.prog V = .ok (.tuple #[x1, x2, x3]) V := by
  simp [results, Try.f8, go_sem, h1, h2, h3, t2, t3, t4]
theorem ord_end {h : Hs} {w V : World} {D b : Nat} {x1 x2 x3 : Value} {tmps : Array Value} (t2 : tmps[2]? = some (.pointer (some ⟨b + 1, 0, none⟩))) (t3 : tmps[3]? = some (.pointer (some ⟨b + 2, 0, none⟩))) (t4 : tmps[4]? = some (.pointer (some ⟨b + 3, 0, none⟩)))
    (h1 : V.cell? ⟨b + 1, 0, none⟩ = some x1) (h2 : V.cell? ⟨b + 2, 0, none⟩ = some x2) (h3 : V.cell? ⟨b + 3, 0, none⟩ = some x3) (q : V.heap[D]? = some (.deferred (some []))) (K : ∀ B, Turns D V B → OPost w h (.returned (.tuple #[x1, x2, x3])) B) :
    bodyPostM Fence.wide 9 Try.prog Try.f8 (OPost w h) Exit.ret { tmps := tmps, defers := [{ target := .collected D, args := #[] }] } V := by
  have t : Turns D V (V.putObj D (.deferred none)) := ⟨_, _, _, Nat.le_refl _, q, rfl, rfl⟩
  refine ⟨by simp, .inl ⟨_, _, rfl, run_takeDeferred q, ?_⟩⟩
  exact ⟨_, res16 t2 t3 t4 (cells_turns t h1) (cells_turns t h2) (cells_turns t h3), K _ t⟩
set_option maxHeartbeats 8000000 in
set_option maxRecDepth 100000 in
theorem Order_calls (z : HV) (w : World) (hz : z.OK w) : Calls Try.prog 8 #[mkH z] w (OPost w z.h) := by
  obtain ⟨w1, hw1, B1, hz1, b0, b1⟩ := hv_box z w hz
  obtain ⟨bx, hbx⟩ : ∃ bx, bx = w.heap.size := ⟨_, rfl⟩
  obtain ⟨w4, hw4⟩ : ∃ w4, w4 = ((w1.alloc (.cells #[.slice none 0 0] 22)).alloc (.cells #[.bool false] 4)).alloc (.cells #[.int .i64 0] 27) := ⟨_, rfl⟩
  have B4 : Below w1.heap.size w1 w4 := by rw [hw4]; exact (((Below.refl _ w1).alloc (Nat.le_refl _) _).alloc (by simp) _).alloc (by simp [World.size_alloc]; omega) _
  have hz4 := hz1.below B4
  have CK := Check_calls z w4 hz4
  have OS := fun W (B : Below w4.heap.size w4 W) => Orders_calls z W (hz4.below B)
  have b04 := (B4.cell (World.block_lt_of_cell? _ _ b0)).trans b0
  have b14 := (B4.cell (World.block_lt_of_cell? _ _ b1)).trans b1
  have s1 : w1.heap.size = bx + 1 := by rw [hw1, hbx]; simp
  have r2 : w4.cell? ⟨bx + 1, 0, none⟩ = some (.slice none 0 0) := by rw [hw4, ← s1]; simp [go_sem]
  have r3 : w4.cell? ⟨bx + 2, 0, none⟩ = some (.bool false) := by rw [hw4, show bx + 2 = w1.heap.size + 1 by omega]; simp [go_sem]
  have r4 : w4.cell? ⟨bx + 3, 0, none⟩ = some (.int .i64 0) := by rw [hw4, show bx + 3 = w1.heap.size + 2 by omega]; simp [go_sem]
  have u2 : w4.frozen? ⟨bx + 1, 0, none⟩ = false := by rw [hw4, ← s1]; simp [go_sem]
  have u3 : w4.frozen? ⟨bx + 2, 0, none⟩ = false := by rw [hw4, show bx + 2 = w1.heap.size + 1 by omega]; simp [go_sem]
  have u4 : w4.frozen? ⟨bx + 3, 0, none⟩ = false := by rw [hw4, show bx + 3 = w1.heap.size + 2 by omega]; simp [go_sem]
  obtain ⟨A1, c1, A2, c2, h⟩ := z
  dsimp only [mkH] at *
  clear hz hz1 hz4 b0 b1
  replace OS := Aside0.mk OS
  refine (callsIn_wide (n := 9)).1 ?_
  refine callsIn_of_wp_marks Try.func8 rfl trivial ?_ rfl
  refine wpIn_wide.2 ?_
  simp only [Try.ntmps8, List.size_toArray, List.length_cons, List.length_nil, Nat.reduceAdd, Nat.reduceSub, Array.replicate_succ, Array.replicate_zero, List.push_toArray, List.append_toArray, List.nil_append, List.cons_append]
  go_upto_region 1 with (fail)
  rw [← hw1, ← hw4, ← hbx]
  rw [← hbx] at b04 b14
  clear hw1 hw4
  replace hbx := Aside0.mk hbx
  go_wp2_with fail
  refine CK.mono ?_
  rintro e w5 ⟨rfl, B5⟩
  have r25 := (B5.cell (World.block_lt_of_cell? _ _ r2)).trans r2
  have r35 := (B5.cell (World.block_lt_of_cell? _ _ r3)).trans r3
  have r45 := (B5.cell (World.block_lt_of_cell? _ _ r4)).trans r4
  have u25 := (B5.frozen (World.block_lt_of_cell? _ _ r2)).trans u2
  have u35 := (B5.frozen (World.block_lt_of_cell? _ _ r3)).trans u3
  have u45 := (B5.frozen (World.block_lt_of_cell? _ _ r4)).trans u4
  have b05 := (B5.cell (World.block_lt_of_cell? _ _ b04)).trans b04
  have b15 := (B5.cell (World.block_lt_of_cell? _ _ b14)).trans b14
  have q1 : w1.heap.size ≤ w4.heap.size := B4.size
  have BW : ∀ W, Below w1.heap.size w5 W → Below w.heap.size w W := fun W B => B1.trans (((B4.trans (B5.mono q1)).trans B).mono B1.size)
  clear CK r2 r3 r4 u2 u3 u4 b04 b14
  by_cases hok : OkH h
  · have e0 := chk_ok hok
    rw [e0]
    have O5 := OS.out w5 (B5)
    clear OS
    go_wp2_with fail
    refine O5.mono ?_
    rintro e w6 ⟨vo, rfl, OA, B6⟩
    obtain ⟨gf, lb, Good, rfl, eg, IT, HG⟩ := Os_iter OA 8
    have r26 := (B6.cell (World.block_lt_of_cell? _ _ r25)).trans r25
    have r36 := (B6.cell (World.block_lt_of_cell? _ _ r35)).trans r35
    have r46 := (B6.cell (World.block_lt_of_cell? _ _ r45)).trans r45
    have u26 := (B6.frozen (World.block_lt_of_cell? _ _ r25)).trans u25
    have u36 := (B6.frozen (World.block_lt_of_cell? _ _ r35)).trans u35
    have u46 := (B6.frozen (World.block_lt_of_cell? _ _ r45)).trans u45
    have q5 := B5.size
    have q6 := B6.size
    have BW6 : ∀ W, Below w1.heap.size w6 W → Below w.heap.size w W := fun W B => BW W ((B6.mono (by omega)).trans B)
    have r4l := World.block_lt_of_cell? _ _ r46
    simp only at r4l
    clear O5 OA BW B6 r25 r35 r45 u25 u35 u45 b05 b15 B5
    go_wp2_with fail
    refine (wpIn_wide (n := 9)).1 ?_
    refine range_law3 (n := 9) rfl eg rfl IT (fun n0 k x A B h t => h.turns t) (by omega) (fun k A => k = 0 ∧ Below w6.heap.size w6 A)
      (fun c A => c = .ret ∧ ∃ x L, ordO h = some L ∧ A.cell? ⟨bx + 1, 0, none⟩ = some x ∧ A.cell? ⟨bx + 2, 0, none⟩ = some (.bool true) ∧ A.cell? ⟨bx + 3, 0, none⟩ = some (.int .i64 0) ∧ RowI A w.heap.size x L ∧ Below w1.heap.size w6 A)
      ?hI ?hIx (fun k A h => HG A h.2) ⟨rfl, Below.refl _ _⟩ ?a1 ?assign ?body ?done ?stop
    case hI =>
      rintro k A B ⟨rfl, hA⟩ (t | t)
      · exact ⟨rfl, hA.trans (below_turns (Nat.le_refl _) t)⟩
      · exact ⟨rfl, hA.trans t⟩
    case hIx =>
      rintro c A B ⟨rfl, x, L, h1, h2, h3, h4, h5, h6⟩ t
      exact ⟨rfl, x, L, h1, cells_turns t h2, cells_turns t h3, cells_turns t h4, h5.turns t, h6.trans (below_turns (by omega) t)⟩
    case assign =>
      intro lp x W K hK
      gi_wp2
      exact hK
    case body =>
      rintro lp k n0 x W hn0 ⟨rfl, hA⟩ ⟨L, hL, hR⟩
      have c2 := (hA.cell (World.block_lt_of_cell? _ _ r26)).trans r26
      have c3 := (hA.cell (World.block_lt_of_cell? _ _ r36)).trans r36
      have c4 := (hA.cell (World.block_lt_of_cell? _ _ r46)).trans r46
      have d2 := (hA.frozen (World.block_lt_of_cell? _ _ r26)).trans u26
      have d3 := (hA.frozen (World.block_lt_of_cell? _ _ r36)).trans u36
      have d4 := (hA.frozen (World.block_lt_of_cell? _ _ r46)).trans u46
      have hOL : ordO h = some L := by rw [← allH_head, List.head?_eq_getElem?, hL]
      obtain ⟨Ax, cx, rfl, _⟩ := hR.slice
      obtain ⟨y1, y2, y3⟩ := three_set (.slice Ax L.length cx) (.bool true) (.int .i64 0) c2 c3 c4
      have yb := three_below (W := W) (b := bx) (n0 := w1.heap.size) (.slice Ax L.length cx) (.bool true) (.int .i64 0) (by omega)
      have K : ∀ V, V = ((W.setCell ⟨bx + 1, 0, none⟩ (.slice Ax L.length cx)).setCell ⟨bx + 2, 0, none⟩ (.bool true)).setCell ⟨bx + 3, 0, none⟩ (.int .i64 0) → KeepsOthers W V ∧ (∃ x L, ordO h = some L ∧ V.cell? ⟨bx + 1, 0, none⟩ = some x ∧ V.cell? ⟨bx + 2, 0, none⟩ = some (.bool true) ∧ V.cell? ⟨bx + 3, 0, none⟩ = some (.int .i64 0) ∧ RowI V w.heap.size x L ∧ Below w1.heap.size w6 V) := by
        rintro V rfl
        refine ⟨((KeepsOthers.setCell _ _ _).trans (.setCell _ _ _)).trans (.setCell _ _ _), .slice Ax L.length cx, L, hOL, y1, y2, y3, ?_, (hA.mono (by omega)).trans yb⟩
        refine Lo.lower (hR.move fun k hk => ?_) (by have := hbx.out; omega)
        have hlo := (hR.typed k hk).1
        rw [Below.heap_setCell _ _ _ k (by simp only; omega), Below.heap_setCell _ _ _ k (by simp only; omega), Below.heap_setCell _ _ _ k (by simp only; omega)]
      clear y1 y2 y3 yb hR hOL hA
      replace K := Aside0.mk K
      gi_wp2
      have K2 := K.out _ rfl
      exact ⟨K2.1, rfl, K2.2⟩
    case done =>
      rintro D k W hD rfl ⟨hk, hA⟩ hD4
      have c2 := (hA.cell (World.block_lt_of_cell? _ _ r26)).trans r26
      have c3 := (hA.cell (World.block_lt_of_cell? _ _ r36)).trans r36
      have c4 := (hA.cell (World.block_lt_of_cell? _ _ r46)).trans r46
      have d2 := (hA.frozen (World.block_lt_of_cell? _ _ r26)).trans u26
      have d3 := (hA.frozen (World.block_lt_of_cell? _ _ r36)).trans u36
      have d4 := (hA.frozen (World.block_lt_of_cell? _ _ r46)).trans u46
      have hOL : ordO h = none := by rw [← allH_head, List.eq_nil_of_length_eq_zero hk]; rfl
      obtain ⟨y1, y2, y3⟩ := three_set (.slice none 0 0) (.bool false) (.int .i64 0) c2 c3 c4
      have yb := three_below (W := W) (b := bx) (n0 := w1.heap.size) (.slice none 0 0) (.bool false) (.int .i64 0) (by omega)
      have q : ∀ V, V = (((W.setCell ⟨bx + 1, 0, none⟩ (.slice none 0 0)).setCell ⟨bx + 2, 0, none⟩ (.bool false)).setCell ⟨bx + 3, 0, none⟩ (.int .i64 0)) → V.heap[D]? = some (.deferred (some [])) := by
        rintro V rfl
        rw [Below.heap_setCell _ _ _ D (by simp only; omega), Below.heap_setCell _ _ _ D (by simp only; omega), Below.heap_setCell _ _ _ D (by simp only; omega), hD4]
      have K : ∀ V, V = (((W.setCell ⟨bx + 1, 0, none⟩ (.slice none 0 0)).setCell ⟨bx + 2, 0, none⟩ (.bool false)).setCell ⟨bx + 3, 0, none⟩ (.int .i64 0)) → ∀ B, Turns D V B → OPost w h (.returned (.tuple #[.slice none 0 0, .bool false, .int .i64 0])) B := by
        rintro V rfl B t
        exact ⟨_, by rw [e0, hOL]; rfl, by rw [hOL]; exact Lo.nil _ _, BW6 B (((hA.mono (by omega)).trans yb).trans (below_turns (by omega) t))⟩
      clear hA hD4
      replace K := Aside0.mk K
      replace q := Aside0.mk q
      go_wp2
      exact ord_end rfl rfl rfl y1 y2 y3 (q.out _ rfl) (K.out _ rfl)
    case stop =>
      rintro D c W hD ⟨rfl, x, L, h1, h2, h3, h4, h5, h6⟩ hD4
      refine wpIn_wide.2 ?_
      go_wp2
      refine ord_end (by rfl) (by rfl) (by rfl) h2 h3 h4 hD4 fun B t => ?_
      exact ⟨_, by rw [e0, h1]; rfl, by rw [h1]; exact h5.turns t, BW6 B (h6.trans (below_turns (by omega) t))⟩
  · have e0 := chk_no hok
    have eo : ordO h = none := if_neg hok
    rw [e0]
    have K : ∀ W, Below w1.heap.size w5 W → OPost w h (.returned (.tuple #[.slice none 0 0, .bool false, .int .i64 110])) W := fun W B => ⟨_, by rw [e0, eo]; rfl, by rw [eo]; exact Lo.nil _ _, BW W B⟩
    clear BW OS
    replace K := Aside0.mk K
    replace hok := Aside0.mk hok
    go_wp2
    obtain ⟨y1, y2, y3⟩ := three_set (.slice none 0 0) (.bool false) (.int .i64 110) r25 r35 r45
    have yb := three_below (W := w5) (b := bx) (n0 := w1.heap.size) (.slice none 0 0) (.bool false) (.int .i64 110) (by omega)
    refine ⟨_, res16 rfl rfl rfl y1 y2 y3, K.out _ yb⟩
end Go.Proofs.Ytedcnpaomphffaa
namespace Go.Proofs.Ytedcnpaomphffaa
open Go.RowKit Go.Maps Go.Sort Go.Lib Go.Shelf Go.Proofs.YtedcnpaomphffaaW.PrintWords Go.Proofs.YtedcnpaomphffaaW.PrintLast Go.Proofs.YtedcnpaomphffaaW.PrintMore
set_option linter.unusedVariables false
set_option linter.unusedSimpArgs false
set_option linter.unusedSectionVars false
/-! ### slices.Equal of alike lists -/
theorem neD (y : Dp) (w : World) : (binOp .neq 64 (mkD y) (mkD y)).run Try.prog w = .ok (.bool false) w := by
  have u3 := Try.underlying3
  have a3 := Try.isAgg3
  have z3 := Try.sizeOf3
  have u30 := Try.underlying63
  have hS : Try.prog.underlying 64 = some (.struct (Try.prog.fieldsOf 64)) := by kernel_rfl
  have hp : Try.prog.stoodInHeld 64 = false := by kernel_rfl
  rw [run_neq_struct, show (10000 : Nat) = 9999 + 1 from rfl, run_equalIn_agg w 9999 64 _ _ hS hp]
  simp only [Program.fieldsOf, Try.underlying64]
  go_simp
theorem neA (y : Ac) (w : World) : (binOp .neq 40 (mkA y) (mkA y)).run Try.prog w = .ok (.bool false) w := by
  have u3 := Try.underlying3
  have a3 := Try.isAgg3
  have z3 := Try.sizeOf3
  have u4 := Try.underlying4
  have a4 := Try.isAgg4
  have z4 := Try.sizeOf4
  have hS : Try.prog.underlying 40 = some (.struct (Try.prog.fieldsOf 40)) := by kernel_rfl
  have hp : Try.prog.stoodInHeld 40 = false := by kernel_rfl
  rw [run_neq_struct, show (10000 : Nat) = 9999 + 1 from rfl, run_equalIn_agg w 9999 40 _ _ hS hp]
  simp only [Program.fieldsOf, Try.underlying40]
  go_simp
def EJI (w : World) (A B : Option Addr) (xs : List Int) (iv : Value) (wr : World) : Prop := ∃ j : Nat, j ≤ xs.length ∧ iv = .int .i64 j ∧ dI.C wr A xs.length xs ∧ dI.C wr B xs.length xs ∧ Below w.heap.size w wr
set_option maxHeartbeats 4000000 in
set_option maxRecDepth 100000 in
theorem EqI_calls (A B : Option Addr) (c d : Nat) (xs : List Int) (w : World) (h1 : dI.C w A xs.length xs) (h2 : dI.C w B xs.length xs) (hl : xs.length ≤ 9223372036854775807) :
    Calls Try.prog 17 #[.slice A xs.length c, .slice B xs.length d] w fun e w' => e = .returned (.bool true) ∧ Below w.heap.size w w' := by
  go_enter Try.func17, Try.ntmps17
  go_wp2_with fail
  go_loopw [5, 13] (fun _ iv wr => EJI w A B xs iv wr) (fun _ iv _ => xs.length - (intOf iv).toNat)
  case atStart => exact ⟨0, Nat.zero_le _, rfl, h1, h2, Below.refl _ _⟩
  case round =>
    clear h1 h2
    obtain ⟨j, hj, rfl, h1, h2, hb⟩ := hrel
    by_cases hjl : j < xs.length
    · obtain ⟨ad, rfl, y0⟩ := CI_at h1 j hjl
      obtain ⟨bd, rfl, z0⟩ := CI_at h2 j hjl
      generalize xs[j] = x at y0 z0
      have D := (Below.refl wr.heap.size wr).grown (drewG wr) (Nat.le_refl _) (by simp)
      have fin : EJI w (some ad) (some bd) xs (.int .i64 ((j : Int) + 1)) wr.drew := ⟨j + 1, by omega, by simp, Kd.C_below h1 D, Kd.C_below h2 D, hb.grown (drewG wr) hb.size (by simp)⟩
      skip
      have i0 : (0 : Int) ≤ (j : Int) := by omega
      have i1 : (j : Int) < (xs.length : Int) := by omega
      have i2 : IntKind.i64.wrap ((j : Int) + 1) = (j : Int) + 1 := IntWalk.i64_in _ (by omega)
      clear h1 h2 hb D
      replace fin := Aside0.mk fin
      go_wp2_with fail
      go_region_held3 (fun W => W.cell? (ad.add j) = some (.int .i64 x) ∧ W.cell? (bd.add j) = some (.int .i64 x)) (exact ⟨y0, z0⟩) (fail)
      go_wp2
      refine ⟨fin.out, ?_⟩
      simp [intOf]
      omega
    · obtain rfl : j = xs.length := by omega
      clear h1 h2
      go_wp2
      go_ret
      exact ⟨rfl, hb⟩
def EJD (w : World) (A B : Option Addr) (xs : List Dp) (iv : Value) (wr : World) : Prop := ∃ j : Nat, j ≤ xs.length ∧ iv = .int .i64 j ∧ dD.C wr A xs.length xs ∧ dD.C wr B xs.length xs ∧ Below w.heap.size w wr
def EJA (w : World) (A B : Option Addr) (xs : List Ac) (iv : Value) (wr : World) : Prop := ∃ j : Nat, j ≤ xs.length ∧ iv = .int .i64 j ∧ dA.C wr A xs.length xs ∧ dA.C wr B xs.length xs ∧ Below w.heap.size w wr
end Go.Proofs.Ytedcnpaomphffaa
