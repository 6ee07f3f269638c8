import Derived.Test.YtedcnpaomphffaaMC
namespace Go.Proofs.Ytedcnpaomphffaa
open Go.RowKit Go.Maps Go.Sort Go.Lib Go.Proofs.YtedcnpaomphffaaW.PrintWords Go.Proofs.YtedcnpaomphffaaW.PrintLast Go.Proofs.YtedcnpaomphffaaW.PrintMore
set_option linter.unusedVariables false
set_option linter.unusedSimpArgs false
set_option linter.unusedSectionVars false
/-! ### the document's Order -/
/-- may a number come next? -/
def mayN (g : List Dp) (done : List Int) (n : Int) : Bool := !decide (n ∈ done) && freeB g done n
/-- the least so far that may come next; 0: none -/
def BestOf (g : List Dp) (done l : List Int) (b : Int) : Prop := (b = 0 ∧ ∀ n ∈ l, mayN g done n = false) ∨ (b ∈ l ∧ mayN g done b = true ∧ ∀ n ∈ l, mayN g done n = true → b ≤ n)
theorem BestOf.nil (g : List Dp) (done : List Int) : BestOf g done [] 0 := .inl ⟨rfl, by simp⟩
theorem BestOf.skip {g : List Dp} {done l : List Int} {b n : Int} (h : BestOf g done l b) (hn : mayN g done n = false ∨ (b ≠ 0 ∧ b ≤ n)) (hb : b = 0 → mayN g done n = false) : BestOf g done (l ++ [n]) b := by
  rcases h with ⟨rfl, h⟩ | ⟨h1, h2, h3⟩
  · refine .inl ⟨rfl, fun m hm => ?_⟩
    rcases List.mem_append.1 hm with hm | hm
    · exact h m hm
    · rw [List.mem_singleton.1 hm]; exact hb rfl
  · refine .inr ⟨List.mem_append_left _ h1, h2, fun m hm hmay => ?_⟩
    rcases List.mem_append.1 hm with hm | hm
    · exact h3 m hm hmay
    · rw [List.mem_singleton.1 hm] at hmay ⊢
      rcases hn with e | e
      · rw [e] at hmay; cases hmay
      · exact e.2
theorem BestOf.take {g : List Dp} {done l : List Int} {b n : Int} (h : BestOf g done l b) (hn : mayN g done n = true) (hb : b = 0 ∨ n < b) (hp : ∀ m ∈ l, 1 ≤ m) : BestOf g done (l ++ [n]) n := by
  refine .inr ⟨by simp, hn, fun m hm hmay => ?_⟩
  rcases List.mem_append.1 hm with hm | hm
  · rcases h with ⟨_, h⟩ | ⟨h1, _, h3⟩
    · rw [h m hm] at hmay; cases hmay
    · have := h3 m hm hmay
      have := hp b h1
      omega
  · rw [List.mem_singleton.1 hm]; exact Int.le_refl _
theorem BestOf.cand {g : List Dp} {done C names : List Int} {b : Int} (h : BestOf g done C b) (hp : ∀ m ∈ C, 1 ≤ m) (hs : names.Pairwise (· < ·)) (hm : ∀ z, z ∈ names ↔ z ∈ C) : (b = 0 ∧ cand g names done = []) ∨ (b ≠ 0 ∧ ∃ t, Ytedcnpaomphffaa.cand g names done = b :: t) := by
  have hc : Ytedcnpaomphffaa.cand g names done = names.filter (fun n => mayN g done n) := rfl
  rcases h with ⟨rfl, h⟩ | ⟨h1, h2, h3⟩
  · refine .inl ⟨rfl, ?_⟩
    rw [hc, List.filter_eq_nil_iff]
    intro n hn
    rw [h n ((hm n).1 hn)]
    decide
  · refine .inr ⟨by have := hp b h1; omega, ?_⟩
    have hb : b ∈ Ytedcnpaomphffaa.cand g names done := by rw [hc]; exact List.mem_filter.2 ⟨(hm b).2 h1, h2⟩
    have hs2 : (Ytedcnpaomphffaa.cand g names done).Pairwise (· < ·) := by rw [hc]; exact hs.filter _
    cases hl : Ytedcnpaomphffaa.cand g names done with
    | nil => rw [hl] at hb; cases hb
    | cons x t =>
      rw [hl] at hb hs2
      have hx : x ∈ Ytedcnpaomphffaa.cand g names done := by rw [hl]; exact List.mem_cons_self
      rw [hc, List.mem_filter] at hx
      have h4 := h3 x ((hm x).1 hx.1) hx.2
      rcases List.mem_cons.1 hb with rfl | hb
      · exact ⟨t, rfl⟩
      · have := (List.pairwise_cons.1 hs2).1 b hb
        omega
theorem rise_nodup_len {C : List Int} (h : C.Nodup) : (rise C).length = C.length := by
  have hr := rise_spec C
  have hn : (rise C).Nodup := by
    rw [List.nodup_iff_pairwise_ne]
    exact hr.1.imp (fun h => by omega)
  have h1 := sub_le hn (fun n hn => (hr.2 n).1 hn)
  have h2 := sub_le h (fun n hn => (hr.2 n).2 hn)
  omega
theorem rise_nodup (C : List Int) : (rise C).Nodup := by
  rw [List.nodup_iff_pairwise_ne]
  exact (rise_spec C).1.imp (fun h => by omega)
def OrO (w : World) (g : List Dp) (names : List Int) (n : Nat) (v5 : Value) (wr : World) : Prop := ∃ done, RowI wr w.heap.size v5 done ∧ done.length ≤ n ∧ greedy g names n [] = greedy g names (n - done.length) done ∧ Below w.heap.size w wr
def OrI (w : World) (g : List Dp) (done C : List Int) (v6 v7 : Value) (wr : World) : Prop := ∃ (i : Nat) (b : Int), v7 = .int .i64 (i : Int) ∧ i ≤ C.length ∧ v6 = .int .i64 b ∧ BestOf g done (C.take i) b ∧ wr = w
def OrdPost (w : World) (o : Option (List Int)) (e : Ending) (w' : World) : Prop := (∃ v L, o = some L ∧ e = .returned (.tuple #[v, .bool true]) ∧ RowI w' w.heap.size v L ∧ Below w.heap.size w w') ∨ (o = none ∧ e = .returned (.tuple #[.slice none 0 0, .bool false]) ∧ Below w.heap.size w w')
def lenOf : Value → Nat
  | .slice _ n _ => n
  | _ => 0
end Go.Proofs.Ytedcnpaomphffaa
namespace Go.Proofs.Ytedcnpaomphffaa
open Go.RowKit Go.Maps Go.Sort Go.Lib Go.Proofs.YtedcnpaomphffaaW.PrintWords Go.Proofs.YtedcnpaomphffaaW.PrintLast Go.Proofs.YtedcnpaomphffaaW.PrintMore
set_option linter.unusedVariables false
set_option linter.unusedSimpArgs false
set_option linter.unusedSectionVars false
/-! ### Ordered, Serial -/
def Ordd (C order : List Int) : Prop := order.length = C.length ∧ ∀ i (hi : i < order.length), order[i] ∈ C ∧ plc order order[i] = (i : Int)
open Classical in
noncomputable def ordB (C order : List Int) : Bool := decide (Ordd C order)
open Classical in
theorem ordB_no {C order : List Int} (h : ¬ Ordd C order) : ordB C order = false := decide_eq_false h
open Classical in
theorem ordB_yes {C order : List Int} (h : Ordd C order) : ordB C order = true := decide_eq_true h
def OdJ (w : World) (C order : List Int) (v5 : Value) (wr : World) : Prop := ∃ i : Nat, v5 = .int .i64 (i : Int) ∧ i ≤ order.length ∧ (∀ k (hk : k < order.length), k < i → order[k] ∈ C ∧ plc order order[k] = (k : Int)) ∧ Below w.heap.size w wr
set_option maxHeartbeats 8000000 in
set_option maxRecDepth 100000 in
theorem ROrdered_calls (z : HV) (Ao : Option Addr) (co : Nat) (order : List Int) (w : World) (hz : z.OK w) (ho : dI.C w Ao order.length order) (hl : order.length ≤ 17592186044416) :
    Calls Try.prog 14 #[mkH z, .slice Ao order.length co] w fun e w' => e = .returned (.bool (ordB z.h.C order)) ∧ Below w.heap.size w w' := by
  obtain ⟨A1, c1, A2, c2, h⟩ := z
  obtain ⟨w1, hw1, B1, hz1, b0, b1⟩ := hv_box _ w hz
  obtain ⟨bx, hbx⟩ : ∃ bx, bx = w.heap.size := ⟨_, rfl⟩
  have PL := fun W (B : Below w1.heap.size w1 W) x => place_calls _ x W (hz1.below B)
  have oC := Kd.C_below ho B1
  have hlC := hz.lc
  dsimp only [mkH] at hw1 b0 b1 PL hlC ⊢
  clear hz hz1 ho
  by_cases hlen : order.length = h.C.length
  · have J0 : OdJ w1 h.C order (.int .i64 0) w1 := ⟨0, rfl, Nat.zero_le _, fun _ _ h => by omega, Below.refl _ _⟩
    have hne : ((order.length : Int) != (h.C.length : Int)) = false := by simp [hlen]
    replace hlen := Aside0.mk hlen
    go_enter Try.func14, Try.ntmps14
    go_upto_region 1 with (fail)
    rw [← hw1, ← hbx]
    rw [← hbx] at b0 b1
    clear hw1
    replace hbx := Aside0.mk hbx
    go_wp2_with fail
    go_loopw [5] (fun v5 wr => OdJ w1 h.C order v5 wr) (fun v5 _ => order.length - (intOf v5).toNat)
    case atStart => exact J0
    case round =>
      clear J0
      obtain ⟨i, rfl, hi, hb, B⟩ := hrel
      have d0 := up_below B b0
      have d1 := up_below B b1
      by_cases hlt : i < order.length
      · obtain ⟨ad, rfl, q0⟩ := CI_at (Kd.C_below oC B) i hlt
        have PL2 := PL wr.drew (below_then B B.size (drewB wr 1)) order[i]
        have hil : (i : Int) < (order.length : Int) := by omega
        have BD := drewB wr 1
        by_cases hc : order[i] ∈ h.C
        · have hp := plc_nonneg.2 hc
          have dp : decide (plc h.C order[i] < 0) = false := decide_eq_false (by omega)
          have AT := fun W (B' : Below wr.drew.heap.size wr.drew W) => at_calls (some ad) co order order[i] W (Kd.C_below oC (below_then (below_then B B.size (drewB wr 1)) (below_then B B.size (drewB wr 1)).size B')) (by omega)
          generalize plc h.C order[i] = pv at PL2 hp dp
          by_cases he : plc order order[i] = (i : Int)
          · have fin : ∀ W, Below wr.heap.size wr W → OdJ w1 h.C order (.int .i64 ((i : Int) + 1)) W := fun W BW => ⟨i + 1, by simp, by omega, fun k hk hki => by
              rcases Nat.lt_or_ge k i with h2 | h2
              · exact hb k hk h2
              · obtain rfl : k = i := by omega
                exact ⟨hc, he⟩, below_then B B.size BW⟩
            rw [he] at AT
            generalize order[i] = x at q0 PL2 AT
            clear hb PL he hc oC
            replace fin := Aside0.mk fin
            replace hp := Aside0.mk hp
            go_wp2_with fail
            refine start_ (n := 17) (S := fun w' => w'.cell? ⟨bx, 0, none⟩ = some (.slice A1 h.C.length c1) ∧ w'.cell? ⟨bx, 1, none⟩ = some (.slice A2 h.A.length c2) ∧ w'.cell? (ad.add i) = some (.int .i64 x)) (ds := []) #[false, false, false, false, false, false, false, false, false, false, false, false, false, false, false, false, false] (by kernel_rfl) rfl rfl ⟨d0, d1, q0⟩ (fun hHeld => ?_)
            refine pure_ (i := 1) (N := some 19) (v := ?_) (a' := ?_) #[false, true, false, false, false, false, false, false, false, false, false, false, false, false, false, false, false] rfl rfl (by kernel_rfl) (fun _ _ _ h => h) (Or.inl ⟨by rfl, ?_⟩) ?_ ?_
            rotate_left
            · intro w'
              go_simp
              with_reducible rfl
            rotate_left
            · simp only [Act.put, List.setIfInBounds_toArray, List.set_cons_zero, List.set_cons_succ, i64_w, i32_w]
              rfl
            refine pure_ (i := 2) (N := some 20) (v := ?_) (a' := ?_) #[false, true, true, false, false, false, false, false, false, false, false, false, false, false, false, false, false] rfl rfl (by kernel_rfl) (fun _ _ _ h => h) (Or.inl ⟨by rfl, ?_⟩) ?_ ?_
            rotate_left
            · intro w'
              go_simp
              with_reducible rfl
            rotate_left
            · simp only [Act.put, List.setIfInBounds_toArray, List.set_cons_zero, List.set_cons_succ, i64_w, i32_w]
              rfl
            refine pure_ (i := 3) (N := some 21) (v := ?_) (a' := ?_) #[false, true, true, true, false, false, false, false, false, false, false, false, false, false, false, false, false] rfl rfl (by kernel_rfl) (fun _ _ _ h => h) (Or.inl ⟨by rfl, ?_⟩) ?_ ?_
            rotate_left
            · intro w'
              go_simp
              with_reducible rfl
            rotate_left
            · simp only [Act.put, List.setIfInBounds_toArray, List.set_cons_zero, List.set_cons_succ, i64_w, i32_w]
              rfl
            refine take_ (i := 0) (N := some 18) (v := ?_) (a' := ?_) #[true, true, true, true, false, false, false, false, false, false, false, false, false, false, false, false, false] rfl rfl (by kernel_rfl) (fun _ _ _ h => h) (Or.inl ⟨by rfl, ?_⟩) hHeld ?_ ?_
            rotate_left
            · rintro w' ⟨s0, s1, s2⟩
              go_simp
              with_reducible rfl
            rotate_left
            · simp only [Act.put, List.setIfInBounds_toArray, List.set_cons_zero, List.set_cons_succ, i64_w, i32_w]
              rfl
            refine take_ (i := 4) (N := some 22) (v := ?_) (a' := ?_) #[true, true, true, true, true, false, false, false, false, false, false, false, false, false, false, false, false] rfl rfl (by kernel_rfl) (fun _ _ _ h => h) (Or.inl ⟨by rfl, ?_⟩) hHeld ?_ ?_
            rotate_left
            · rintro w' ⟨s0, s1, s2⟩
              go_simp
              with_reducible rfl
            rotate_left
            · simp only [Act.put, List.setIfInBounds_toArray, List.set_cons_zero, List.set_cons_succ, i64_w, i32_w]
              rfl
            refine one_ (i := 5) (N := some 23) #[true, true, true, true, true, true, false, false, false, false, false, false, false, false, false, false, false] rfl rfl (by kernel_rfl) (by decide) (fun K hK => ?_)
            refine goes_ Try.func18 (by kernel_rfl) rfl #[.agg #[.slice A1 h.C.length c1, .slice A2 h.A.length c2], .int .i64 x] (by rfl) rfl rfl (by simp only [List.map_toArray, List.map_cons, List.map_nil]; rfl) ?_
            with_reducible refine (PL2).mono ?_
            rintro e w3 ⟨rfl, B9⟩
            refine ⟨_, rfl, ?_⟩
            refine hK.out _ _ ⟨up_below B9 hHeld.1, up_below B9 hHeld.2.1, up_below B9 hHeld.2.2⟩ (fun hHeld => ?_)
            clear hK K
            refine norm_ (a' := ?_) ?_ ?_
            rotate_left
            · show Act.put _ (some 23) _ = _
              simp only [Act.put, List.setIfInBounds_toArray, List.set_cons_zero, List.set_cons_succ, i64_w, i32_w]
              rfl
            refine pure_ (i := 6) (N := some 24) (v := ?_) (a' := ?_) #[true, true, true, true, true, true, true, false, false, false, false, false, false, false, false, false, false] rfl rfl (by kernel_rfl) (fun _ _ _ h => h) (Or.inl ⟨by rfl, ?_⟩) ?_ ?_
            rotate_left
            · intro w'
              go_simp
              with_reducible rfl
            rotate_left
            · simp only [Act.put, List.setIfInBounds_toArray, List.set_cons_zero, List.set_cons_succ, i64_w, i32_w]
              rfl
            refine pure_ (i := 7) (N := some 25) (v := ?_) (a' := ?_) #[true, true, true, true, true, true, true, true, false, false, false, false, false, false, false, false, false] rfl rfl (by kernel_rfl) (fun _ _ _ h => h) (Or.inl ⟨by rfl, ?_⟩) ?_ ?_
            rotate_left
            · intro w'
              go_simp
              with_reducible rfl
            rotate_left
            · simp only [Act.put, List.setIfInBounds_toArray, List.set_cons_zero, List.set_cons_succ, i64_w, i32_w]
              rfl
            refine pure_ (i := 8) (N := some 26) (v := ?_) (a' := ?_) #[true, true, true, true, true, true, true, true, true, false, false, false, false, false, false, false, false] rfl rfl (by kernel_rfl) (fun _ _ _ h => h) (Or.inl ⟨by rfl, ?_⟩) ?_ ?_
            rotate_left
            · intro w'
              go_simp
              with_reducible rfl
            rotate_left
            · simp only [Act.put, List.setIfInBounds_toArray, List.set_cons_zero, List.set_cons_succ, i64_w, i32_w]
              rfl
            refine pure_ (i := 9) (N := some 27) (v := ?_) (a' := ?_) #[true, true, true, true, true, true, true, true, true, true, false, false, false, false, false, false, false] rfl rfl (by kernel_rfl) (fun _ _ _ h => h) (Or.inl ⟨by rfl, ?_⟩) ?_ ?_
            rotate_left
            · intro w'
              go_simp
              with_reducible rfl
            rotate_left
            · simp only [Act.put, List.setIfInBounds_toArray, List.set_cons_zero, List.set_cons_succ, i64_w, i32_w]
              rfl
            refine pure_ (i := 10) (N := some 28) (v := ?_) (a' := ?_) #[true, true, true, true, true, true, true, true, true, true, true, false, false, false, false, false, false] rfl rfl (by kernel_rfl) (fun _ _ _ h => h) (Or.inl ⟨by rfl, ?_⟩) ?_ ?_
            rotate_left
            · intro w'
              go_simp
              with_reducible rfl
            rotate_left
            · simp only [Act.put, List.setIfInBounds_toArray, List.set_cons_zero, List.set_cons_succ, i64_w, i32_w]
              rfl
            refine pure_ (i := 11) (N := some 29) (v := ?_) (a' := ?_) #[true, true, true, true, true, true, true, true, true, true, true, true, false, false, false, false, false] rfl rfl (by kernel_rfl) (fun _ _ _ h => h) (Or.inl ⟨by rfl, ?_⟩) ?_ ?_
            rotate_left
            · intro w'
              go_simp
              with_reducible rfl
            rotate_left
            · simp only [Act.put, List.setIfInBounds_toArray, List.set_cons_zero, List.set_cons_succ, i64_w, i32_w]
              rfl
            refine pure_ (i := 14) (N := some 32) (v := ?_) (a' := ?_) #[true, true, true, true, true, true, true, true, true, true, true, true, false, false, true, false, false] rfl rfl (by kernel_rfl) (fun _ _ _ h => h) (Or.inl ⟨by rfl, ?_⟩) ?_ ?_
            rotate_left
            · intro w'
              go_simp
              with_reducible rfl
            rotate_left
            · simp only [Act.put, List.setIfInBounds_toArray, List.set_cons_zero, List.set_cons_succ, i64_w, i32_w]
              rfl
            refine take_ (i := 12) (N := some 30) (v := ?_) (a' := ?_) #[true, true, true, true, true, true, true, true, true, true, true, true, true, false, true, false, false] rfl rfl (by kernel_rfl) (fun _ _ _ h => h) (Or.inl ⟨by rfl, ?_⟩) hHeld ?_ ?_
            rotate_left
            · rintro w' ⟨s0, s1, s2⟩
              go_simp
              with_reducible rfl
            rotate_left
            · simp only [Act.put, List.setIfInBounds_toArray, List.set_cons_zero, List.set_cons_succ, i64_w, i32_w]
              rfl
            refine one_ (i := 13) (N := some 31) #[true, true, true, true, true, true, true, true, true, true, true, true, true, true, true, false, false] rfl rfl (by kernel_rfl) (by decide) (fun K hK => ?_)
            refine goes_ Try.func36 (by kernel_rfl) rfl #[.slice (some ad) order.length co, .int .i64 x] (by rfl) rfl rfl (by simp only [List.map_toArray, List.map_cons, List.map_nil]; rfl) ?_
            with_reducible refine (AT _ B9).mono ?_
            rintro e w4 ⟨rfl, rfl⟩
            refine ⟨_, rfl, ?_⟩
            refine hK.out _ _ ⟨hHeld.1, hHeld.2.1, hHeld.2.2⟩ (fun hHeld => ?_)
            clear hK K
            refine norm_ (a' := ?_) ?_ ?_
            rotate_left
            · show Act.put _ (some 31) _ = _
              simp only [Act.put, List.setIfInBounds_toArray, List.set_cons_zero, List.set_cons_succ, i64_w, i32_w]
              rfl
            refine pure_ (i := 15) (N := some 33) (v := ?_) (a' := ?_) #[true, true, true, true, true, true, true, true, true, true, true, true, true, true, true, true, false] rfl rfl (by kernel_rfl) (fun _ _ _ h => h) (Or.inl ⟨by rfl, ?_⟩) ?_ ?_
            rotate_left
            · intro w'
              go_simp
              with_reducible rfl
            rotate_left
            · simp only [Act.put, List.setIfInBounds_toArray, List.set_cons_zero, List.set_cons_succ, i64_w, i32_w]
              rfl
            refine pure_ (i := 16) (N := some 34) (v := ?_) (a' := ?_) #[true, true, true, true, true, true, true, true, true, true, true, true, true, true, true, true, true] rfl rfl (by kernel_rfl) (fun _ _ _ h => h) (Or.inl ⟨by rfl, ?_⟩) ?_ ?_
            rotate_left
            · intro w'
              go_simp
              with_reducible rfl
            rotate_left
            · simp only [Act.put, List.setIfInBounds_toArray, List.set_cons_zero, List.set_cons_succ, i64_w, i32_w]
              rfl
            refine done_ (by kernel_rfl) ?_
            have F := fin.out _ (below_then BD BD.size B9)
            clear hHeld d0 d1 q0
            replace F := Aside0.mk F
            go_wp2
            refine ⟨F.out, ?_⟩
            simp [intOf]
            omega
          · have hno : ordB h.C order = false := ordB_no (fun k => he (k.2 i hlt).2)
            have he' : (plc order order[i] != (i : Int)) = true := by simpa using he
            generalize plc order order[i] = pw at AT he'
            generalize order[i] = x at q0 PL2 AT
            clear hb PL he hc oC
            replace hno := Aside0.mk hno
            replace hp := Aside0.mk hp
            go_wp2_with fail
            refine start_ (n := 17) (S := fun w' => w'.cell? ⟨bx, 0, none⟩ = some (.slice A1 h.C.length c1) ∧ w'.cell? ⟨bx, 1, none⟩ = some (.slice A2 h.A.length c2) ∧ w'.cell? (ad.add i) = some (.int .i64 x)) (ds := []) #[false, false, false, false, false, false, false, false, false, false, false, false, false, false, false, false, false] (by kernel_rfl) rfl rfl ⟨d0, d1, q0⟩ (fun hHeld => ?_)
            refine pure_ (i := 1) (N := some 19) (v := ?_) (a' := ?_) #[false, true, false, false, false, false, false, false, false, false, false, false, false, false, false, false, false] rfl rfl (by kernel_rfl) (fun _ _ _ h => h) (Or.inl ⟨by rfl, ?_⟩) ?_ ?_
            rotate_left
            · intro w'
              go_simp
              with_reducible rfl
            rotate_left
            · simp only [Act.put, List.setIfInBounds_toArray, List.set_cons_zero, List.set_cons_succ, i64_w, i32_w]
              rfl
            refine pure_ (i := 2) (N := some 20) (v := ?_) (a' := ?_) #[false, true, true, false, false, false, false, false, false, false, false, false, false, false, false, false, false] rfl rfl (by kernel_rfl) (fun _ _ _ h => h) (Or.inl ⟨by rfl, ?_⟩) ?_ ?_
            rotate_left
            · intro w'
              go_simp
              with_reducible rfl
            rotate_left
            · simp only [Act.put, List.setIfInBounds_toArray, List.set_cons_zero, List.set_cons_succ, i64_w, i32_w]
              rfl
            refine pure_ (i := 3) (N := some 21) (v := ?_) (a' := ?_) #[false, true, true, true, false, false, false, false, false, false, false, false, false, false, false, false, false] rfl rfl (by kernel_rfl) (fun _ _ _ h => h) (Or.inl ⟨by rfl, ?_⟩) ?_ ?_
            rotate_left
            · intro w'
              go_simp
              with_reducible rfl
            rotate_left
            · simp only [Act.put, List.setIfInBounds_toArray, List.set_cons_zero, List.set_cons_succ, i64_w, i32_w]
              rfl
            refine take_ (i := 0) (N := some 18) (v := ?_) (a' := ?_) #[true, true, true, true, false, false, false, false, false, false, false, false, false, false, false, false, false] rfl rfl (by kernel_rfl) (fun _ _ _ h => h) (Or.inl ⟨by rfl, ?_⟩) hHeld ?_ ?_
            rotate_left
            · rintro w' ⟨s0, s1, s2⟩
              go_simp
              with_reducible rfl
            rotate_left
            · simp only [Act.put, List.setIfInBounds_toArray, List.set_cons_zero, List.set_cons_succ, i64_w, i32_w]
              rfl
            refine take_ (i := 4) (N := some 22) (v := ?_) (a' := ?_) #[true, true, true, true, true, false, false, false, false, false, false, false, false, false, false, false, false] rfl rfl (by kernel_rfl) (fun _ _ _ h => h) (Or.inl ⟨by rfl, ?_⟩) hHeld ?_ ?_
            rotate_left
            · rintro w' ⟨s0, s1, s2⟩
              go_simp
              with_reducible rfl
            rotate_left
            · simp only [Act.put, List.setIfInBounds_toArray, List.set_cons_zero, List.set_cons_succ, i64_w, i32_w]
              rfl
            refine one_ (i := 5) (N := some 23) #[true, true, true, true, true, true, false, false, false, false, false, false, false, false, false, false, false] rfl rfl (by kernel_rfl) (by decide) (fun K hK => ?_)
            refine goes_ Try.func18 (by kernel_rfl) rfl #[.agg #[.slice A1 h.C.length c1, .slice A2 h.A.length c2], .int .i64 x] (by rfl) rfl rfl (by simp only [List.map_toArray, List.map_cons, List.map_nil]; rfl) ?_
            with_reducible refine (PL2).mono ?_
            rintro e w3 ⟨rfl, B9⟩
            refine ⟨_, rfl, ?_⟩
            refine hK.out _ _ ⟨up_below B9 hHeld.1, up_below B9 hHeld.2.1, up_below B9 hHeld.2.2⟩ (fun hHeld => ?_)
            clear hK K
            refine norm_ (a' := ?_) ?_ ?_
            rotate_left
            · show Act.put _ (some 23) _ = _
              simp only [Act.put, List.setIfInBounds_toArray, List.set_cons_zero, List.set_cons_succ, i64_w, i32_w]
              rfl
            refine pure_ (i := 6) (N := some 24) (v := ?_) (a' := ?_) #[true, true, true, true, true, true, true, false, false, false, false, false, false, false, false, false, false] rfl rfl (by kernel_rfl) (fun _ _ _ h => h) (Or.inl ⟨by rfl, ?_⟩) ?_ ?_
            rotate_left
            · intro w'
              go_simp
              with_reducible rfl
            rotate_left
            · simp only [Act.put, List.setIfInBounds_toArray, List.set_cons_zero, List.set_cons_succ, i64_w, i32_w]
              rfl
            refine pure_ (i := 7) (N := some 25) (v := ?_) (a' := ?_) #[true, true, true, true, true, true, true, true, false, false, false, false, false, false, false, false, false] rfl rfl (by kernel_rfl) (fun _ _ _ h => h) (Or.inl ⟨by rfl, ?_⟩) ?_ ?_
            rotate_left
            · intro w'
              go_simp
              with_reducible rfl
            rotate_left
            · simp only [Act.put, List.setIfInBounds_toArray, List.set_cons_zero, List.set_cons_succ, i64_w, i32_w]
              rfl
            refine pure_ (i := 8) (N := some 26) (v := ?_) (a' := ?_) #[true, true, true, true, true, true, true, true, true, false, false, false, false, false, false, false, false] rfl rfl (by kernel_rfl) (fun _ _ _ h => h) (Or.inl ⟨by rfl, ?_⟩) ?_ ?_
            rotate_left
            · intro w'
              go_simp
              with_reducible rfl
            rotate_left
            · simp only [Act.put, List.setIfInBounds_toArray, List.set_cons_zero, List.set_cons_succ, i64_w, i32_w]
              rfl
            refine pure_ (i := 9) (N := some 27) (v := ?_) (a' := ?_) #[true, true, true, true, true, true, true, true, true, true, false, false, false, false, false, false, false] rfl rfl (by kernel_rfl) (fun _ _ _ h => h) (Or.inl ⟨by rfl, ?_⟩) ?_ ?_
            rotate_left
            · intro w'
              go_simp
              with_reducible rfl
            rotate_left
            · simp only [Act.put, List.setIfInBounds_toArray, List.set_cons_zero, List.set_cons_succ, i64_w, i32_w]
              rfl
            refine pure_ (i := 10) (N := some 28) (v := ?_) (a' := ?_) #[true, true, true, true, true, true, true, true, true, true, true, false, false, false, false, false, false] rfl rfl (by kernel_rfl) (fun _ _ _ h => h) (Or.inl ⟨by rfl, ?_⟩) ?_ ?_
            rotate_left
            · intro w'
              go_simp
              with_reducible rfl
            rotate_left
            · simp only [Act.put, List.setIfInBounds_toArray, List.set_cons_zero, List.set_cons_succ, i64_w, i32_w]
              rfl
            refine pure_ (i := 11) (N := some 29) (v := ?_) (a' := ?_) #[true, true, true, true, true, true, true, true, true, true, true, true, false, false, false, false, false] rfl rfl (by kernel_rfl) (fun _ _ _ h => h) (Or.inl ⟨by rfl, ?_⟩) ?_ ?_
            rotate_left
            · intro w'
              go_simp
              with_reducible rfl
            rotate_left
            · simp only [Act.put, List.setIfInBounds_toArray, List.set_cons_zero, List.set_cons_succ, i64_w, i32_w]
              rfl
            refine pure_ (i := 14) (N := some 32) (v := ?_) (a' := ?_) #[true, true, true, true, true, true, true, true, true, true, true, true, false, false, true, false, false] rfl rfl (by kernel_rfl) (fun _ _ _ h => h) (Or.inl ⟨by rfl, ?_⟩) ?_ ?_
            rotate_left
            · intro w'
              go_simp
              with_reducible rfl
            rotate_left
            · simp only [Act.put, List.setIfInBounds_toArray, List.set_cons_zero, List.set_cons_succ, i64_w, i32_w]
              rfl
            refine take_ (i := 12) (N := some 30) (v := ?_) (a' := ?_) #[true, true, true, true, true, true, true, true, true, true, true, true, true, false, true, false, false] rfl rfl (by kernel_rfl) (fun _ _ _ h => h) (Or.inl ⟨by rfl, ?_⟩) hHeld ?_ ?_
            rotate_left
            · rintro w' ⟨s0, s1, s2⟩
              go_simp
              with_reducible rfl
            rotate_left
            · simp only [Act.put, List.setIfInBounds_toArray, List.set_cons_zero, List.set_cons_succ, i64_w, i32_w]
              rfl
            refine one_ (i := 13) (N := some 31) #[true, true, true, true, true, true, true, true, true, true, true, true, true, true, true, false, false] rfl rfl (by kernel_rfl) (by decide) (fun K hK => ?_)
            refine goes_ Try.func36 (by kernel_rfl) rfl #[.slice (some ad) order.length co, .int .i64 x] (by rfl) rfl rfl (by simp only [List.map_toArray, List.map_cons, List.map_nil]; rfl) ?_
            with_reducible refine (AT _ B9).mono ?_
            rintro e w4 ⟨rfl, rfl⟩
            refine ⟨_, rfl, ?_⟩
            refine hK.out _ _ ⟨hHeld.1, hHeld.2.1, hHeld.2.2⟩ (fun hHeld => ?_)
            clear hK K
            refine norm_ (a' := ?_) ?_ ?_
            rotate_left
            · show Act.put _ (some 31) _ = _
              simp only [Act.put, List.setIfInBounds_toArray, List.set_cons_zero, List.set_cons_succ, i64_w, i32_w]
              rfl
            refine pure_ (i := 15) (N := some 33) (v := ?_) (a' := ?_) #[true, true, true, true, true, true, true, true, true, true, true, true, true, true, true, true, false] rfl rfl (by kernel_rfl) (fun _ _ _ h => h) (Or.inl ⟨by rfl, ?_⟩) ?_ ?_
            rotate_left
            · intro w'
              go_simp
              with_reducible rfl
            rotate_left
            · simp only [Act.put, List.setIfInBounds_toArray, List.set_cons_zero, List.set_cons_succ, i64_w, i32_w]
              rfl
            refine pure_ (i := 16) (N := some 34) (v := ?_) (a' := ?_) #[true, true, true, true, true, true, true, true, true, true, true, true, true, true, true, true, true] rfl rfl (by kernel_rfl) (fun _ _ _ h => h) (Or.inl ⟨by rfl, ?_⟩) ?_ ?_
            rotate_left
            · intro w'
              go_simp
              with_reducible rfl
            rotate_left
            · simp only [Act.put, List.setIfInBounds_toArray, List.set_cons_zero, List.set_cons_succ, i64_w, i32_w]
              rfl
            refine done_ (by kernel_rfl) ?_
            have BB := below_then (below_then B B.size BD) (below_then B B.size BD).size B9
            clear hHeld d0 d1 q0
            go_wp2
            go_ret
            exact ⟨by rw [hno.out]; rfl, below_then B1 B1.size BB⟩
        · have hno : ordB h.C order = false := ordB_no (fun k => hc (k.2 i hlt).1)
          have hp := plc_neg.2 hc
          have dp : decide (plc h.C order[i] < 0) = true := decide_eq_true hp
          generalize plc h.C order[i] = pv at PL2 hp dp
          generalize order[i] = x at q0 PL2
          clear hb PL
          replace hno := Aside0.mk hno
          replace hp := Aside0.mk hp
          clear hc
          go_wp2_with fail
          refine start_ (n := 17) (S := fun w' => w'.cell? ⟨bx, 0, none⟩ = some (.slice A1 h.C.length c1) ∧ w'.cell? ⟨bx, 1, none⟩ = some (.slice A2 h.A.length c2) ∧ w'.cell? (ad.add i) = some (.int .i64 x)) (ds := []) #[false, false, false, false, false, false, false, false, false, false, false, false, false, false, false, false, false] (by kernel_rfl) rfl rfl ⟨d0, d1, q0⟩ (fun hHeld => ?_)
          refine pure_ (i := 1) (N := some 19) (v := ?_) (a' := ?_) #[false, true, false, false, false, false, false, false, false, false, false, false, false, false, false, false, false] rfl rfl (by kernel_rfl) (fun _ _ _ h => h) (Or.inl ⟨by rfl, ?_⟩) ?_ ?_
          rotate_left
          · intro w'
            go_simp
            with_reducible rfl
          rotate_left
          · simp only [Act.put, List.setIfInBounds_toArray, List.set_cons_zero, List.set_cons_succ, i64_w, i32_w]
            rfl
          refine pure_ (i := 2) (N := some 20) (v := ?_) (a' := ?_) #[false, true, true, false, false, false, false, false, false, false, false, false, false, false, false, false, false] rfl rfl (by kernel_rfl) (fun _ _ _ h => h) (Or.inl ⟨by rfl, ?_⟩) ?_ ?_
          rotate_left
          · intro w'
            go_simp
            with_reducible rfl
          rotate_left
          · simp only [Act.put, List.setIfInBounds_toArray, List.set_cons_zero, List.set_cons_succ, i64_w, i32_w]
            rfl
          refine pure_ (i := 3) (N := some 21) (v := ?_) (a' := ?_) #[false, true, true, true, false, false, false, false, false, false, false, false, false, false, false, false, false] rfl rfl (by kernel_rfl) (fun _ _ _ h => h) (Or.inl ⟨by rfl, ?_⟩) ?_ ?_
          rotate_left
          · intro w'
            go_simp
            with_reducible rfl
          rotate_left
          · simp only [Act.put, List.setIfInBounds_toArray, List.set_cons_zero, List.set_cons_succ, i64_w, i32_w]
            rfl
          refine take_ (i := 0) (N := some 18) (v := ?_) (a' := ?_) #[true, true, true, true, false, false, false, false, false, false, false, false, false, false, false, false, false] rfl rfl (by kernel_rfl) (fun _ _ _ h => h) (Or.inl ⟨by rfl, ?_⟩) hHeld ?_ ?_
          rotate_left
          · rintro w' ⟨s0, s1, s2⟩
            go_simp
            with_reducible rfl
          rotate_left
          · simp only [Act.put, List.setIfInBounds_toArray, List.set_cons_zero, List.set_cons_succ, i64_w, i32_w]
            rfl
          refine take_ (i := 4) (N := some 22) (v := ?_) (a' := ?_) #[true, true, true, true, true, false, false, false, false, false, false, false, false, false, false, false, false] rfl rfl (by kernel_rfl) (fun _ _ _ h => h) (Or.inl ⟨by rfl, ?_⟩) hHeld ?_ ?_
          rotate_left
          · rintro w' ⟨s0, s1, s2⟩
            go_simp
            with_reducible rfl
          rotate_left
          · simp only [Act.put, List.setIfInBounds_toArray, List.set_cons_zero, List.set_cons_succ, i64_w, i32_w]
            rfl
          refine one_ (i := 5) (N := some 23) #[true, true, true, true, true, true, false, false, false, false, false, false, false, false, false, false, false] rfl rfl (by kernel_rfl) (by decide) (fun K hK => ?_)
          refine goes_ Try.func18 (by kernel_rfl) rfl #[.agg #[.slice A1 h.C.length c1, .slice A2 h.A.length c2], .int .i64 x] (by rfl) rfl rfl (by simp only [List.map_toArray, List.map_cons, List.map_nil]; rfl) ?_
          with_reducible refine (PL2).mono ?_
          rintro e w3 ⟨rfl, B9⟩
          refine ⟨_, rfl, ?_⟩
          refine hK.out _ _ ⟨up_below B9 hHeld.1, up_below B9 hHeld.2.1, up_below B9 hHeld.2.2⟩ (fun hHeld => ?_)
          clear hK K
          refine norm_ (a' := ?_) ?_ ?_
          rotate_left
          · show Act.put _ (some 23) _ = _
            simp only [Act.put, List.setIfInBounds_toArray, List.set_cons_zero, List.set_cons_succ, i64_w, i32_w]
            rfl
          refine pure_ (i := 6) (N := some 24) (v := ?_) (a' := ?_) #[true, true, true, true, true, true, true, false, false, false, false, false, false, false, false, false, false] rfl rfl (by kernel_rfl) (fun _ _ _ h => h) (Or.inl ⟨by rfl, ?_⟩) ?_ ?_
          rotate_left
          · intro w'
            go_simp
            with_reducible rfl
          rotate_left
          · simp only [Act.put, List.setIfInBounds_toArray, List.set_cons_zero, List.set_cons_succ, i64_w, i32_w]
            rfl
          refine pure_ (i := 7) (N := some 25) (v := ?_) (a' := ?_) #[true, true, true, true, true, true, true, true, false, false, false, false, false, false, false, false, false] rfl rfl (by kernel_rfl) (fun _ _ _ h => h) (Or.inl ⟨by rfl, ?_⟩) ?_ ?_
          rotate_left
          · intro w'
            go_simp
            with_reducible rfl
          rotate_left
          · simp only [Act.put, List.setIfInBounds_toArray, List.set_cons_zero, List.set_cons_succ, i64_w, i32_w]
            rfl
          refine pure_ (i := 8) (N := some 26) (v := undef) (a' := ?_) #[true, true, true, true, true, true, true, true, true, false, false, false, false, false, false, false, false] rfl rfl (by kernel_rfl) (fun _ _ _ h => h) (Or.inr ⟨by rfl, rfl⟩) ?_ ?_
          rotate_left
          · simp only [Act.put, List.setIfInBounds_toArray, List.set_cons_zero, List.set_cons_succ, i64_w, i32_w]
            rfl
          refine pure_ (i := 9) (N := some 27) (v := undef) (a' := ?_) #[true, true, true, true, true, true, true, true, true, true, false, false, false, false, false, false, false] rfl rfl (by kernel_rfl) (fun _ _ _ h => h) (Or.inr ⟨by rfl, rfl⟩) ?_ ?_
          rotate_left
          · simp only [Act.put, List.setIfInBounds_toArray, List.set_cons_zero, List.set_cons_succ, i64_w, i32_w]
            rfl
          refine pure_ (i := 10) (N := some 28) (v := undef) (a' := ?_) #[true, true, true, true, true, true, true, true, true, true, true, false, false, false, false, false, false] rfl rfl (by kernel_rfl) (fun _ _ _ h => h) (Or.inr ⟨by rfl, rfl⟩) ?_ ?_
          rotate_left
          · simp only [Act.put, List.setIfInBounds_toArray, List.set_cons_zero, List.set_cons_succ, i64_w, i32_w]
            rfl
          refine pure_ (i := 11) (N := some 29) (v := undef) (a' := ?_) #[true, true, true, true, true, true, true, true, true, true, true, true, false, false, false, false, false] rfl rfl (by kernel_rfl) (fun _ _ _ h => h) (Or.inr ⟨by rfl, rfl⟩) ?_ ?_
          rotate_left
          · simp only [Act.put, List.setIfInBounds_toArray, List.set_cons_zero, List.set_cons_succ, i64_w, i32_w]
            rfl
          refine pure_ (i := 12) (N := some 30) (v := undef) (a' := ?_) #[true, true, true, true, true, true, true, true, true, true, true, true, true, false, false, false, false] rfl rfl (by kernel_rfl) (fun _ _ _ h => h) (Or.inr ⟨by rfl, rfl⟩) ?_ ?_
          rotate_left
          · simp only [Act.put, List.setIfInBounds_toArray, List.set_cons_zero, List.set_cons_succ, i64_w, i32_w]
            rfl
          refine pure_ (i := 13) (N := some 31) (v := undef) (a' := ?_) #[true, true, true, true, true, true, true, true, true, true, true, true, true, true, false, false, false] rfl rfl (by kernel_rfl) (fun _ _ _ h => h) (Or.inr ⟨by rfl, rfl⟩) ?_ ?_
          rotate_left
          · simp only [Act.put, List.setIfInBounds_toArray, List.set_cons_zero, List.set_cons_succ, i64_w, i32_w]
            rfl
          refine pure_ (i := 14) (N := some 32) (v := undef) (a' := ?_) #[true, true, true, true, true, true, true, true, true, true, true, true, true, true, true, false, false] rfl rfl (by kernel_rfl) (fun _ _ _ h => h) (Or.inr ⟨by rfl, rfl⟩) ?_ ?_
          rotate_left
          · simp only [Act.put, List.setIfInBounds_toArray, List.set_cons_zero, List.set_cons_succ, i64_w, i32_w]
            rfl
          refine pure_ (i := 15) (N := some 33) (v := undef) (a' := ?_) #[true, true, true, true, true, true, true, true, true, true, true, true, true, true, true, true, false] rfl rfl (by kernel_rfl) (fun _ _ _ h => h) (Or.inr ⟨by rfl, rfl⟩) ?_ ?_
          rotate_left
          · simp only [Act.put, List.setIfInBounds_toArray, List.set_cons_zero, List.set_cons_succ, i64_w, i32_w]
            rfl
          refine pure_ (i := 16) (N := some 34) (v := ?_) (a' := ?_) #[true, true, true, true, true, true, true, true, true, true, true, true, true, true, true, true, true] rfl rfl (by kernel_rfl) (fun _ _ _ h => h) (Or.inl ⟨by rfl, ?_⟩) ?_ ?_
          rotate_left
          · intro w'
            go_simp
            with_reducible rfl
          rotate_left
          · simp only [Act.put, List.setIfInBounds_toArray, List.set_cons_zero, List.set_cons_succ, i64_w, i32_w]
            rfl
          refine done_ (by kernel_rfl) ?_
          have BB := below_then (below_then B B.size BD) (below_then B B.size BD).size B9
          clear hHeld d0 d1 q0
          go_wp2
          go_ret
          exact ⟨by rw [hno.out]; rfl, below_then B1 B1.size BB⟩
      · have hge : ¬ (i : Int) < (order.length : Int) := by omega
        have hyes : ordB h.C order = true := ordB_yes ⟨hlen.out, fun k hk => hb k hk (by omega)⟩
        clear hb PL
        replace hyes := Aside0.mk hyes
        go_wp2
        go_ret
        exact ⟨by rw [hyes.out]; rfl, below_then B1 B1.size B⟩
  · have hno : ordB h.C order = false := ordB_no (fun k => hlen k.1)
    have hne : ((order.length : Int) != (h.C.length : Int)) = true := by
      rw [bne_iff_ne]
      omega
    replace hlen := Aside0.mk hlen
    replace hno := Aside0.mk hno
    clear PL
    go_enter Try.func14, Try.ntmps14
    go_upto_region 1 with (fail)
    rw [← hw1, ← hbx]
    rw [← hbx] at b0 b1
    clear hw1
    replace hbx := Aside0.mk hbx
    go_wp2
    go_ret
    exact ⟨by rw [hno.out]; rfl, B1⟩
end Go.Proofs.Ytedcnpaomphffaa
namespace Go.Proofs.Ytedcnpaomphffaa
open Go.RowKit Go.Maps Go.Sort Go.Lib Go.Proofs.YtedcnpaomphffaaW.PrintWords Go.Proofs.YtedcnpaomphffaaW.PrintLast Go.Proofs.YtedcnpaomphffaaW.PrintMore
set_option linter.unusedVariables false
set_option linter.unusedSimpArgs false
set_option linter.unusedSectionVars false
/-! ### Serial -/
def okE (order : List Int) (d : Dp) : Bool := !decide (plc order d.t < plc order d.f)
def serP (g : List Dp) (order : List Int) : Bool := g.all (okE order)
theorem serP_snoc (g : List Dp) (d : Dp) (order : List Int) : serP (g ++ [d]) order = (serP g order && okE order d) := by unfold serP; simp [List.all_append]
theorem serP_bad {g : List Dp} {order : List Int} {j : Nat} (hj : j < g.length) (h : okE order g[j] = false) : serP g order = false := by
  unfold serP
  rw [List.all_eq_false]
  exact ⟨g[j], List.getElem_mem hj, by rw [h]; decide⟩
def SrJ (w : World) (g : List Dp) (order : List Int) (v : Value) (wr : World) : Prop := ∃ j : Nat, v = .int .i64 (j : Int) ∧ j ≤ g.length ∧ serP (g.take j) order = true ∧ Below w.heap.size w wr
end Go.Proofs.Ytedcnpaomphffaa
namespace Go.Proofs.Ytedcnpaomphffaa
set_option linter.unusedVariables false
set_option linter.unusedSimpArgs false
/-! ### how far: plain -/
def IsMin (g : List Dp) (b : Int) (k : Nat) (a : Int) : Prop := Walk g k a b ∧ ∀ j, j < k → ¬ Walk g j a b
theorem isMin_of {g : List Dp} {a b : Int} : ∀ {k : Nat}, Walk g k a b → ∃ m, m ≤ k ∧ IsMin g b m a := by
  intro k
  induction k using Nat.strongRecOn with
  | ind k ih =>
    intro h
    by_cases hs : ∃ j, j < k ∧ Walk g j a b
    · obtain ⟨j, hj, hw⟩ := hs
      obtain ⟨m, hm, hi⟩ := ih j hj hw
      exact ⟨m, by omega, hi⟩
    · exact ⟨k, Nat.le_refl _, h, fun j hj hw => hs ⟨j, hj, hw⟩⟩
theorem IsMin.unique {g : List Dp} {a b : Int} {k m : Nat} (h : IsMin g b k a) (h' : IsMin g b m a) : k = m := by
  rcases Nat.lt_trichotomy k m with e | e | e
  · exact absurd h.1 (h'.2 k e)
  · exact e
  · exact absurd h'.1 (h.2 m e)
theorem IsMin.next {g : List Dp} {a b : Int} {k : Nat} (h : IsMin g b (k + 1) a) : ∃ c, leadsB g a c = true ∧ IsMin g b k c := by
  obtain ⟨⟨c, hc, hw⟩, hmin⟩ := h
  exact ⟨c, hc, hw, fun j hj hw' => hmin (j + 1) (by omega) ⟨c, hc, hw'⟩⟩
theorem layers {g : List Dp} {names : List Int} {b : Int} (hg : ∀ d ∈ g, d.f ∈ names ∧ d.t ∈ names) (hb : b ∈ names) : ∀ (k : Nat) (a : Int), IsMin g b k a → ∃ l : List Int, l.length = k + 1 ∧ l.Nodup ∧ ∀ x ∈ l, x ∈ names ∧ ∃ j, j ≤ k ∧ IsMin g b j x
  | 0, a, h => by
    have h' : a = b := h.1
    subst h'
    exact ⟨[a], rfl, by simp, fun x hx => by rw [List.mem_singleton.1 hx]; exact ⟨hb, 0, Nat.le_refl _, h⟩⟩
  | k + 1, a, h => by
    obtain ⟨c, hc, hm⟩ := h.next
    obtain ⟨l, h1, h2, h3⟩ := layers hg hb k c hm
    have ha : a ∈ names := by
      obtain ⟨d, hd, rfl, _⟩ := leadsB_iff.1 hc
      exact (hg d hd).1
    refine ⟨a :: l, by simp [h1], List.nodup_cons.2 ⟨fun hm2 => ?_, h2⟩, fun x hx => ?_⟩
    · obtain ⟨_, j, hj, hj2⟩ := h3 a hm2
      have := h.unique hj2
      omega
    · rcases List.mem_cons.1 hx with rfl | hx
      · exact ⟨ha, k + 1, Nat.le_refl _, h⟩
      · obtain ⟨p1, j, hj, p2⟩ := h3 x hx
        exact ⟨p1, j, by omega, p2⟩
theorem min_lt {g : List Dp} {names : List Int} {b : Int} (hg : ∀ d ∈ g, d.f ∈ names ∧ d.t ∈ names) (hb : b ∈ names) {k : Nat} {a : Int} (h : IsMin g b k a) : k < names.length := by
  obtain ⟨l, h1, h2, h3⟩ := layers hg hb k a h
  have := sub_le h2 (fun x hx => (h3 x hx).1)
  omega
theorem IsMin.dist {g : List Dp} {a b : Int} {k : Nat} (h : IsMin g b k a) : IsDist g a b (k : Int) := .inr ⟨k, rfl, h.1, h.2⟩
/-- what is known after s steps -/
def FarS (g : List Dp) (names ds : List Int) (b : Int) (s : Nat) : Prop := ds.length = names.length ∧ ∀ k (hk : k < names.length) (hk' : k < ds.length), (∃ m, m ≤ s ∧ ds[k] = (m : Int) ∧ IsMin g b m names[k]) ∨ (ds[k] = -1 ∧ ∀ m, m ≤ s → ¬ Walk g m names[k] b)
/-- .. within a step, after some dependencies -/
def FarE (g : List Dp) (names ds : List Int) (b : Int) (s j : Nat) : Prop := ds.length = names.length ∧ ∀ k (hk : k < names.length) (hk' : k < ds.length), (∃ m, m ≤ s + 1 ∧ ds[k] = (m : Int) ∧ IsMin g b m names[k]) ∨ (ds[k] = -1 ∧ (∀ m, m ≤ s → ¬ Walk g m names[k] b) ∧ ∀ d ∈ g.take j, d.f = names[k] → ¬ Walk g s d.t b)
theorem FarS.begin {g : List Dp} {names ds : List Int} {b : Int} {s : Nat} (h : FarS g names ds b s) : FarE g names ds b s 0 :=
  ⟨h.1, fun k hk hk' => by
    rcases h.2 k hk hk' with ⟨m, h1, h2, h3⟩ | ⟨h1, h2⟩
    · exact .inl ⟨m, by omega, h2, h3⟩
    · exact .inr ⟨h1, h2, by simp⟩⟩
theorem FarE.done {g : List Dp} {names ds : List Int} {b : Int} {s : Nat} (h : FarE g names ds b s g.length) : FarS g names ds b (s + 1) :=
  ⟨h.1, fun k hk hk' => by
    rcases h.2 k hk hk' with ⟨m, h1, h2, h3⟩ | ⟨h1, h2, h3⟩
    · exact .inl ⟨m, h1, h2, h3⟩
    · refine .inr ⟨h1, fun m hm hw => ?_⟩
      rcases Nat.lt_or_ge m (s + 1) with h4 | h4
      · exact h2 m (by omega) hw
      · obtain rfl : m = s + 1 := by omega
        obtain ⟨c, hc, hw'⟩ := hw
        obtain ⟨d, hd, hf, rfl⟩ := leadsB_iff.1 hc
        rw [List.take_length] at h3
        exact h3 d hd hf hw'⟩
/-- a dependency leads to a place that is s away, from one that is not yet found -/
theorem FarE.hit {g : List Dp} {names ds : List Int} {b : Int} {s j : Nat} (hn : names.Nodup) (h : FarE g names ds b s j) (hj : j < g.length) {pa pb : Nat} (ha : pa < names.length) (hb : pb < names.length) (ea : names[pa] = g[j].f) (eb : names[pb] = g[j].t) (ha' : pa < ds.length) (hb' : pb < ds.length) (h1 : ds[pb] = (s : Int)) (h2 : ds[pa] < 0) : FarE g names (ds.set pa ((s : Int) + 1)) b s (j + 1) := by
  have htk : g.take (j + 1) = g.take j ++ [g[j]] := List.take_succ_eq_append_getElem hj
  have hm : IsMin g b (s + 1) names[pa] := by
    rcases h.2 pa ha ha' with ⟨m, _, e, _⟩ | ⟨_, h3, _⟩
    · omega
    · rcases h.2 pb hb hb' with ⟨m, _, e, hmin⟩ | ⟨e, _⟩
      · obtain rfl : m = s := by omega
        exact ⟨⟨g[j].t, leadsB_iff.2 ⟨g[j], List.getElem_mem hj, ea.symm, rfl⟩, eb ▸ hmin.1⟩, fun i hi => h3 i (by omega)⟩
      · omega
  refine ⟨by rw [List.length_set]; exact h.1, fun k hk hk' => ?_⟩
  rw [List.length_set] at hk'
  by_cases e : pa = k
  · subst e
    refine .inl ⟨s + 1, Nat.le_refl _, ?_, hm⟩
    rw [List.getElem_set_self]
    simp
  · rw [List.getElem_set_ne e]
    rcases h.2 k hk hk' with ⟨m, h4, h5, h6⟩ | ⟨h4, h5, h6⟩
    · exact .inl ⟨m, h4, h5, h6⟩
    · by_cases en : names[k] = g[j].f
      · exfalso
        rw [← ea] at en
        rw [List.nodup_iff_pairwise_ne] at hn
        rcases Nat.lt_or_gt_of_ne e with h7 | h7
        · exact List.pairwise_iff_getElem.1 hn pa k ha hk h7 en.symm
        · exact List.pairwise_iff_getElem.1 hn k pa hk ha h7 en
      · refine .inr ⟨h4, h5, fun d hd hf => ?_⟩
        rw [htk, List.mem_append, List.mem_singleton] at hd
        rcases hd with hd | rfl
        · exact h6 d hd hf
        · exact absurd hf.symm en
/-- .. or not -/
theorem FarE.skip {g : List Dp} {names ds : List Int} {b : Int} {s j : Nat} (hn : names.Nodup) (h : FarE g names ds b s j) (hj : j < g.length) {pa pb : Nat} (ha : pa < names.length) (hb : pb < names.length) (ea : names[pa] = g[j].f) (eb : names[pb] = g[j].t) (ha' : pa < ds.length) (hb' : pb < ds.length) (h1 : ¬ (ds[pb] = (s : Int) ∧ ds[pa] < 0)) : FarE g names ds b s (j + 1) := by
  have htk : g.take (j + 1) = g.take j ++ [g[j]] := List.take_succ_eq_append_getElem hj
  refine ⟨h.1, fun k hk hk' => ?_⟩
  rcases h.2 k hk hk' with ⟨m, h4, h5, h6⟩ | ⟨h4, h5, h6⟩
  · exact .inl ⟨m, h4, h5, h6⟩
  · refine .inr ⟨h4, h5, fun d hd hf hw => ?_⟩
    rw [htk, List.mem_append, List.mem_singleton] at hd
    rcases hd with hd | rfl
    · exact h6 d hd hf hw
    · have hkp : k = pa := by
        rw [List.nodup_iff_pairwise_ne] at hn
        rcases Nat.lt_trichotomy k pa with h7 | h7 | h7
        · exact absurd (hf.symm.trans ea.symm) (List.pairwise_iff_getElem.1 hn k pa hk ha h7)
        · exact h7
        · exact absurd (ea.trans hf) (List.pairwise_iff_getElem.1 hn pa k ha hk h7)
      subst hkp
      apply h1
      refine ⟨?_, by omega⟩
      have hmin : IsMin g b s names[pb] := by
        rw [eb]
        refine ⟨hw, fun i hi hwi => h5 (i + 1) (by omega) ⟨g[j].t, leadsB_iff.2 ⟨g[j], List.getElem_mem hj, ea.symm, rfl⟩, hwi⟩⟩
      rcases h.2 pb hb hb' with ⟨m, _, e, hm⟩ | ⟨_, h8, _⟩
      · rw [e, hm.unique hmin]
      · exact absurd hmin.1 (h8 s (Nat.le_refl _))
def Far (g : List Dp) (names ds : List Int) (b : Int) : Prop := ds.length = names.length ∧ ∀ k (hk : k < names.length) (hk' : k < ds.length), IsDist g names[k] b ds[k]
theorem FarS.all {g : List Dp} {names ds : List Int} {b : Int} {s : Nat} (hg : ∀ d ∈ g, d.f ∈ names ∧ d.t ∈ names) (hb : b ∈ names) (h : FarS g names ds b s) (hs : names.length ≤ s) : Far g names ds b :=
  ⟨h.1, fun k hk hk' => by
    rcases h.2 k hk hk' with ⟨m, _, e, hm⟩ | ⟨e, h2⟩
    · rw [e]; exact hm.dist
    · refine .inl ⟨e, fun m hw => ?_⟩
      obtain ⟨i, _, hi⟩ := isMin_of hw
      have := min_lt hg hb hi
      exact h2 i (by omega) hi.1⟩
theorem Far.unique {g : List Dp} {names ds ds' : List Int} {b : Int} (h : Far g names ds b) (h' : Far g names ds' b) : ds = ds' := by
  refine List.ext_getElem (h.1.trans h'.1.symm) fun k hk hk' => ?_
  have hkn : k < names.length := by rw [← h.1]; exact hk
  exact (h.2 k hkn hk).unique (h'.2 k hkn hk')
theorem FarS.start {g : List Dp} {names ds : List Int} {b : Int} (hl : ds.length = names.length) (h : ∀ k (hk : k < names.length) (hk' : k < ds.length), ds[k] = if names[k] = b then 0 else -1) : FarS g names ds b 0 :=
  ⟨hl, fun k hk hk' => by
    rw [h k hk hk']
    by_cases e : names[k] = b
    · rw [if_pos e]
      exact .inl ⟨0, Nat.le_refl _, rfl, e, fun j hj => by omega⟩
    · rw [if_neg e]
      refine .inr ⟨rfl, fun m hm hw => ?_⟩
      obtain rfl : m = 0 := by omega
      exact e hw⟩
end Go.Proofs.Ytedcnpaomphffaa
namespace Go.Proofs.Ytedcnpaomphffaa
open Go.RowKit Go.Maps Go.Sort Go.Lib Go.Proofs.YtedcnpaomphffaaW.PrintWords Go.Proofs.YtedcnpaomphffaaW.PrintLast Go.Proofs.YtedcnpaomphffaaW.PrintMore
set_option linter.unusedVariables false
set_option linter.unusedSimpArgs false
set_option linter.unusedSectionVars false
/-! ### far -/
theorem run_mkI (n : Nat) (hn : n ≤ 1000000) (W : World) : ∃ w', (Instr.makeSlice 22 (.int .i64 (n : Int)) (.int .i64 (n : Int))).run Try.prog W = .ok (.slice (some ⟨W.heap.size, 0, none⟩) n n) w' ∧ RowI w' W.heap.size (.slice (some ⟨W.heap.size, 0, none⟩) n n) (List.replicate n 0) ∧ W.grownBy w' none := by
  obtain ⟨i0, hi, hzz⟩ := Option.map_eq_some_iff.1 info3
  simp only [Prod.mk.injEq] at hzz
  obtain ⟨hz0, hz1, hz2⟩ := hzz
  obtain ⟨w', hr, ho, hg⟩ := run_make_full W W.heap.size 22 3 i0 (.int .i64 0) 1 Try.underlying22 hi hz0 hz1 .i64 .i64 n (by rw [hz2]; omega) (by unfold maxLen; omega) (Nat.le_refl _)
  refine ⟨w', hr, ⟨(madeCells (Value.int .i64 0).cells (n * 1)).toList, ?_, ?_⟩, hg⟩
  · rw [List.length_replicate]
    exact l_of_own ho
  · exact Kd.reps_made (R := fun x cs => cs = encI x) (z := .int .i64 0) (z0 := (0 : Int)) rfl (by decide) rfl n
theorem RowI.put {w : World} {base g n c : Nat} {xs : List Int} (h : RowI w base (.slice (some ⟨g, 0, none⟩) n c) xs) (i : Nat) (hi : i < xs.length) (x : Int) : RowI (w.setCell ⟨g, i, none⟩ (.int .i64 x)) base (.slice (some ⟨g, 0, none⟩) n c) (xs.set i x) := by
  obtain ⟨inner, ⟨hl, hr⟩, hp⟩ := h
  refine ⟨inner.set i (.int .i64 x), ⟨by simp [hl], ?_⟩, ⟨by simp [hp.1], fun j y hy => ?_⟩⟩
  · rcases hr with ⟨h1, _⟩ | ⟨g', cap, cur, hv, hb, hh, hnc, hcm, hcs, ht⟩
    · cases h1
    · injection hv with e1 e2 e3
      injection e1 with e1
      injection e1 with e1
      subst e1
      subst e3
      refine .inr ⟨g, c, _, by rw [List.length_set, e2], hb, blk_set hh _ _, by rw [List.length_set]; exact hnc, hcm, by simpa using hcs, ?_⟩
      rw [← ht, List.length_set]
      simp only [Array.toList_setIfInBounds, List.take_set]
  · have hlen := hp.1
    rw [List.getElem?_set] at hy
    show ((inner.set i (.int .i64 x)).drop (j * 1)).take 1 = encI y
    by_cases e : i = j
    · subst e
      rw [if_pos rfl, if_pos hi] at hy
      injection hy with hy
      subst hy
      rw [Nat.mul_one]
      exact cells1 (by rw [List.getElem?_set, if_pos rfl, if_pos (by omega)])
    · rw [if_neg e] at hy
      have h2 : (inner.drop (j * 1)).take 1 = encI y := hp.2 j y hy
      rw [← h2]
      apply List.ext_getElem?
      intro t
      rw [List.getElem?_take, List.getElem?_take, List.getElem?_drop, List.getElem?_drop, List.getElem?_set]
      by_cases ht : t < 1
      · rw [if_pos ht, if_pos ht, if_neg (by omega)]
      · rw [if_neg ht, if_neg ht]
theorem RowI.frozen {w : World} {base g n c : Nat} {xs : List Int} (h : RowI w base (.slice (some ⟨g, 0, none⟩) n c) xs) (j : Nat) : w.frozen? ⟨g, j, none⟩ = false := by
  obtain ⟨_, _, cells, hc⟩ := h.typed g rfl
  exact blk_frozen hc _
/-- the row of the distances -/
abbrev vD (w : World) (n : Nat) : Value := .slice (some ⟨w.heap.size, 0, none⟩) n n
def FaA (w : World) (names : List Int) (b : Int) (v8 : Value) (wr : World) : Prop := ∃ (i : Nat) (ds : List Int), v8 = .int .i64 (i : Int) ∧ i ≤ names.length ∧ ds.length = names.length ∧ RowI wr w.heap.size (vD w names.length) ds ∧ (∀ k (hk : k < names.length) (hk' : k < ds.length), k < i → ds[k] = if names[k] = b then 0 else -1) ∧ Below w.heap.size w wr
def FaS (w : World) (g : List Dp) (names : List Int) (b : Int) (v9 : Value) (wr : World) : Prop := ∃ (s : Nat) (ds : List Int), v9 = .int .i64 (s : Int) ∧ s ≤ names.length ∧ RowI wr w.heap.size (vD w names.length) ds ∧ FarS g names ds b s ∧ Below w.heap.size w wr
def FaE (w : World) (g : List Dp) (names : List Int) (b : Int) (s : Nat) (v10 : Value) (wr : World) : Prop := ∃ (j : Nat) (ds : List Int), v10 = .int .i64 (j : Int) ∧ j ≤ g.length ∧ RowI wr w.heap.size (vD w names.length) ds ∧ FarE g names ds b s j ∧ Below w.heap.size w wr
def FarPost (w : World) (g : List Dp) (names : List Int) (b : Int) (e : Ending) (w' : World) : Prop := ∃ v ds, e = .returned v ∧ RowI w' w.heap.size v ds ∧ Far g names ds b ∧ Below w.heap.size w w'
theorem plc_at {names : List Int} {x : Int} (h : x ∈ names) : ∃ (p : Nat) (hp : p < names.length), plc names x = (p : Int) ∧ names[p] = x := by
  obtain ⟨e, hl⟩ := plc_mem h
  exact ⟨_, hl, e, List.getElem_idxOf hl⟩
end Go.Proofs.Ytedcnpaomphffaa
namespace Go.Proofs.Ytedcnpaomphffaa
set_option linter.unusedVariables false
set_option linter.unusedSimpArgs false
/-! ### the shortest round: plain -/
/-- how long the shortest round through a number is; 0: none -/
def IsThr (g : List Dp) (n : Int) (b : Int) : Prop := (b = 0 ∧ ∀ k, ¬ Walk g (k + 1) n n) ∨ ∃ k : Nat, b = (k : Int) + 1 ∧ Walk g (k + 1) n n ∧ ∀ j, j < k → ¬ Walk g (j + 1) n n
theorem IsThr.unique {g : List Dp} {n b b' : Int} (h : IsThr g n b) (h' : IsThr g n b') : b = b' := by
  rcases h with ⟨rfl, h⟩ | ⟨k, rfl, h1, h2⟩ <;> rcases h' with ⟨rfl, h'⟩ | ⟨k', rfl, h1', h2'⟩
  · rfl
  · exact absurd h1' (h k')
  · exact absurd h1 (h' k)
  · rcases Nat.lt_trichotomy k k' with e | e | e
    · exact absurd h1 (h2' k e)
    · rw [e]
    · exact absurd h1' (h2 k' e)
theorem IsThr.pos {g : List Dp} {n b : Int} (h : IsThr g n b) : 0 ≤ b := by
  rcases h with ⟨rfl, _⟩ | ⟨k, rfl, _⟩ <;> omega
/-- through a dependency to the place k one can go round -/
def Via (g : List Dp) (names ds : List Int) (n : Int) (k : Nat) : Prop := ∃ (hk : k < names.length) (hk' : k < ds.length), leadsB g n names[k] = true ∧ 0 ≤ ds[k]
/-- the best of the first i places -/
def BestT (g : List Dp) (names ds : List Int) (n : Int) (i : Nat) (b : Int) : Prop := (b = 0 ∧ ∀ k, k < i → ¬ Via g names ds n k) ∨ (∃ (k : Nat) (hk' : k < ds.length), k < i ∧ Via g names ds n k ∧ b = ds[k] + 1 ∧ ∀ j (hj : j < ds.length), j < i → Via g names ds n j → b ≤ ds[j] + 1)
theorem BestT.skip {g : List Dp} {names ds : List Int} {n b : Int} {i : Nat} (h : BestT g names ds n i b) (hs : ¬ Via g names ds n i ∨ (b ≠ 0 ∧ ∀ hi : i < ds.length, b ≤ ds[i] + 1)) (h0 : b = 0 → ¬ Via g names ds n i) : BestT g names ds n (i + 1) b := by
  rcases h with ⟨rfl, h⟩ | ⟨k, hk, hki, hv, hb, h⟩
  · refine .inl ⟨rfl, fun k hk => ?_⟩
    rcases Nat.lt_or_ge k i with e | e
    · exact h k e
    · obtain rfl : k = i := by omega
      exact h0 rfl
  · refine .inr ⟨k, hk, by omega, hv, hb, fun j hj hji hvj => ?_⟩
    rcases Nat.lt_or_ge j i with e | e
    · exact h j hj e hvj
    · obtain rfl : j = i := by omega
      rcases hs with hs | ⟨_, hs⟩
      · exact absurd hvj hs
      · exact hs hj
theorem BestT.take {g : List Dp} {names ds : List Int} {n b : Int} {i : Nat} (h : BestT g names ds n i b) (hi : i < ds.length) (hv : Via g names ds n i) (hb : b = 0 ∨ ds[i] + 1 < b) : BestT g names ds n (i + 1) (ds[i] + 1) := by
  refine .inr ⟨i, hi, by omega, hv, rfl, fun j hj hji hvj => ?_⟩
  rcases Nat.lt_or_ge j i with e | e
  · rcases h with ⟨_, h⟩ | ⟨k, hk, hki, hvk, hbk, h⟩
    · exact absurd hvj (h j e)
    · have := h j hj e hvj
      obtain ⟨_, _, _, h0⟩ := hvk
      omega
  · obtain rfl : j = i := by omega
    exact Int.le_refl _
theorem BestT.thr {g : List Dp} {names ds : List Int} {n b : Int} (hg : ∀ d ∈ g, d.f ∈ names ∧ d.t ∈ names) (hF : Far g names ds n) (h : BestT g names ds n names.length b) : IsThr g n b := by
  -- a walk round goes by some place
  have via : ∀ j, Walk g (j + 1) n n → ∃ (k : Nat) (hk' : k < ds.length), k < names.length ∧ Via g names ds n k ∧ ds[k] ≤ (j : Int) := by
    rintro j ⟨c, hc, hw⟩
    have hcn : c ∈ names := by
      obtain ⟨d, hd, _, rfl⟩ := leadsB_iff.1 hc
      exact (hg d hd).2
    obtain ⟨k, hk, rfl⟩ := List.mem_iff_getElem.1 hcn
    have hk' : k < ds.length := by rw [hF.1]; exact hk
    rcases hF.2 k hk hk' with ⟨_, hno⟩ | ⟨m, em, hm, hmin⟩
    · exact absurd hw (hno j)
    · have hmj : m ≤ j := by
        rcases Nat.lt_or_ge j m with e | e
        · exact absurd hw (hmin j e)
        · exact e
      exact ⟨k, hk', hk, ⟨hk, hk', hc, by omega⟩, by omega⟩
  rcases h with ⟨rfl, h⟩ | ⟨k, hk', hki, hv, rfl, h⟩
  · refine .inl ⟨rfl, fun j hw => ?_⟩
    obtain ⟨k, _, hk, hv, _⟩ := via j hw
    exact h k hk hv
  · obtain ⟨hk, _, hl, h0⟩ := hv
    rcases hF.2 k hk hk' with ⟨e, _⟩ | ⟨m, em, hm, hmin⟩
    · omega
    · refine .inr ⟨m, by omega, ⟨_, hl, hm⟩, fun j hj hw => ?_⟩
      obtain ⟨k2, hk2, hk2n, hv2, hle⟩ := via j hw
      have := h k2 hk2 hk2n hv2
      omega
/-- the best of the first i numbers -/
def BestR (g : List Dp) (names : List Int) (i : Nat) (b f : Int) : Prop := (b = 0 ∧ f = 0 ∧ ∀ k (hk : k < names.length), k < i → IsThr g names[k] 0) ∨ (∃ (k : Nat) (hk : k < names.length), k < i ∧ f = names[k] ∧ 0 < b ∧ IsThr g names[k] b ∧ ∀ j (hj : j < names.length), j < i → ∀ b', IsThr g names[j] b' → 0 < b' → b ≤ b' ∧ (j < k → b < b'))
theorem BestR.skip {g : List Dp} {names : List Int} {i : Nat} {b f n : Int} (h : BestR g names i b f) (hi : i < names.length) (ht : IsThr g names[i] n) (hs : n = 0 ∨ (b ≠ 0 ∧ b ≤ n)) : BestR g names (i + 1) b f := by
  rcases h with ⟨rfl, rfl, h⟩ | ⟨k, hk, hki, hf, hb, hthr, h⟩
  · refine .inl ⟨rfl, rfl, fun k hk hki => ?_⟩
    rcases Nat.lt_or_ge k i with e | e
    · exact h k hk e
    · obtain rfl : k = i := by omega
      rcases hs with e2 | e2
      · rw [← e2]; exact ht
      · exact absurd rfl e2.1
  · refine .inr ⟨k, hk, by omega, hf, hb, hthr, fun j hj hji b' hb' hpos => ?_⟩
    rcases Nat.lt_or_ge j i with e | e
    · exact h j hj e b' hb' hpos
    · obtain rfl : j = i := by omega
      have := hb'.unique ht
      rcases hs with e2 | e2
      · omega
      · exact ⟨by omega, fun hjk => by omega⟩
theorem BestR.take {g : List Dp} {names : List Int} {i : Nat} {b f n : Int} (h : BestR g names i b f) (hi : i < names.length) (ht : IsThr g names[i] n) (hn : 0 < n) (hs : b = 0 ∨ n < b) : BestR g names (i + 1) n names[i] := by
  refine .inr ⟨i, hi, by omega, rfl, hn, ht, fun j hj hji b' hb' hpos => ?_⟩
  rcases Nat.lt_or_ge j i with e | e
  · rcases h with ⟨_, _, h⟩ | ⟨k, hk, hki, hf, hb, hthr, h⟩
    · have := hb'.unique (h j hj e)
      omega
    · have := (h j hj e b' hb' hpos).1
      exact ⟨by omega, fun _ => by omega⟩
  · obtain rfl : j = i := by omega
    have := hb'.unique ht
    exact ⟨by omega, fun hjk => by omega⟩
theorem BestR.unique {g : List Dp} {names : List Int} {b f b' f' : Int} (h : BestR g names names.length b f) (h' : BestR g names names.length b' f') : b = b' ∧ f = f' := by
  rcases h with ⟨rfl, rfl, h⟩ | ⟨k, hk, hki, rfl, hb, hthr, h⟩ <;> rcases h' with ⟨rfl, rfl, h'⟩ | ⟨k', hk', hki', rfl, hb', hthr', h'⟩
  · exact ⟨rfl, rfl⟩
  · have := hthr'.unique (h k' hk' hk'); omega
  · have := hthr.unique (h' k hk hk); omega
  · have h1 := h k' hk' hk' b' hthr' hb'
    have h2 := h' k hk hk b hthr hb
    have e : b = b' := by omega
    subst e
    refine ⟨rfl, ?_⟩
    rcases Nat.lt_trichotomy k k' with e | e | e
    · have := h2.2 e; omega
    · subst e; rfl
    · have := h1.2 e; omega
/-- the next one of a round: the first that a dependency leads to, so far from where it began -/
def IsNext (g : List Dp) (names : List Int) (f : Int) (k : Nat) (a x : Int) : Prop := ∃ (p : Nat) (hp : p < names.length), x = names[p] ∧ leadsB g a x = true ∧ IsMin g f k x ∧ ∀ q (hq : q < names.length), q < p → ¬ (leadsB g a names[q] = true ∧ IsMin g f k names[q])
theorem IsNext.unique {g : List Dp} {names : List Int} {f a x y : Int} {k : Nat} (h : IsNext g names f k a x) (h' : IsNext g names f k a y) : x = y := by
  obtain ⟨p, hp, rfl, h1, h2, h3⟩ := h
  obtain ⟨q, hq, rfl, h1', h2', h3'⟩ := h'
  rcases Nat.lt_trichotomy p q with e | e | e
  · exact absurd ⟨h1, h2⟩ (h3' p hp e)
  · subst e; rfl
  · exact absurd ⟨h1', h2'⟩ (h3 q hq e)
/-- a round under way -/
def PathR (g : List Dp) (names : List Int) (f : Int) (b : Nat) (L : List Int) : Prop := 1 ≤ L.length ∧ L.length ≤ b ∧ L[0]? = some f ∧ ∀ j a x, L[j]? = some a → L[j + 1]? = some x → IsNext g names f (b - (j + 1)) a x
theorem PathR.one (g : List Dp) (names : List Int) (f : Int) {b : Nat} (hb : 1 ≤ b) : PathR g names f b [f] := ⟨Nat.le_refl _, hb, rfl, fun j a x h1 h2 => by simp at h2⟩
theorem PathR.snoc {g : List Dp} {names : List Int} {f : Int} {b : Nat} {L : List Int} (h : PathR g names f b L) (hl : L.length < b) {a x : Int} (ha : L[L.length - 1]? = some a) (hx : IsNext g names f (b - L.length) a x) : PathR g names f b (L ++ [x]) := by
  obtain ⟨h1, h2, h3, h4⟩ := h
  refine ⟨by simp, by simp; omega, by rw [List.getElem?_append_left (by omega)]; exact h3, fun j a' x' e1 e2 => ?_⟩
  have hj1 := (List.getElem?_eq_some_iff.1 e2).1
  simp only [List.length_append, List.length_singleton] at hj1
  rw [List.getElem?_append_left (by omega)] at e1
  rcases Nat.lt_or_ge (j + 1) L.length with e | e
  · rw [List.getElem?_append_left e] at e2
    exact h4 j a' x' e1 e2
  · have hj : j + 1 = L.length := by omega
    rw [List.getElem?_append_right (by omega), hj, Nat.sub_self] at e2
    simp at e2
    subst e2
    have : j = L.length - 1 := by omega
    rw [this, ha] at e1
    injection e1 with e1
    subst e1
    rw [hj]
    exact hx
theorem PathR.unique {g : List Dp} {names : List Int} {f : Int} {b : Nat} {L L' : List Int} (h : PathR g names f b L) (h' : PathR g names f b L') (hl : L.length = b) (hl' : L'.length = b) : L = L' := by
  have key : ∀ j, j < b → L[j]? = L'[j]? := by
    intro j
    induction j with
    | zero => intro _; rw [h.2.2.1, h'.2.2.1]
    | succ j ih =>
      intro hj
      have ih := ih (by omega)
      have e1 := List.getElem?_eq_getElem (l := L) (i := j) (by omega)
      have e2 := List.getElem?_eq_getElem (l := L) (i := j + 1) (by omega)
      have e3 := List.getElem?_eq_getElem (l := L') (i := j + 1) (by omega)
      rw [e2, e3]
      congr 1
      exact (h.2.2.2 j _ _ e1 e2).unique (h'.2.2.2 j _ _ (ih ▸ e1) e3)
  refine List.ext_getElem? fun j => ?_
  rcases Nat.lt_or_ge j b with e | e
  · exact key j e
  · rw [List.getElem?_eq_none (by omega), List.getElem?_eq_none (by omega)]
/-- what a round is -/
def RoundOf (g : List Dp) (names L : List Int) : Prop := ∃ b f, BestR g names names.length b f ∧ ((b = 0 ∧ L = []) ∨ (0 < b ∧ (L.length : Int) = b ∧ PathR g names f b.toNat L))
theorem RoundOf.unique {g : List Dp} {names L L' : List Int} (h : RoundOf g names L) (h' : RoundOf g names L') : L = L' := by
  obtain ⟨b, f, hb, h⟩ := h
  obtain ⟨b', f', hb', h'⟩ := h'
  obtain ⟨rfl, rfl⟩ := hb.unique hb'
  rcases h with ⟨h0, rfl⟩ | ⟨h0, hl, hp⟩ <;> rcases h' with ⟨h0', rfl⟩ | ⟨h0', hl', hp'⟩
  · rfl
  · omega
  · omega
  · exact hp.unique hp' (by omega) (by omega)
/-- one can go on -/
theorem PathR.more {g : List Dp} {names : List Int} {f : Int} {b : Nat} {L : List Int} (hg : ∀ d ∈ g, d.f ∈ names ∧ d.t ∈ names) (h : PathR g names f b L) (ht : IsThr g f (b : Int)) (hl : L.length < b) {a : Int} (ha : L[L.length - 1]? = some a) : ∃ (q : Nat) (hq : q < names.length), leadsB g a names[q] = true ∧ IsMin g f (b - L.length) names[q] := by
  have fin : ∀ c, leadsB g a c = true → IsMin g f (b - L.length) c → ∃ (q : Nat) (hq : q < names.length), leadsB g a names[q] = true ∧ IsMin g f (b - L.length) names[q] := by
    intro c hc hm
    have hcn : c ∈ names := by
      obtain ⟨d, hd, _, rfl⟩ := leadsB_iff.1 hc
      exact (hg d hd).2
    obtain ⟨q, hq, rfl⟩ := List.mem_iff_getElem.1 hcn
    exact ⟨q, hq, hc, hm⟩
  obtain ⟨h1, h2, h3, h4⟩ := h
  rcases Nat.lt_or_ge 1 L.length with e | e
  · obtain ⟨j, hj⟩ : ∃ j, L.length = j + 2 := ⟨L.length - 2, by omega⟩
    have e1 := List.getElem?_eq_getElem (l := L) (i := j) (by omega)
    have e2 : L[j + 1]? = some a := by rw [← ha]; congr 1; omega
    obtain ⟨p, hp, _, _, hm, _⟩ := h4 j _ _ e1 e2
    obtain ⟨k, hk⟩ : ∃ k, b - (j + 1) = k + 1 := ⟨b - (j + 1) - 1, by omega⟩
    rw [hk] at hm
    obtain ⟨c, hc, hmc⟩ := hm.next
    refine fin c hc ?_
    have : b - L.length = k := by omega
    rw [this]
    exact hmc
  · have hL : L.length = 1 := by omega
    rw [hL, Nat.sub_self, h3] at ha
    injection ha with ha
    subst ha
    rcases ht with ⟨e0, _⟩ | ⟨k, ek, ⟨c, hc, hw⟩, hmin⟩
    · omega
    · refine fin c hc ?_
      have : b - L.length = k := by omega
      rw [this]
      exact ⟨hw, fun j hj hw' => hmin j hj ⟨c, hc, hw'⟩⟩
end Go.Proofs.Ytedcnpaomphffaa
namespace Go.Proofs.Ytedcnpaomphffaa
open Go.RowKit Go.Maps Go.Sort Go.Lib Go.Proofs.YtedcnpaomphffaaW.PrintWords Go.Proofs.YtedcnpaomphffaaW.PrintLast Go.Proofs.YtedcnpaomphffaaW.PrintMore
set_option linter.unusedVariables false
set_option linter.unusedSimpArgs false
set_option linter.unusedSectionVars false
/-! ### through -/
def ThJ (w : World) (g : List Dp) (names ds : List Int) (n : Int) (v9 v10 : Value) (wr : World) : Prop := ∃ (i : Nat) (b : Int), v10 = .int .i64 (i : Int) ∧ i ≤ names.length ∧ v9 = .int .i64 b ∧ BestT g names ds n i b ∧ wr = w
def ThPost (g : List Dp) (n : Int) (w : World) (e : Ending) (w' : World) : Prop := ∃ b, e = .returned (.int .i64 b) ∧ IsThr g n b ∧ w = w'
theorem far_small {g : List Dp} {names ds : List Int} {n : Int} (hg : ∀ d ∈ g, d.f ∈ names ∧ d.t ∈ names) (hn : n ∈ names) (hF : Far g names ds n) : ∀ k (hk : k < ds.length), -1 ≤ ds[k] ∧ ds[k] < names.length := by
  intro k hk
  have hk' : k < names.length := by rw [← hF.1]; exact hk
  rcases hF.2 k hk' hk with ⟨e, _⟩ | ⟨m, e, hm, hmin⟩
  · omega
  · have := min_lt hg hn ⟨hm, hmin⟩
    omega
end Go.Proofs.Ytedcnpaomphffaa
