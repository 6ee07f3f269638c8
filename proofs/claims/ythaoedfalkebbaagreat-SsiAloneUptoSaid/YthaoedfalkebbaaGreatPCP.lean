/- Cut by a program out of the seat's texts (RM RN RO RP XW XX XY RS RT): what the theorem needs, one behind the other. -/
import Derived.Test.YthaoedfalkebbaaGreatPCO
import Derived.Test.YthaoedfalkebbaaGreatPCF
import Derived.Test.YthaoedfalkebbaaGreatPCL
import Derived.Test.YthaoedfalkebbaaGreatPCK
namespace Go.Proofs.YthaoedfalkebbaaGreat
open Go.RowKit Go.Maps Go.Sort Go.Lib Go.Shelf Go.Proofs.YthaoedfalkebbaaGreatW.PrintWords Go.Proofs.YthaoedfalkebbaaGreatW.PrintLast Go.Proofs.YthaoedfalkebbaaGreatW.PrintMore
set_option linter.unusedVariables false
set_option linter.unusedSimpArgs false
set_option linter.unusedSectionVars false
set_option maxHeartbeats 16000000 in
set_option maxRecDepth 100000 in
theorem do_write (q p g i n c nw cw nv cv : Nat) (Aw Av : Option Addr) (tx last moment r L m : Int) (s1 s2 u : ByteArray) (b : Bool) (w w1 : World) (hw1 : w1 = w.alloc (.cells #[.int .i64 3, .int .i64 tx, .string s1, .string s2, .string u, .int .i64 last] 36)) (M Q : World → Prop) (hi : i < n) (hnb : n ≤ 1000000000000000) (hnv : nv ≤ 1000000000000000)
    (CEL : ∀ W, Below w1.heap.size w1 W → W.cell? ⟨q, 0, none⟩ = some (ptr p) ∧ W.cell? ⟨q, 3, none⟩ = some (.slice (some ⟨g, 0, none⟩) n c) ∧ BoxAt w.heap.size 3 tx s1 s2 u W)
    (OF : Calls Tryz.prog 23 #[ptr q, .int .i64 tx] w1 fun e w2 => e = .returned (.int .i64 i) ∧ Below w1.heap.size w1 w2)
    (NEW : ∀ V, Below w1.heap.size w1 V → Calls Tryz.prog 58 #[ptr q, .agg #[.string s1, .string s2], .int .i64 4611686018427387904] V fun e w3 => e = .returned (.int .i64 m) ∧ Below w1.heap.size w1 w3)
    (VER : 0 ≤ m → ∃ h k : Nat, Av = some ⟨h, 0, none⟩ ∧ m = (k : Int) ∧ k < nv ∧ ∀ V, Below w1.heap.size w1 V → V.cell? ⟨q, 2, none⟩ = some (.slice Av nv cv) ∧ V.cell? ⟨h, k * 5 + 2, none⟩ = some (.int .i64 L))
    (VER0 : m < 0 → L = 0)
    (RD : ∀ V k, Below w1.heap.size w1 V → Calls Tryz.prog 15 #[ptr p, .int .i64 tx, .agg #[.string s1, .string s2], .int .i64 L] (V.drewN k) fun e w3 => e = .returned (.int .i64 r) ∧ M w3)
    (MB : ∀ V, M V → V.cell? ⟨q, 0, none⟩ = some (ptr p) ∧ BoxAt w.heap.size 3 tx s1 s2 u V) (MD : ∀ V, M V → M V.drew) (QD : ∀ V, Q V → Q V.drew)
    (HAS : r = 0 → ∀ V, M V → V.cell? ⟨g, i * 8 + 7, none⟩ = some (.slice Aw nw cw) ∧ ∀ k, Calls Tryz.prog 22 #[.slice Aw nw cw, .agg #[.string s1, .string s2]] (V.drewN k) fun e w4 => e = .returned (.bool b) ∧ M w4)
    (IN : r = 0 → b = true → ∀ V, M V → Q V)
    (APP : r = 0 → b = false → ∀ V, M V → V.cell? ⟨g, i * 8 + 7, none⟩ = some (.slice Aw nw cw) ∧ ∃ A5 n5 c5 w5, (Builtin.append_ #[46, 46] 46 #[.slice Aw nw cw, .slice (some ⟨V.heap.size, 0, none⟩) 1 1]).run Tryz.prog (V.alloc (.cells #[.string s1, .string s2] 23)) = .ok (.slice A5 n5 c5) w5 ∧ w5.cell? ⟨g, i * 8 + 7, none⟩ = some (.slice Aw nw cw) ∧ w5.cell? ⟨w.heap.size, 2, none⟩ = some (.string s1) ∧ w5.cell? ⟨w.heap.size, 3, none⟩ = some (.string s2) ∧ w5.frozen? ⟨g, i * 8 + 7, none⟩ = false ∧ BoxAt w.heap.size 3 tx s1 s2 u (w5.setCell ⟨g, i * 8 + 7, none⟩ (.slice A5 n5 c5)) ∧ Q (w5.setCell ⟨g, i * 8 + 7, none⟩ (.slice A5 n5 c5)))
    (END : r ≠ 0 → ∀ V, M V → EndAt g i moment Q V) :
    Calls Tryz.prog 19 #[ptr q, .agg #[.int .i64 3, .int .i64 tx, .string s1, .string s2, .string u, .int .i64 last], .int .i64 moment] w fun e w' => e = .returned (.int .i64 r) ∧ Q w' := by
  obtain ⟨c0, c3, x0, x1, x2, x3, x4⟩ := CEL w1 (Below.refl _ _)
  replace CEL := Aside0.mk CEL
  replace END := Aside0.mk END
  replace HAS := Aside0.mk HAS
  replace MB := Aside0.mk MB
  replace MD := Aside0.mk MD
  replace QD := Aside0.mk QD
  replace IN := Aside0.mk IN
  replace APP := Aside0.mk APP
  replace RD := Aside0.mk RD
  replace NEW := Aside0.mk NEW
  go_enter Tryz.func19, Tryz.ntmps19
  go_upto_region 1 with (fail)
  rw [← hw1]
  clear hw1
  by_cases hm : 0 ≤ m
  · obtain ⟨h, k, rfl, rfl, hkv, VC⟩ := VER hm
    clear VER VER0
    replace VC := Aside0.mk VC
    go_wp2_with (first | (go_at_call 58; refine NEWw.mono ?_; rintro e w3 ⟨rfl, B3⟩; obtain ⟨v2, v22⟩ := VC.out w3 B3; clear c0' c3' x0' x1' x2' x3' x4' B2 NEWw; obtain ⟨c0', c3', x0', x1', x2', x3', x4'⟩ := CEL.out w3 B3) | (go_at_call 23; refine OF.mono ?_; rintro e w2 ⟨rfl, B2⟩; obtain ⟨c0', c3', x0', x1', x2', x3', x4'⟩ := CEL.out w2 B2; have NEWw := NEW.out w2 B2))
    clear c0 c3 x0 x1 x2 x3 x4 OF v2 v22

    have RDw := fun k => RD.out w3 k B3
    go_region_held3 (fun V => V.cell? ⟨q, 0, none⟩ = some (ptr p) ∧ V.cell? ⟨w.heap.size, 1, none⟩ = some (.int .i64 tx) ∧ V.cell? ⟨w.heap.size, 2, none⟩ = some (.string s1) ∧ V.cell? ⟨w.heap.size, 3, none⟩ = some (.string s2)) (first | exact K3 | exact ⟨c0', x1', x2', x3'⟩)
      ((go_at_call 15; refine (RDw _).mono ?_; rintro e w4 ⟨rfl, hM⟩; have K3 : w4.cell? ⟨q, 0, none⟩ = some (ptr p) ∧ w4.cell? ⟨w.heap.size, 1, none⟩ = some (.int .i64 tx) ∧ w4.cell? ⟨w.heap.size, 2, none⟩ = some (.string s1) ∧ w4.cell? ⟨w.heap.size, 3, none⟩ = some (.string s2) := ⟨(MB.out _ hM).1, (MB.out _ hM).2.2.1, (MB.out _ hM).2.2.2.1, (MB.out _ hM).2.2.2.2.1⟩))
    clear K3 RDw c0' c3' x0' x1' x2' x3' x4' B3
    obtain ⟨_, x0, x1, x2, x3, x4⟩ := MB.out _ hM
    by_cases hr : r = 0
    · subst hr
      obtain ⟨y7, HS⟩ := HAS.out (by simp) _ hM
      clear hM
      go_wp2_with fail
      go_region_held3 (fun V => V.cell? ⟨g, i * 8 + 7, none⟩ = some (.slice Aw nw cw) ∧ V.cell? ⟨w.heap.size, 2, none⟩ = some (.string s1) ∧ V.cell? ⟨w.heap.size, 3, none⟩ = some (.string s2)) (first | exact K3 | exact ⟨y7, x2, x3⟩)
        ((go_at_call 22; refine (HS _).mono ?_; rintro e w5 ⟨rfl, hM⟩; have K3 : w5.cell? ⟨g, i * 8 + 7, none⟩ = some (.slice Aw nw cw) ∧ w5.cell? ⟨w.heap.size, 2, none⟩ = some (.string s1) ∧ w5.cell? ⟨w.heap.size, 3, none⟩ = some (.string s2) := ⟨(HAS.out (by simp) _ hM).1, (MB.out _ hM).2.2.2.1, (MB.out _ hM).2.2.2.2.1⟩))
      clear K3 HS x0 x1 x2 x3 x4 y7
      cases b with
      | true =>
        replace IN := Aside0.mk (IN.out (by simp) rfl _ hM)
        obtain ⟨_, x0, x1, x2, x3, x4⟩ := MB.out _ hM
        clear hM
        go_wp2
        go_ret
        exact ⟨rfl, IN.out⟩
      | false =>
        have hM' := MD.out _ hM
        obtain ⟨_, x0, x1, x2, x3, x4⟩ := MB.out _ hM'
        obtain ⟨y7, A5, n5, c5, w6, hrun, f7, g2, g3, fz, ⟨z0, z1, z2, z3, z4⟩, hQ⟩ := APP.out (by simp) rfl _ hM'
        replace hQ := Aside0.mk hQ
        clear hM hM'
        go_wp2_with fail
        refine start_ (n := 12) (S := fun w' => w'.cell? ⟨g, i * 8 + 7, none⟩ = some (.slice Aw nw cw) ∧ w'.cell? ⟨w.heap.size, 2, none⟩ = some (.string s1) ∧ w'.cell? ⟨w.heap.size, 3, none⟩ = some (.string s2)) (ds := [11]) #[false, false, false, false, false, false, false, false, false, false, false, false] (by kernel_rfl) rfl rfl ⟨y7, x2, x3⟩ (fun hHeld => ?_)
        refine pure_ (i := 0) (N := some 194) (v := ?_) (a' := ?_) #[true, false, false, false, false, false, false, false, false, false, false, false] rfl rfl (by kernel_rfl) (fun _ _ _ h => h) (Or.inl ⟨by rfl, ?_⟩) ?_ ?_
        rotate_left
        · intro w'
          go_simp
          with_reducible rfl
        rotate_left
        · simp only [Act.put, List.setIfInBounds_toArray, List.set_cons_zero, List.set_cons_succ, i64_w, i32_w]
          rfl
        refine pure_ (i := 1) (N := some 195) (v := ?_) (a' := ?_) #[true, true, false, false, false, false, false, false, false, false, false, false] rfl rfl (by kernel_rfl) (fun _ _ _ h => h) (Or.inl ⟨by rfl, ?_⟩) ?_ ?_
        rotate_left
        · intro w'
          go_simp
          with_reducible rfl
        rotate_left
        · simp only [Act.put, List.setIfInBounds_toArray, List.set_cons_zero, List.set_cons_succ, i64_w, i32_w]
          rfl
        refine pure_ (i := 2) (N := some 196) (v := ?_) (a' := ?_) #[true, true, true, false, false, false, false, false, false, false, false, false] rfl rfl (by kernel_rfl) (fun _ _ _ h => h) (Or.inl ⟨by rfl, ?_⟩) ?_ ?_
        rotate_left
        · intro w'
          go_simp
          with_reducible rfl
        rotate_left
        · simp only [Act.put, List.setIfInBounds_toArray, List.set_cons_zero, List.set_cons_succ, i64_w, i32_w]
          rfl
        refine pure_ (i := 3) (N := some 197) (v := ?_) (a' := ?_) #[true, true, true, true, false, false, false, false, false, false, false, false] rfl rfl (by kernel_rfl) (fun _ _ _ h => h) (Or.inl ⟨by rfl, ?_⟩) ?_ ?_
        rotate_left
        · intro w'
          go_simp
          with_reducible rfl
        rotate_left
        · simp only [Act.put, List.setIfInBounds_toArray, List.set_cons_zero, List.set_cons_succ, i64_w, i32_w]
          rfl
        refine pure_ (i := 5) (N := some 199) (v := ?_) (a' := ?_) #[true, true, true, true, false, true, false, false, false, false, false, false] rfl rfl (by kernel_rfl) (fun _ _ _ h => h) (Or.inl ⟨by rfl, ?_⟩) ?_ ?_
        rotate_left
        · intro w'
          go_simp
          with_reducible rfl
        rotate_left
        · simp only [Act.put, List.setIfInBounds_toArray, List.set_cons_zero, List.set_cons_succ, i64_w, i32_w]
          rfl
        refine take_ (i := 4) (N := some 198) (v := ?_) (a' := ?_) #[true, true, true, true, true, true, false, false, false, false, false, false] rfl rfl (by kernel_rfl) (fun _ _ _ h => h) (Or.inl ⟨by rfl, ?_⟩) hHeld ?_ ?_
        rotate_left
        · rintro w' ⟨s0, s1, s2⟩
          go_simp
          with_reducible rfl
        rotate_left
        · simp only [Act.put, List.setIfInBounds_toArray, List.set_cons_zero, List.set_cons_succ, i64_w, i32_w]
          rfl
        refine take_ (i := 6) (N := some 200) (v := ?_) (a' := ?_) #[true, true, true, true, true, true, true, false, false, false, false, false] rfl rfl (by kernel_rfl) (fun _ _ _ h => h) (Or.inl ⟨by rfl, ?_⟩) hHeld ?_ ?_
        rotate_left
        · rintro w' ⟨s0, s1, s2⟩
          go_simp
          with_reducible rfl
        rotate_left
        · simp only [Act.put, List.setIfInBounds_toArray, List.set_cons_zero, List.set_cons_succ, i64_w, i32_w]
          rfl
        refine one_ (i := 7) (N := some 201) #[true, true, true, true, true, true, true, true, false, false, false, false] rfl rfl (by kernel_rfl) (by decide) (fun K hK => ?_)
        refine value_ (w1 := ?_) (v := ?_) (by rfl) rfl ?_ ?_
        rotate_left 2
        · go_simp
          constructor
          · rfl
          · rfl
        refine hK.out _ _ ⟨below_cell (allocB _ _) y7, below_cell (allocB _ _) x2, below_cell (allocB _ _) x3⟩ (fun hHeld => ?_)
        clear hK K
        refine norm_ (a' := ?_) ?_ ?_
        rotate_left
        · show Act.put _ (some 201) _ = _
          simp only [Act.put, List.setIfInBounds_toArray, List.set_cons_zero, List.set_cons_succ, i64_w, i32_w]
          rfl
        refine one_ (i := 8) (N := some 202) #[true, true, true, true, true, true, true, true, true, false, false, false] rfl rfl (by kernel_rfl) (by decide) (fun K hK => ?_)
        refine app_step (by rfl) (by rfl) (by rfl) (by rfl) hrun ?_
        refine hK.out _ _ ⟨f7, g2, g3⟩ (fun hHeld => ?_)
        clear hK K
        refine norm_ (a' := ?_) ?_ ?_
        rotate_left
        · show Act.put _ (some 202) _ = _
          simp only [Act.put, List.setIfInBounds_toArray, List.set_cons_zero, List.set_cons_succ, i64_w, i32_w]
          rfl
        refine pure_ (i := 9) (N := some 203) (v := ?_) (a' := ?_) #[true, true, true, true, true, true, true, true, true, true, false, false] rfl rfl (by kernel_rfl) (fun _ _ _ h => h) (Or.inl ⟨by rfl, ?_⟩) ?_ ?_
        rotate_left
        · intro w'
          go_simp
          with_reducible rfl
        rotate_left
        · simp only [Act.put, List.setIfInBounds_toArray, List.set_cons_zero, List.set_cons_succ, i64_w, i32_w]
          rfl
        refine pure_ (i := 10) (N := some 204) (v := ?_) (a' := ?_) #[true, true, true, true, true, true, true, true, true, true, true, false] rfl rfl (by kernel_rfl) (fun _ _ _ h => h) (Or.inl ⟨by rfl, ?_⟩) ?_ ?_
        rotate_left
        · intro w'
          go_simp
          with_reducible rfl
        rotate_left
        · simp only [Act.put, List.setIfInBounds_toArray, List.set_cons_zero, List.set_cons_succ, i64_w, i32_w]
          rfl
        refine last_ (i := 11) (N := none) #[true, true, true, true, true, true, true, true, true, true, true, true] rfl rfl (by kernel_rfl) (by decide) (fun K hK => ?_)
        refine skip_ (w1 := ?_) (by rfl) rfl ?_ ?_
        rotate_left
        · go_simp
          rfl
        refine hK.out _ _ ?_
        clear hK K
        refine done_ (by kernel_rfl) ?_

        clear hrun x0 x1 x2 x3 x4 y7 f7 g2 g3 fz
        go_wp2
        go_ret
        exact ⟨rfl, hQ.out⟩
    · obtain ⟨⟨u5, hu5⟩, fz5, E⟩ := END.out hr _ hM
      clear hM
      obtain ⟨V5, hV5⟩ : ∃ V5, V5 = w4.setCell ⟨g, i * 8 + 5, none⟩ (.bool true) := ⟨_, rfl⟩
      obtain ⟨⟨u3, hu3⟩, fz3, hQ⟩ := E V5 hV5
      replace hQ := Aside0.mk hQ
      clear E
      have hr2 : (r == 0) = false := by simpa using hr
      have hr3 : decide (r = 0) = false := by simpa using hr
      go_wp2_with fail
      refine start_ (n := 12) (S := fun w' => True) (ds := []) #[false, false, false, false, false, false, false, false, false, false, false, false] (by kernel_rfl) rfl rfl trivial (fun hHeld => ?_)
      refine pure_ (i := 0) (N := some 182) (v := ?_) (a' := ?_) #[true, false, false, false, false, false, false, false, false, false, false, false] rfl rfl (by kernel_rfl) (fun _ _ _ h => h) (Or.inl ⟨by rfl, ?_⟩) ?_ ?_
      rotate_left
      · intro w'
        go_simp
        with_reducible rfl
      rotate_left
      · simp only [Act.put, List.setIfInBounds_toArray, List.set_cons_zero, List.set_cons_succ, i64_w, i32_w]
        rfl
      refine pure_ (i := 1) (N := some 183) (v := ?_) (a' := ?_) #[true, true, false, false, false, false, false, false, false, false, false, false] rfl rfl (by kernel_rfl) (fun _ _ _ h => h) (Or.inl ⟨by rfl, ?_⟩) ?_ ?_
      rotate_left
      · intro w'
        go_simp
        with_reducible rfl
      rotate_left
      · simp only [Act.put, List.setIfInBounds_toArray, List.set_cons_zero, List.set_cons_succ, i64_w, i32_w]
        rfl
      refine pure_ (i := 2) (N := some 184) (v := ?_) (a' := ?_) #[true, true, true, false, false, false, false, false, false, false, false, false] rfl rfl (by kernel_rfl) (fun _ _ _ h => h) (Or.inl ⟨by rfl, ?_⟩) ?_ ?_
      rotate_left
      · intro w'
        go_simp
        with_reducible rfl
      rotate_left
      · simp only [Act.put, List.setIfInBounds_toArray, List.set_cons_zero, List.set_cons_succ, i64_w, i32_w]
        rfl
      refine pure_ (i := 3) (N := some 185) (v := undef) (a' := ?_) #[true, true, true, true, false, false, false, false, false, false, false, false] rfl rfl (by kernel_rfl) (fun _ _ _ h => h) (Or.inr ⟨by rfl, rfl⟩) ?_ ?_
      rotate_left
      · simp only [Act.put, List.setIfInBounds_toArray, List.set_cons_zero, List.set_cons_succ, i64_w, i32_w]
        rfl
      refine pure_ (i := 4) (N := some 186) (v := undef) (a' := ?_) #[true, true, true, true, true, false, false, false, false, false, false, false] rfl rfl (by kernel_rfl) (fun _ _ _ h => h) (Or.inr ⟨by rfl, rfl⟩) ?_ ?_
      rotate_left
      · simp only [Act.put, List.setIfInBounds_toArray, List.set_cons_zero, List.set_cons_succ, i64_w, i32_w]
        rfl
      refine pure_ (i := 5) (N := some 187) (v := undef) (a' := ?_) #[true, true, true, true, true, true, false, false, false, false, false, false] rfl rfl (by kernel_rfl) (fun _ _ _ h => h) (Or.inr ⟨by rfl, rfl⟩) ?_ ?_
      rotate_left
      · simp only [Act.put, List.setIfInBounds_toArray, List.set_cons_zero, List.set_cons_succ, i64_w, i32_w]
        rfl
      refine pure_ (i := 6) (N := some 188) (v := undef) (a' := ?_) #[true, true, true, true, true, true, true, false, false, false, false, false] rfl rfl (by kernel_rfl) (fun _ _ _ h => h) (Or.inr ⟨by rfl, rfl⟩) ?_ ?_
      rotate_left
      · simp only [Act.put, List.setIfInBounds_toArray, List.set_cons_zero, List.set_cons_succ, i64_w, i32_w]
        rfl
      refine pure_ (i := 7) (N := some 189) (v := undef) (a' := ?_) #[true, true, true, true, true, true, true, true, false, false, false, false] rfl rfl (by kernel_rfl) (fun _ _ _ h => h) (Or.inr ⟨by rfl, rfl⟩) ?_ ?_
      rotate_left
      · simp only [Act.put, List.setIfInBounds_toArray, List.set_cons_zero, List.set_cons_succ, i64_w, i32_w]
        rfl
      refine pure_ (i := 8) (N := some 190) (v := undef) (a' := ?_) #[true, true, true, true, true, true, true, true, true, false, false, false] rfl rfl (by kernel_rfl) (fun _ _ _ h => h) (Or.inr ⟨by rfl, rfl⟩) ?_ ?_
      rotate_left
      · simp only [Act.put, List.setIfInBounds_toArray, List.set_cons_zero, List.set_cons_succ, i64_w, i32_w]
        rfl
      refine pure_ (i := 9) (N := some 191) (v := undef) (a' := ?_) #[true, true, true, true, true, true, true, true, true, true, false, false] rfl rfl (by kernel_rfl) (fun _ _ _ h => h) (Or.inr ⟨by rfl, rfl⟩) ?_ ?_
      rotate_left
      · simp only [Act.put, List.setIfInBounds_toArray, List.set_cons_zero, List.set_cons_succ, i64_w, i32_w]
        rfl
      refine pure_ (i := 10) (N := some 192) (v := undef) (a' := ?_) #[true, true, true, true, true, true, true, true, true, true, true, false] rfl rfl (by kernel_rfl) (fun _ _ _ h => h) (Or.inr ⟨by rfl, rfl⟩) ?_ ?_
      rotate_left
      · simp only [Act.put, List.setIfInBounds_toArray, List.set_cons_zero, List.set_cons_succ, i64_w, i32_w]
        rfl
      refine pure_ (i := 11) (N := some 193) (v := ?_) (a' := ?_) #[true, true, true, true, true, true, true, true, true, true, true, true] rfl rfl (by kernel_rfl) (fun _ _ _ h => h) (Or.inl ⟨by rfl, ?_⟩) ?_ ?_
      rotate_left
      · intro w'
        go_simp
        with_reducible rfl
      rotate_left
      · simp only [Act.put, List.setIfInBounds_toArray, List.set_cons_zero, List.set_cons_succ, i64_w, i32_w]
        rfl
      refine done_ (by kernel_rfl) ?_

      go_upto_region 49 with (fail)
      rw [← hV5]
      clear hV5
      go_wp2
      go_ret
      exact ⟨rfl, QD.out _ hQ.out⟩

  · have hL := VER0 (by omega)
    subst hL
    clear VER VER0
    go_wp2_with (first | (go_at_call 58; refine NEWw.mono ?_; rintro e w3 ⟨rfl, B3⟩; clear c0' c3' x0' x1' x2' x3' x4' B2 NEWw; obtain ⟨c0', c3', x0', x1', x2', x3', x4'⟩ := CEL.out w3 B3) | (go_at_call 23; refine OF.mono ?_; rintro e w2 ⟨rfl, B2⟩; obtain ⟨c0', c3', x0', x1', x2', x3', x4'⟩ := CEL.out w2 B2; have NEWw := NEW.out w2 B2))
    clear c0 c3 x0 x1 x2 x3 x4 OF

    have RDw := fun k => RD.out w3 k B3
    go_region_held3 (fun V => V.cell? ⟨q, 0, none⟩ = some (ptr p) ∧ V.cell? ⟨w.heap.size, 1, none⟩ = some (.int .i64 tx) ∧ V.cell? ⟨w.heap.size, 2, none⟩ = some (.string s1) ∧ V.cell? ⟨w.heap.size, 3, none⟩ = some (.string s2)) (first | exact K3 | exact ⟨c0', x1', x2', x3'⟩)
      ((go_at_call 15; refine (RDw _).mono ?_; rintro e w4 ⟨rfl, hM⟩; have K3 : w4.cell? ⟨q, 0, none⟩ = some (ptr p) ∧ w4.cell? ⟨w.heap.size, 1, none⟩ = some (.int .i64 tx) ∧ w4.cell? ⟨w.heap.size, 2, none⟩ = some (.string s1) ∧ w4.cell? ⟨w.heap.size, 3, none⟩ = some (.string s2) := ⟨(MB.out _ hM).1, (MB.out _ hM).2.2.1, (MB.out _ hM).2.2.2.1, (MB.out _ hM).2.2.2.2.1⟩))
    clear K3 RDw c0' c3' x0' x1' x2' x3' x4' B3
    obtain ⟨_, x0, x1, x2, x3, x4⟩ := MB.out _ hM
    by_cases hr : r = 0
    · subst hr
      obtain ⟨y7, HS⟩ := HAS.out (by simp) _ hM
      clear hM
      go_wp2_with fail
      go_region_held3 (fun V => V.cell? ⟨g, i * 8 + 7, none⟩ = some (.slice Aw nw cw) ∧ V.cell? ⟨w.heap.size, 2, none⟩ = some (.string s1) ∧ V.cell? ⟨w.heap.size, 3, none⟩ = some (.string s2)) (first | exact K3 | exact ⟨y7, x2, x3⟩)
        ((go_at_call 22; refine (HS _).mono ?_; rintro e w5 ⟨rfl, hM⟩; have K3 : w5.cell? ⟨g, i * 8 + 7, none⟩ = some (.slice Aw nw cw) ∧ w5.cell? ⟨w.heap.size, 2, none⟩ = some (.string s1) ∧ w5.cell? ⟨w.heap.size, 3, none⟩ = some (.string s2) := ⟨(HAS.out (by simp) _ hM).1, (MB.out _ hM).2.2.2.1, (MB.out _ hM).2.2.2.2.1⟩))
      clear K3 HS x0 x1 x2 x3 x4 y7
      cases b with
      | true =>
        replace IN := Aside0.mk (IN.out (by simp) rfl _ hM)
        obtain ⟨_, x0, x1, x2, x3, x4⟩ := MB.out _ hM
        clear hM
        go_wp2
        go_ret
        exact ⟨rfl, IN.out⟩
      | false =>
        have hM' := MD.out _ hM
        obtain ⟨_, x0, x1, x2, x3, x4⟩ := MB.out _ hM'
        obtain ⟨y7, A5, n5, c5, w6, hrun, f7, g2, g3, fz, ⟨z0, z1, z2, z3, z4⟩, hQ⟩ := APP.out (by simp) rfl _ hM'
        replace hQ := Aside0.mk hQ
        clear hM hM'
        go_wp2_with fail
        refine start_ (n := 12) (S := fun w' => w'.cell? ⟨g, i * 8 + 7, none⟩ = some (.slice Aw nw cw) ∧ w'.cell? ⟨w.heap.size, 2, none⟩ = some (.string s1) ∧ w'.cell? ⟨w.heap.size, 3, none⟩ = some (.string s2)) (ds := [11]) #[false, false, false, false, false, false, false, false, false, false, false, false] (by kernel_rfl) rfl rfl ⟨y7, x2, x3⟩ (fun hHeld => ?_)
        refine pure_ (i := 0) (N := some 194) (v := ?_) (a' := ?_) #[true, false, false, false, false, false, false, false, false, false, false, false] rfl rfl (by kernel_rfl) (fun _ _ _ h => h) (Or.inl ⟨by rfl, ?_⟩) ?_ ?_
        rotate_left
        · intro w'
          go_simp
          with_reducible rfl
        rotate_left
        · simp only [Act.put, List.setIfInBounds_toArray, List.set_cons_zero, List.set_cons_succ, i64_w, i32_w]
          rfl
        refine pure_ (i := 1) (N := some 195) (v := ?_) (a' := ?_) #[true, true, false, false, false, false, false, false, false, false, false, false] rfl rfl (by kernel_rfl) (fun _ _ _ h => h) (Or.inl ⟨by rfl, ?_⟩) ?_ ?_
        rotate_left
        · intro w'
          go_simp
          with_reducible rfl
        rotate_left
        · simp only [Act.put, List.setIfInBounds_toArray, List.set_cons_zero, List.set_cons_succ, i64_w, i32_w]
          rfl
        refine pure_ (i := 2) (N := some 196) (v := ?_) (a' := ?_) #[true, true, true, false, false, false, false, false, false, false, false, false] rfl rfl (by kernel_rfl) (fun _ _ _ h => h) (Or.inl ⟨by rfl, ?_⟩) ?_ ?_
        rotate_left
        · intro w'
          go_simp
          with_reducible rfl
        rotate_left
        · simp only [Act.put, List.setIfInBounds_toArray, List.set_cons_zero, List.set_cons_succ, i64_w, i32_w]
          rfl
        refine pure_ (i := 3) (N := some 197) (v := ?_) (a' := ?_) #[true, true, true, true, false, false, false, false, false, false, false, false] rfl rfl (by kernel_rfl) (fun _ _ _ h => h) (Or.inl ⟨by rfl, ?_⟩) ?_ ?_
        rotate_left
        · intro w'
          go_simp
          with_reducible rfl
        rotate_left
        · simp only [Act.put, List.setIfInBounds_toArray, List.set_cons_zero, List.set_cons_succ, i64_w, i32_w]
          rfl
        refine pure_ (i := 5) (N := some 199) (v := ?_) (a' := ?_) #[true, true, true, true, false, true, false, false, false, false, false, false] rfl rfl (by kernel_rfl) (fun _ _ _ h => h) (Or.inl ⟨by rfl, ?_⟩) ?_ ?_
        rotate_left
        · intro w'
          go_simp
          with_reducible rfl
        rotate_left
        · simp only [Act.put, List.setIfInBounds_toArray, List.set_cons_zero, List.set_cons_succ, i64_w, i32_w]
          rfl
        refine take_ (i := 4) (N := some 198) (v := ?_) (a' := ?_) #[true, true, true, true, true, true, false, false, false, false, false, false] rfl rfl (by kernel_rfl) (fun _ _ _ h => h) (Or.inl ⟨by rfl, ?_⟩) hHeld ?_ ?_
        rotate_left
        · rintro w' ⟨s0, s1, s2⟩
          go_simp
          with_reducible rfl
        rotate_left
        · simp only [Act.put, List.setIfInBounds_toArray, List.set_cons_zero, List.set_cons_succ, i64_w, i32_w]
          rfl
        refine take_ (i := 6) (N := some 200) (v := ?_) (a' := ?_) #[true, true, true, true, true, true, true, false, false, false, false, false] rfl rfl (by kernel_rfl) (fun _ _ _ h => h) (Or.inl ⟨by rfl, ?_⟩) hHeld ?_ ?_
        rotate_left
        · rintro w' ⟨s0, s1, s2⟩
          go_simp
          with_reducible rfl
        rotate_left
        · simp only [Act.put, List.setIfInBounds_toArray, List.set_cons_zero, List.set_cons_succ, i64_w, i32_w]
          rfl
        refine one_ (i := 7) (N := some 201) #[true, true, true, true, true, true, true, true, false, false, false, false] rfl rfl (by kernel_rfl) (by decide) (fun K hK => ?_)
        refine value_ (w1 := ?_) (v := ?_) (by rfl) rfl ?_ ?_
        rotate_left 2
        · go_simp
          constructor
          · rfl
          · rfl
        refine hK.out _ _ ⟨below_cell (allocB _ _) y7, below_cell (allocB _ _) x2, below_cell (allocB _ _) x3⟩ (fun hHeld => ?_)
        clear hK K
        refine norm_ (a' := ?_) ?_ ?_
        rotate_left
        · show Act.put _ (some 201) _ = _
          simp only [Act.put, List.setIfInBounds_toArray, List.set_cons_zero, List.set_cons_succ, i64_w, i32_w]
          rfl
        refine one_ (i := 8) (N := some 202) #[true, true, true, true, true, true, true, true, true, false, false, false] rfl rfl (by kernel_rfl) (by decide) (fun K hK => ?_)
        refine app_step (by rfl) (by rfl) (by rfl) (by rfl) hrun ?_
        refine hK.out _ _ ⟨f7, g2, g3⟩ (fun hHeld => ?_)
        clear hK K
        refine norm_ (a' := ?_) ?_ ?_
        rotate_left
        · show Act.put _ (some 202) _ = _
          simp only [Act.put, List.setIfInBounds_toArray, List.set_cons_zero, List.set_cons_succ, i64_w, i32_w]
          rfl
        refine pure_ (i := 9) (N := some 203) (v := ?_) (a' := ?_) #[true, true, true, true, true, true, true, true, true, true, false, false] rfl rfl (by kernel_rfl) (fun _ _ _ h => h) (Or.inl ⟨by rfl, ?_⟩) ?_ ?_
        rotate_left
        · intro w'
          go_simp
          with_reducible rfl
        rotate_left
        · simp only [Act.put, List.setIfInBounds_toArray, List.set_cons_zero, List.set_cons_succ, i64_w, i32_w]
          rfl
        refine pure_ (i := 10) (N := some 204) (v := ?_) (a' := ?_) #[true, true, true, true, true, true, true, true, true, true, true, false] rfl rfl (by kernel_rfl) (fun _ _ _ h => h) (Or.inl ⟨by rfl, ?_⟩) ?_ ?_
        rotate_left
        · intro w'
          go_simp
          with_reducible rfl
        rotate_left
        · simp only [Act.put, List.setIfInBounds_toArray, List.set_cons_zero, List.set_cons_succ, i64_w, i32_w]
          rfl
        refine last_ (i := 11) (N := none) #[true, true, true, true, true, true, true, true, true, true, true, true] rfl rfl (by kernel_rfl) (by decide) (fun K hK => ?_)
        refine skip_ (w1 := ?_) (by rfl) rfl ?_ ?_
        rotate_left
        · go_simp
          rfl
        refine hK.out _ _ ?_
        clear hK K
        refine done_ (by kernel_rfl) ?_

        clear hrun x0 x1 x2 x3 x4 y7 f7 g2 g3 fz
        go_wp2
        go_ret
        exact ⟨rfl, hQ.out⟩
    · obtain ⟨⟨u5, hu5⟩, fz5, E⟩ := END.out hr _ hM
      clear hM
      obtain ⟨V5, hV5⟩ : ∃ V5, V5 = w4.setCell ⟨g, i * 8 + 5, none⟩ (.bool true) := ⟨_, rfl⟩
      obtain ⟨⟨u3, hu3⟩, fz3, hQ⟩ := E V5 hV5
      replace hQ := Aside0.mk hQ
      clear E
      have hr2 : (r == 0) = false := by simpa using hr
      have hr3 : decide (r = 0) = false := by simpa using hr
      go_wp2_with fail
      refine start_ (n := 12) (S := fun w' => True) (ds := []) #[false, false, false, false, false, false, false, false, false, false, false, false] (by kernel_rfl) rfl rfl trivial (fun hHeld => ?_)
      refine pure_ (i := 0) (N := some 182) (v := ?_) (a' := ?_) #[true, false, false, false, false, false, false, false, false, false, false, false] rfl rfl (by kernel_rfl) (fun _ _ _ h => h) (Or.inl ⟨by rfl, ?_⟩) ?_ ?_
      rotate_left
      · intro w'
        go_simp
        with_reducible rfl
      rotate_left
      · simp only [Act.put, List.setIfInBounds_toArray, List.set_cons_zero, List.set_cons_succ, i64_w, i32_w]
        rfl
      refine pure_ (i := 1) (N := some 183) (v := ?_) (a' := ?_) #[true, true, false, false, false, false, false, false, false, false, false, false] rfl rfl (by kernel_rfl) (fun _ _ _ h => h) (Or.inl ⟨by rfl, ?_⟩) ?_ ?_
      rotate_left
      · intro w'
        go_simp
        with_reducible rfl
      rotate_left
      · simp only [Act.put, List.setIfInBounds_toArray, List.set_cons_zero, List.set_cons_succ, i64_w, i32_w]
        rfl
      refine pure_ (i := 2) (N := some 184) (v := ?_) (a' := ?_) #[true, true, true, false, false, false, false, false, false, false, false, false] rfl rfl (by kernel_rfl) (fun _ _ _ h => h) (Or.inl ⟨by rfl, ?_⟩) ?_ ?_
      rotate_left
      · intro w'
        go_simp
        with_reducible rfl
      rotate_left
      · simp only [Act.put, List.setIfInBounds_toArray, List.set_cons_zero, List.set_cons_succ, i64_w, i32_w]
        rfl
      refine pure_ (i := 3) (N := some 185) (v := undef) (a' := ?_) #[true, true, true, true, false, false, false, false, false, false, false, false] rfl rfl (by kernel_rfl) (fun _ _ _ h => h) (Or.inr ⟨by rfl, rfl⟩) ?_ ?_
      rotate_left
      · simp only [Act.put, List.setIfInBounds_toArray, List.set_cons_zero, List.set_cons_succ, i64_w, i32_w]
        rfl
      refine pure_ (i := 4) (N := some 186) (v := undef) (a' := ?_) #[true, true, true, true, true, false, false, false, false, false, false, false] rfl rfl (by kernel_rfl) (fun _ _ _ h => h) (Or.inr ⟨by rfl, rfl⟩) ?_ ?_
      rotate_left
      · simp only [Act.put, List.setIfInBounds_toArray, List.set_cons_zero, List.set_cons_succ, i64_w, i32_w]
        rfl
      refine pure_ (i := 5) (N := some 187) (v := undef) (a' := ?_) #[true, true, true, true, true, true, false, false, false, false, false, false] rfl rfl (by kernel_rfl) (fun _ _ _ h => h) (Or.inr ⟨by rfl, rfl⟩) ?_ ?_
      rotate_left
      · simp only [Act.put, List.setIfInBounds_toArray, List.set_cons_zero, List.set_cons_succ, i64_w, i32_w]
        rfl
      refine pure_ (i := 6) (N := some 188) (v := undef) (a' := ?_) #[true, true, true, true, true, true, true, false, false, false, false, false] rfl rfl (by kernel_rfl) (fun _ _ _ h => h) (Or.inr ⟨by rfl, rfl⟩) ?_ ?_
      rotate_left
      · simp only [Act.put, List.setIfInBounds_toArray, List.set_cons_zero, List.set_cons_succ, i64_w, i32_w]
        rfl
      refine pure_ (i := 7) (N := some 189) (v := undef) (a' := ?_) #[true, true, true, true, true, true, true, true, false, false, false, false] rfl rfl (by kernel_rfl) (fun _ _ _ h => h) (Or.inr ⟨by rfl, rfl⟩) ?_ ?_
      rotate_left
      · simp only [Act.put, List.setIfInBounds_toArray, List.set_cons_zero, List.set_cons_succ, i64_w, i32_w]
        rfl
      refine pure_ (i := 8) (N := some 190) (v := undef) (a' := ?_) #[true, true, true, true, true, true, true, true, true, false, false, false] rfl rfl (by kernel_rfl) (fun _ _ _ h => h) (Or.inr ⟨by rfl, rfl⟩) ?_ ?_
      rotate_left
      · simp only [Act.put, List.setIfInBounds_toArray, List.set_cons_zero, List.set_cons_succ, i64_w, i32_w]
        rfl
      refine pure_ (i := 9) (N := some 191) (v := undef) (a' := ?_) #[true, true, true, true, true, true, true, true, true, true, false, false] rfl rfl (by kernel_rfl) (fun _ _ _ h => h) (Or.inr ⟨by rfl, rfl⟩) ?_ ?_
      rotate_left
      · simp only [Act.put, List.setIfInBounds_toArray, List.set_cons_zero, List.set_cons_succ, i64_w, i32_w]
        rfl
      refine pure_ (i := 10) (N := some 192) (v := undef) (a' := ?_) #[true, true, true, true, true, true, true, true, true, true, true, false] rfl rfl (by kernel_rfl) (fun _ _ _ h => h) (Or.inr ⟨by rfl, rfl⟩) ?_ ?_
      rotate_left
      · simp only [Act.put, List.setIfInBounds_toArray, List.set_cons_zero, List.set_cons_succ, i64_w, i32_w]
        rfl
      refine pure_ (i := 11) (N := some 193) (v := ?_) (a' := ?_) #[true, true, true, true, true, true, true, true, true, true, true, true] rfl rfl (by kernel_rfl) (fun _ _ _ h => h) (Or.inl ⟨by rfl, ?_⟩) ?_ ?_
      rotate_left
      · intro w'
        go_simp
        with_reducible rfl
      rotate_left
      · simp only [Act.put, List.setIfInBounds_toArray, List.set_cons_zero, List.set_cons_succ, i64_w, i32_w]
        rfl
      refine done_ (by kernel_rfl) ?_

      go_upto_region 49 with (fail)
      rw [← hV5]
      clear hV5
      go_wp2
      go_ret
      exact ⟨rfl, QD.out _ hQ.out⟩
end Go.Proofs.YthaoedfalkebbaaGreat
namespace Go.Proofs.YthaoedfalkebbaaGreat
open Go.RowKit Go.Maps Go.Sort Go.Lib Go.Shelf Go.Proofs.YthaoedfalkebbaaGreatW.PrintWords Go.Proofs.YthaoedfalkebbaaGreatW.PrintLast Go.Proofs.YthaoedfalkebbaaGreatW.PrintMore
set_option linter.unusedVariables false
set_option linter.unusedSimpArgs false
set_option linter.unusedSectionVars false
set_option maxHeartbeats 16000000 in
set_option maxRecDepth 100000 in
theorem do_abort (q p g i n c : Nat) (tx last moment r : Int) (s1 s2 u : ByteArray) (w w1 : World) (hw1 : w1 = w.alloc (.cells #[.int .i64 5, .int .i64 tx, .string s1, .string s2, .string u, .int .i64 last] 36)) (M Q : World → Prop) (hi : i < n) (hnb : n ≤ 1000000000000000)
    (CEL : ∀ W, Below w1.heap.size w1 W → W.cell? ⟨q, 0, none⟩ = some (ptr p) ∧ W.cell? ⟨q, 3, none⟩ = some (.slice (some ⟨g, 0, none⟩) n c) ∧ BoxAt w.heap.size 5 tx s1 s2 u W)
    (OF : Calls Tryz.prog 23 #[ptr q, .int .i64 tx] w1 fun e w2 => e = .returned (.int .i64 i) ∧ Below w1.heap.size w1 w2)
    (RD : ∀ V k, Below w1.heap.size w1 V → Calls Tryz.prog 25 #[ptr p, .int .i64 tx] (V.drewN k) fun e w3 => e = .returned (.int .i64 r) ∧ M w3)
    (MB : ∀ V, M V → V.cell? ⟨q, 0, none⟩ = some (ptr p) ∧ BoxAt w.heap.size 5 tx s1 s2 u V)
    (END : ∀ V, M V → EndAt g i moment Q V) :
    Calls Tryz.prog 19 #[ptr q, .agg #[.int .i64 5, .int .i64 tx, .string s1, .string s2, .string u, .int .i64 last], .int .i64 moment] w fun e w' => e = .returned (.int .i64 r) ∧ Q w' := by
  obtain ⟨c0, c3, x0, x1, x2, x3, x4⟩ := CEL w1 (Below.refl _ _)
  replace CEL := Aside0.mk CEL
  replace END := Aside0.mk END
  replace MB := Aside0.mk MB
  replace RD := Aside0.mk RD
  go_enter Tryz.func19, Tryz.ntmps19
  go_upto_region 1 with (fail)
  rw [← hw1]
  clear hw1
  go_wp2_with (go_at_call 23; refine OF.mono ?_; rintro e w2 ⟨rfl, B2⟩; obtain ⟨c0', c3', x0', x1', x2', x3', x4'⟩ := CEL.out w2 B2)
  clear c0 c3 x0 x1 x2 x3 x4 OF
  have RDw := fun k => RD.out w2 k B2
  go_region_held3 (fun V => V.cell? ⟨q, 0, none⟩ = some (ptr p) ∧ V.cell? ⟨w.heap.size, 1, none⟩ = some (.int .i64 tx)) (first | exact K3 | exact ⟨c0', x1'⟩)
    ((go_at_call 25; refine (RDw _).mono ?_; rintro e w3 ⟨rfl, hM⟩; have K3 : w3.cell? ⟨q, 0, none⟩ = some (ptr p) ∧ w3.cell? ⟨w.heap.size, 1, none⟩ = some (.int .i64 tx) := ⟨(MB.out _ hM).1, (MB.out _ hM).2.2.1⟩))
  clear K3 RDw c0' c3' x0' x1' x2' x3' x4' B2
  obtain ⟨_, x0, x1, x2, x3, x4⟩ := MB.out _ hM
  obtain ⟨⟨u5, hu5⟩, fz5, E⟩ := END.out _ hM
  clear hM
  obtain ⟨V5, hV5⟩ : ∃ V5, V5 = w3.setCell ⟨g, i * 8 + 5, none⟩ (.bool true) := ⟨_, rfl⟩
  obtain ⟨⟨u3, hu3⟩, fz3, hQ⟩ := E V5 hV5
  replace hQ := Aside0.mk hQ
  clear E
  by_cases hr : r = 0
  · subst hr
    go_upto_region 49 with (fail)
    rw [← hV5]
    clear hV5
    go_wp2
    go_ret
    exact ⟨rfl, hQ.out⟩
  · go_upto_region 49 with (fail)
    rw [← hV5]
    clear hV5
    go_wp2
    go_ret
    exact ⟨rfl, hQ.out⟩
set_option maxHeartbeats 16000000 in
set_option maxRecDepth 100000 in
theorem do_none (q : Nat) (kind tx last moment : Int) (s1 s2 u : ByteArray) (w w1 : World) (hw1 : w1 = w.alloc (.cells #[.int .i64 kind, .int .i64 tx, .string s1, .string s2, .string u, .int .i64 last] 36)) (Q : World → Prop) (hk : kind ≠ 0)
    (x0 : w1.cell? ⟨w.heap.size, 0, none⟩ = some (.int .i64 kind)) (x1 : w1.cell? ⟨w.heap.size, 1, none⟩ = some (.int .i64 tx))
    (OF : Calls Tryz.prog 23 #[ptr q, .int .i64 tx] w1 fun e w2 => ∃ r, e = .returned (.int .i64 r) ∧ r < 0 ∧ Q w2) :
    Calls Tryz.prog 19 #[ptr q, .agg #[.int .i64 kind, .int .i64 tx, .string s1, .string s2, .string u, .int .i64 last], .int .i64 moment] w fun e w' => e = .returned (.int .i64 0) ∧ Q w' := by
  go_enter Tryz.func19, Tryz.ntmps19
  go_upto_region 1 with (fail)
  rw [← hw1]
  clear hw1
  go_wp2_with (go_at_call 23; refine OF.mono ?_; rintro e w2 ⟨r, rfl, hr, hQ⟩; replace hQ := Aside0.mk hQ)
  go_ret
  exact ⟨rfl, hQ.out⟩
set_option maxHeartbeats 16000000 in
set_option maxRecDepth 100000 in
theorem do_other (q g i n c : Nat) (kind tx last moment : Int) (s1 s2 u : ByteArray) (w w1 : World) (hw1 : w1 = w.alloc (.cells #[.int .i64 kind, .int .i64 tx, .string s1, .string s2, .string u, .int .i64 last] 36)) (Q : World → Prop) (hk : kind ≠ 0) (hk1 : kind ≠ 1) (hk2 : kind ≠ 2) (hk3 : kind ≠ 3) (hk4 : kind ≠ 4) (hk5 : kind ≠ 5) (hi : i < n) (hnb : n ≤ 1000000000000000)
    (x0 : w1.cell? ⟨w.heap.size, 0, none⟩ = some (.int .i64 kind)) (x1 : w1.cell? ⟨w.heap.size, 1, none⟩ = some (.int .i64 tx))
    (OF : Calls Tryz.prog 23 #[ptr q, .int .i64 tx] w1 fun e w2 => e = .returned (.int .i64 i) ∧ w2.cell? ⟨w.heap.size, 0, none⟩ = some (.int .i64 kind) ∧ w2.cell? ⟨q, 3, none⟩ = some (.slice (some ⟨g, 0, none⟩) n c) ∧ Q w2) :
    Calls Tryz.prog 19 #[ptr q, .agg #[.int .i64 kind, .int .i64 tx, .string s1, .string s2, .string u, .int .i64 last], .int .i64 moment] w fun e w' => e = .returned (.int .i64 0) ∧ Q w' := by
  go_enter Tryz.func19, Tryz.ntmps19
  go_upto_region 1 with (fail)
  rw [← hw1]
  clear hw1
  go_wp2_with (go_at_call 23; refine OF.mono ?_; rintro e w2 ⟨rfl, y0, y3, hQ⟩; replace hQ := Aside0.mk hQ; clear x0 x1)
  go_ret
  exact ⟨rfl, hQ.out⟩
end Go.Proofs.YthaoedfalkebbaaGreat
namespace Go.Proofs.YthaoedfalkebbaaGreat
open Go.RowKit Go.Maps Go.Sort Go.Lib Go.Shelf Go.Proofs.YthaoedfalkebbaaGreatW.PrintWords Go.Proofs.YthaoedfalkebbaaGreatW.PrintLast Go.Proofs.YthaoedfalkebbaaGreatW.PrintMore
set_option linter.unusedVariables false
set_option linter.unusedSimpArgs false
set_option linter.unusedSectionVars false
set_option maxHeartbeats 16000000 in
set_option maxRecDepth 100000 in
theorem do_commit (q p g i n c nw cw : Nat) (Aw : Option Addr) (tx last moment r num now0 : Int) (s1 s2 u : ByteArray) (w w1 : World) (hw1 : w1 = w.alloc (.cells #[.int .i64 4, .int .i64 tx, .string s1, .string s2, .string u, .int .i64 last] 36)) (M M2 M3 Q : World → Prop) (hi : i < n) (hnb : n ≤ 1000000000000000) (hnow : 0 ≤ now0 ∧ now0 ≤ 4611686018427387904)
    (CEL : ∀ W, Below w1.heap.size w1 W → W.cell? ⟨q, 0, none⟩ = some (ptr p) ∧ W.cell? ⟨q, 3, none⟩ = some (.slice (some ⟨g, 0, none⟩) n c) ∧ BoxAt w.heap.size 4 tx s1 s2 u W)
    (OF : Calls Tryz.prog 23 #[ptr q, .int .i64 tx] w1 fun e w2 => e = .returned (.int .i64 i) ∧ Below w1.heap.size w1 w2)
    (NW : ∀ V, Below w1.heap.size w1 V → Calls Tryz.prog 34 #[ptr p] V fun e w3 => e = .returned (.int .i64 now0) ∧ V = w3)
    (RD : ∀ V k, Below w1.heap.size w1 V → Calls Tryz.prog 16 #[ptr p, .int .i64 tx] (V.drewN k) fun e w3 => e = .returned (.tuple #[.int .i64 num, .int .i64 r]) ∧ M w3)
    (MB : ∀ V, M V → V.cell? ⟨q, 0, none⟩ = some (ptr p) ∧ BoxAt w.heap.size 4 tx s1 s2 u V)
    (WANT : r = 0 → num = if nw = 0 then now0 else now0 + 1)
    (WR : r = 0 → ∀ V, M V → V.cell? ⟨g, i * 8 + 7, none⟩ = some (.slice Aw nw cw) ∧ V.cell? ⟨q, 4, none⟩ = some (.bool false) ∧ V.frozen? ⟨q, 4, none⟩ = false ∧ (Calls Tryz.prog 34 #[ptr p] V fun e w3 => e = .returned (.int .i64 num) ∧ V = w3) ∧ M2 (V.setCell ⟨q, 4, none⟩ (.bool false)))
    (CW : r = 0 → ∀ V, M2 V → Calls Tryz.prog 59 #[ptr q, .int .i64 i, .int .i64 num] V fun e w3 => e = .returned (.tuple #[]) ∧ M3 w3)
    (END3 : r = 0 → ∀ V, M3 V → BoxAt w.heap.size 4 tx s1 s2 u V ∧ EndAt g i moment Q V)
    (END : r ≠ 0 → ∀ V, M V → EndAt g i moment Q V) :
    Calls Tryz.prog 19 #[ptr q, .agg #[.int .i64 4, .int .i64 tx, .string s1, .string s2, .string u, .int .i64 last], .int .i64 moment] w fun e w' => e = .returned (.int .i64 r) ∧ Q w' := by
  obtain ⟨c0, c3, x0, x1, x2, x3, x4⟩ := CEL w1 (Below.refl _ _)
  replace CEL := Aside0.mk CEL
  replace END := Aside0.mk END
  replace END3 := Aside0.mk END3
  replace CW := Aside0.mk CW
  replace WR := Aside0.mk WR
  replace WANT := Aside0.mk WANT
  replace MB := Aside0.mk MB
  replace RD := Aside0.mk RD
  replace NW := Aside0.mk NW
  go_enter Tryz.func19, Tryz.ntmps19
  go_upto_region 1 with (fail)
  rw [← hw1]
  clear hw1
  go_wp2_with (first | (go_at_call 34; refine NWw.mono ?_; rintro e w3 ⟨rfl, rfl⟩) | (go_at_call 23; refine OF.mono ?_; rintro e w2 ⟨rfl, B2⟩; obtain ⟨c0', c3', x0', x1', x2', x3', x4'⟩ := CEL.out w2 B2; have NWw := NW.out w2 B2))
  clear c0 c3 x0 x1 x2 x3 x4 OF NWw
  have RDw := fun k => RD.out w2 k B2
  go_region_held3 (fun V => V.cell? ⟨q, 0, none⟩ = some (ptr p) ∧ V.cell? ⟨w.heap.size, 1, none⟩ = some (.int .i64 tx)) (first | exact K3 | exact ⟨c0', x1'⟩)
    ((go_at_call 16; refine (RDw _).mono ?_; rintro e w3 ⟨rfl, hM⟩; have K3 : w3.cell? ⟨q, 0, none⟩ = some (ptr p) ∧ w3.cell? ⟨w.heap.size, 1, none⟩ = some (.int .i64 tx) := ⟨(MB.out _ hM).1, (MB.out _ hM).2.2.1⟩))
  clear K3 RDw c0' c3' x0' x1' x2' x3' x4' B2
  obtain ⟨c0, x0, x1, x2, x3, x4⟩ := MB.out _ hM
  by_cases hr : r = 0
  · subst hr
    obtain ⟨y7, c4, fz4, NW3, hM2⟩ := WR.out rfl _ hM
    obtain ⟨V4, hV4⟩ : ∃ V4, V4 = w3.setCell ⟨q, 4, none⟩ (.bool false) := ⟨_, rfl⟩
    rw [← hV4] at hM2
    have CWw := CW.out rfl _ hM2
    clear hM hM2
    have hwant := WANT.out rfl
    have hwr : IntKind.i64.wrap (now0 + 1) = now0 + 1 := IntWalk.i64_in _ (by omega)
    rcases Nat.eq_zero_or_pos nw with hz | hz
    · subst hz
      rw [if_pos rfl] at hwant
      subst hwant
      have e1 : (num != num) = false := by simp
      go_upto_region 44 with (first | (go_at_call 34; refine NW3.mono ?_; rintro e w4 ⟨rfl, rfl⟩))
      rw [← hV4]
      clear hV4 NW3 y7 c4 fz4 c0 x0 x1 x2 x3 x4
      go_upto_region 49 with (go_at_call 59; refine CWw.mono ?_; rintro e w5 ⟨rfl, hM3⟩; obtain ⟨⟨x0, x1, x2, x3, x4⟩, ⟨u5, hu5⟩, fz5, E⟩ := END3.out (by simp) _ hM3; obtain ⟨V5, hV5⟩ : ∃ V5, V5 = w5.setCell ⟨g, i * 8 + 5, none⟩ (.bool true) := ⟨_, rfl⟩; obtain ⟨⟨u3, hu3⟩, fz3, hQ⟩ := E V5 hV5; replace hQ := Aside0.mk hQ; clear E CWw hM3)
      rw [← hV5]
      clear hV5
      go_wp2
      go_ret
      exact ⟨rfl, hQ.out⟩
    · rw [if_neg (by omega)] at hwant
      have e0 : (0 : Int) < (nw : Int) := by omega
      have e1 : (num != now0 + 1) = false := by rw [hwant]; simp
      have e2 : (now0 + 1 != now0 + 1) = false := by simp
      replace hwant := Aside0.mk hwant
      go_upto_region 44 with (first | (go_at_call 34; refine NW3.mono ?_; rintro e w4 ⟨rfl, rfl⟩))
      rw [← hV4]
      clear hV4 NW3 y7 c4 fz4 c0 x0 x1 x2 x3 x4
      go_upto_region 49 with (go_at_call 59; refine CWw.mono ?_; rintro e w5 ⟨rfl, hM3⟩; obtain ⟨⟨x0, x1, x2, x3, x4⟩, ⟨u5, hu5⟩, fz5, E⟩ := END3.out (by simp) _ hM3; obtain ⟨V5, hV5⟩ : ∃ V5, V5 = w5.setCell ⟨g, i * 8 + 5, none⟩ (.bool true) := ⟨_, rfl⟩; obtain ⟨⟨u3, hu3⟩, fz3, hQ⟩ := E V5 hV5; replace hQ := Aside0.mk hQ; clear E CWw hM3)
      rw [← hV5]
      clear hV5
      go_wp2
      go_ret
      exact ⟨rfl, hQ.out⟩
  · obtain ⟨⟨u5, hu5⟩, fz5, E⟩ := END.out hr _ hM
    clear hM
    obtain ⟨V5, hV5⟩ : ∃ V5, V5 = w3.setCell ⟨g, i * 8 + 5, none⟩ (.bool true) := ⟨_, rfl⟩
    obtain ⟨⟨u3, hu3⟩, fz3, hQ⟩ := E V5 hV5
    replace hQ := Aside0.mk hQ
    clear E
    go_upto_region 49 with (fail)
    rw [← hV5]
    clear hV5
    go_wp2
    go_ret
    exact ⟨rfl, hQ.out⟩
end Go.Proofs.YthaoedfalkebbaaGreat
namespace Go.Proofs.YthaoedfalkebbaaGreat
open Go.RowKit Go.Maps Go.Sort Go.Lib Go.Shelf Go.Proofs.YthaoedfalkebbaaGreatW.PrintWords Go.Proofs.YthaoedfalkebbaaGreatW.PrintLast Go.Proofs.YthaoedfalkebbaaGreatW.PrintMore
set_option linter.unusedVariables false
set_option linter.unusedSimpArgs false
set_option linter.unusedSectionVars false
set_option maxHeartbeats 16000000 in
set_option maxRecDepth 100000 in
theorem do_begin (q p n c : Nat) (A : Option Addr) (tx last moment r num s : Int) (s1 s2 u : ByteArray) (w w1 : World) (hw1 : w1 = w.alloc (.cells #[.int .i64 0, .int .i64 tx, .string s1, .string s2, .string u, .int .i64 last] 36)) (M M2 Q : World → Prop)
    (c0 : w1.cell? ⟨q, 0, none⟩ = some (ptr p)) (x0 : w1.cell? ⟨w.heap.size, 0, none⟩ = some (.int .i64 0))
    (BG : Calls Tryz.prog 13 #[ptr p] w1 fun e w2 => e = .returned (.tuple #[.int .i64 num, .int .i64 s, .int .i64 r]) ∧ M w2)
    (FULL : r ≠ 0 → ∀ V, M V → Q V)
    (APP : r = 0 → ∀ V, M V → V.cell? ⟨q, 3, none⟩ = some (.slice A n c) ∧ ∃ A5 n5 c5 w5, (Builtin.append_ #[48, 48] 48 #[.slice A n c, .slice (some ⟨V.heap.size, 0, none⟩) 1 1]).run Tryz.prog (V.alloc (.cells #[.int .i64 num, .int .i64 s, .int .i64 moment, .int .i64 0, .bool false, .bool false, .slice none 0 0, .slice none 0 0] 57)) = .ok (.slice A5 n5 c5) w5 ∧
      w5.cell? ⟨q, 3, none⟩ = some (.slice A n c) ∧ w5.frozen? ⟨q, 3, none⟩ = false ∧ M2 (w5.setCell ⟨q, 3, none⟩ (.slice A5 n5 c5)))
    (NW : r = 0 → ∀ V, M2 V → V.cell? ⟨q, 0, none⟩ = some (ptr p) ∧ V.cell? ⟨q, 4, none⟩ = some (.bool false) ∧ V.frozen? ⟨q, 4, none⟩ = false ∧ (Calls Tryz.prog 34 #[ptr p] V fun e w3 => e = .returned (.int .i64 s) ∧ V = w3) ∧ Q (V.setCell ⟨q, 4, none⟩ (.bool false))) :
    Calls Tryz.prog 19 #[ptr q, .agg #[.int .i64 0, .int .i64 tx, .string s1, .string s2, .string u, .int .i64 last], .int .i64 moment] w fun e w' => e = .returned (.int .i64 r) ∧ Q w' := by
  replace NW := Aside0.mk NW
  replace APP := Aside0.mk APP
  replace FULL := Aside0.mk FULL
  go_enter Tryz.func19, Tryz.ntmps19
  go_upto_region 1 with (fail)
  rw [← hw1]
  clear hw1
  by_cases hr : r = 0
  · subst hr
    go_upto_region 5 with (first | (go_at_call 13; refine BG.mono ?_; rintro e w2 ⟨rfl, hM⟩; clear c0 x0; obtain ⟨c3, A5, n5, c5, w5, hrun, d3, fz3, hM2⟩ := APP.out (by simp) _ hM; obtain ⟨V4, hV4⟩ : ∃ V4, V4 = w5.setCell ⟨q, 3, none⟩ (.slice A5 n5 c5) := ⟨_, rfl⟩; rw [← hV4] at hM2; obtain ⟨c0, c4, fz4, NWw, hQ⟩ := NW.out (by simp) _ hM2; replace hQ := Aside0.mk hQ; clear hM2 hM) | (at_builtin; refine app_list rfl rfl rfl rfl hrun ?_))
    rw [← hV4]
    clear hV4 hrun d3 fz3 c3
    have e1 : (s != s) = false := by simp
    go_wp2_with (go_at_call 34; refine NWw.mono ?_; rintro e w6 ⟨rfl, rfl⟩)
    go_ret
    exact ⟨rfl, hQ.out⟩
  · go_wp2_with (first | (go_at_call 13; refine BG.mono ?_; rintro e w2 ⟨rfl, hM⟩; clear c0 x0; replace hM := Aside0.mk (FULL.out hr _ hM)))
    go_ret
    exact ⟨rfl, hM.out⟩
end Go.Proofs.YthaoedfalkebbaaGreat
namespace Go.Proofs.YthaoedfalkebbaaGreat
set_option linter.unusedVariables false
set_option linter.unusedSectionVars false
set_option linter.unusedSimpArgs false
section
variable {ρ : Type} {I : RdI ρ}
structure Bd (W : Wld ρ) (k R : Nat) : Prop where
  list : W.list.length ≤ k
  vers : W.vers.length ≤ k * k
  reads : (W.list.map (fun x => x.reads.length)).sum ≤ k * (R + 1)
  writes : ∀ x ∈ W.list, x.writes.length ≤ k
  rows : W.rows.length ≤ R
theorem sum_set {α : Type} (f : α → Nat) : ∀ (l : List α) (i : Nat) (x y : α), l[i]? = some x → ((l.set i y).map f).sum + f x = (l.map f).sum + f y
  | [], i, x, y, h => by cases h
  | a :: l, 0, x, y, h => by
    injection h with h
    subst h
    simp only [List.set_cons_zero, List.map_cons, List.sum_cons]
    omega
  | a :: l, i + 1, x, y, h => by
    have := sum_set f l i x y h
    simp only [List.set_cons_succ, List.map_cons, List.sum_cons]
    omega
theorem sum_mem {α : Type} (f : α → Nat) : ∀ (l : List α) (x : α), x ∈ l → f x ≤ (l.map f).sum
  | a :: l, x, h => by
    simp only [List.map_cons, List.sum_cons]
    rcases List.mem_cons.1 h with rfl | h
    · omega
    · have := sum_mem f l x h
      omega
theorem Bd.read {W : Wld ρ} {k R : Nat} (h : Bd W k R) {x : Run} (hx : x ∈ W.list) : x.reads.length ≤ k * (R + 1) := Nat.le_trans (sum_mem (fun x => x.reads.length) W.list x hx) h.reads
theorem sq_succ (k : Nat) : (k + 1) * (k + 1) = k * k + k + k + 1 := by rw [Nat.add_mul, Nat.mul_add, Nat.mul_one, Nat.one_mul]; omega
theorem Bd.later {W : Wld ρ} {k R : Nat} (h : Bd W k R) : Bd W (k + 1) R :=
  ⟨Nat.le_succ_of_le h.list, by rw [sq_succ]; have := h.vers; omega, Nat.le_trans h.reads (Nat.mul_le_mul_right _ (Nat.le_succ k)), fun x hx => Nat.le_succ_of_le (h.writes x hx), h.rows⟩
/-- one run has changed, versions have come -/
theorem Bd.set {W : Wld ρ} {k R : Nat} (h : Bd W k R) {i : Nat} {x x' : Run} (hx : W.list[i]? = some x) (hr : x'.reads.length ≤ x.reads.length + (R + 1)) (hw : x'.writes.length ≤ k + 1) (m : Sm ρ) (vs : List Ver) (hv : vs.length ≤ W.vers.length + k) (b : Bool) : Bd ⟨m, W.rows, vs, W.list.set i x', b⟩ (k + 1) R := by
  refine ⟨by show (W.list.set i x').length ≤ _; rw [List.length_set]; exact Nat.le_succ_of_le h.list, ?_, ?_, ?_, h.rows⟩
  · show vs.length ≤ _
    rw [sq_succ]
    have := h.vers
    omega
  · show ((W.list.set i x').map (fun x => x.reads.length)).sum ≤ _
    have h1 := sum_set (fun x : Run => x.reads.length) W.list i x x' hx
    have h2 := h.reads
    rw [Nat.add_mul, Nat.one_mul]
    omega
  · intro y hy
    rcases List.mem_or_eq_of_mem_set hy with hy | rfl
    · exact Nat.le_succ_of_le (h.writes y hy)
    · exact hw
theorem sees_len (vs : List Ver) (x : Run) (a : Lk) : (sees vs x a).reads.length ≤ x.reads.length + 1 ∧ (sees vs x a).writes = x.writes := by
  unfold sees
  split
  · exact ⟨Nat.le_succ _, rfl⟩
  · exact ⟨by simp, rfl⟩
theorem Bd.opAt {W : Wld ρ} {k R : Nat} (h : Bd W k R) (o : Opn) {i : Nat} {x : Run} (hx : W.list[i]? = some x) : ∃ x' : Run, (W.opAt I o i x).2.list = W.list.set i x' ∧ x'.reads.length ≤ x.reads.length + (R + 1) ∧ x'.writes.length ≤ k + 1 ∧ (W.opAt I o i x).2.vers.length ≤ W.vers.length + k ∧ (W.opAt I o i x).2.rows = W.rows := by
  have hm := List.mem_of_getElem? hx
  have hwx := h.writes x hm
  have same : W.list = W.list.set i x := by
    apply List.ext_getElem?
    intro j
    rw [List.getElem?_set]
    by_cases e : i = j
    · subst e
      rw [if_pos rfl, if_pos (List.getElem?_eq_some_iff.1 hx).1, hx]
    · rw [if_neg e]
  have keep : ∃ x' : Run, W.list = W.list.set i x' ∧ x'.reads.length ≤ x.reads.length + (R + 1) ∧ x'.writes.length ≤ k + 1 := ⟨x, same, by omega, by omega⟩
  unfold Wld.opAt
  split
  · dsimp only
    split
    · obtain ⟨h1, h2⟩ := sees_len W.vers x o.at_
      exact ⟨_, rfl, by omega, by rw [h2]; omega, by omega, rfl⟩
    · obtain ⟨x', e, h1, h2⟩ := keep
      exact ⟨x', e, h1, h2, by omega, rfl⟩
  · split
    · dsimp only
      split
      · refine ⟨_, rfl, ?_, ?_, by omega, rfl⟩
        · rw [sees_fold]
          show (x.reads ++ _).length ≤ _
          rw [List.length_append, List.length_map]
          have h1 := List.length_filter_le (fun a => decide (a ∉ x.writes)) (W.rows.filter (fun a => eqS a.1 o.at_.1 && inR a.2 o.at_.2 o.to_))
          have h2 := List.length_filter_le (fun a => eqS a.1 o.at_.1 && inR a.2 o.at_.2 o.to_) W.rows
          have := h.rows
          omega
        · rw [sees_fold]
          show x.writes.length ≤ _
          omega
      · obtain ⟨x', e, h1, h2⟩ := keep
        exact ⟨x', e, h1, h2, by omega, rfl⟩
    · split
      · show ∃ x' : Run, (if (W.m.write I o.tx o.at_ (lastNum W.vers o.at_)).1 = 0 ∧ o.at_ ∉ x.writes then W.list.set i { x with writes := x.writes ++ [o.at_] } else W.list) = W.list.set i x' ∧ x'.reads.length ≤ x.reads.length + (R + 1) ∧ x'.writes.length ≤ k + 1 ∧ W.vers.length ≤ W.vers.length + k ∧ W.rows = W.rows
        split
        · refine ⟨{ x with writes := x.writes ++ [o.at_] }, rfl, Nat.le_add_right _ _, ?_, by omega, rfl⟩
          show (x.writes ++ [o.at_]).length ≤ _
          rw [List.length_append]
          simp only [List.length_cons, List.length_nil]
          omega
        · obtain ⟨x', e, h1, h2⟩ := keep
          exact ⟨x', e, h1, h2, by omega, rfl⟩
      · split
        · split
          · refine ⟨{ x with committed := true }, rfl, Nat.le_add_right _ _, Nat.le_succ_of_le hwx, ?_, rfl⟩
            show (commitV W.vers x.writes _ i).length ≤ _
            rw [(commitV_ext _ _ _ _).len]
            omega
          · obtain ⟨x', e, h1, h2⟩ := keep
            exact ⟨x', e, h1, h2, by dsimp only; omega, rfl⟩
        · obtain ⟨x', e, h1, h2⟩ := keep
          exact ⟨x', e, h1, h2, by dsimp only; omega, rfl⟩
theorem Bd.step {W : Wld ρ} {k R : Nat} (h : Bd W k R) (o : Opn) (m : Int) : Bd (W.step I o m).2 (k + 1) R := by
  unfold Wld.step
  split
  · split
    · refine ⟨by show (W.list ++ [_]).length ≤ _; rw [List.length_append]; have := h.list; simp; omega, by show W.vers.length ≤ _; rw [sq_succ]; have := h.vers; omega, ?_, ?_, h.rows⟩
      · show ((W.list ++ [_]).map (fun x : Run => x.reads.length)).sum ≤ _
        rw [List.map_append, List.sum_append]
        simp only [List.map_cons, List.map_nil, List.length_nil, List.sum_cons, List.sum_nil, Nat.add_zero]
        exact Nat.le_trans h.reads (Nat.mul_le_mul_right _ (Nat.le_succ k))
      · intro x hx
        rcases List.mem_append.1 hx with hx | hx
        · exact Nat.le_succ_of_le (h.writes x hx)
        · rw [List.mem_singleton.1 hx]
          exact Nat.zero_le _
    · have := h.later
      exact ⟨this.list, this.vers, this.reads, this.writes, this.rows⟩
  · split
    · exact h.later
    · rename_i x hx
      split
      · exact h.later
      · split
        · exact h.later
        · obtain ⟨x', e, h1, h2, h3, h4⟩ := h.opAt (I := I) o hx
          have hx' : (W.list.set (ofR W.list o.tx).toNat x')[(ofR W.list o.tx).toNat]? = some x' := set_at hx
          dsimp only
          split
          · have := h.set hx (x' := overR x' m) h1 h2 (W.opAt I o (ofR W.list o.tx).toNat x).2.m _ h3 (W.opAt I o (ofR W.list o.tx).toNat x).2.bad
            rw [e, h4, modify_set hx', List.set_set]
            exact this
          · have := h.set hx h1 h2 (W.opAt I o (ofR W.list o.tx).toNat x).2.m _ h3 (W.opAt I o (ofR W.list o.tx).toNat x).2.bad
            rw [← e, ← h4] at this
            exact this
theorem Bd.start (m : Sm ρ) (rows : List Lk) (R : Nat) (h : rows.length ≤ R) : Bd ⟨m, rows, [], [], false⟩ 0 R := ⟨Nat.le_refl _, Nat.le_refl _, Nat.zero_le _, fun x hx => (by cases hx), h⟩
end
end Go.Proofs.YthaoedfalkebbaaGreat
namespace Go.Proofs.YthaoedfalkebbaaGreat
open Go.RowKit Go.Maps Go.Sort Go.Lib
set_option linter.unusedVariables false
set_option linter.unusedSimpArgs false
set_option linter.unusedSectionVars false
theorem read_iT (most : Int) (S : Sm St) (tx : Int) (a : Lk) (h1 : a.1.size ≤ reachBytes) (h2 : a.2.size ≤ reachBytes) : S.read (iS most) tx a = S.read (iT most) tx a := by
  unfold Sm.read
  cases S.actv tx with
  | none => rfl
  | some t =>
    dsimp only
    rw [noteS_iT most S t _ _ _ ⟨h1, by show (Lit.int .i64 1).wf = true; decide, h2, by show (⟨#[]⟩ : ByteArray).size ≤ _; decide⟩]
theorem scan_iT (most : Int) (S : Sm St) (tx : Int) (tb f u : ByteArray) (h1 : tb.size ≤ reachBytes) (h2 : f.size ≤ reachBytes) (h3 : u.size ≤ reachBytes) : S.scan (iS most) tx tb f u = S.scan (iT most) tx tb f u := by
  unfold Sm.scan
  cases S.actv tx with
  | none => rfl
  | some t =>
    dsimp only
    rw [noteS_iT most S t _ _ _ ⟨h1, by show (Lit.int .i64 2).wf = true; decide, h2, h3⟩]
theorem commit_iT (most : Int) (S : Sm St) (tx : Int) : S.commit (iS most) tx = S.commit (iT most) tx := rfl
theorem abort_iT (most : Int) (S : Sm St) (tx : Int) : S.abort (iS most) tx = S.abort (iT most) tx := rfl
theorem opAt_iT (most : Int) (W : Wld St) (o : Opn) (i : Nat) (x : Run) (h1 : o.at_.1.size ≤ reachBytes) (h2 : o.at_.2.size ≤ reachBytes) (h3 : o.to_.size ≤ reachBytes) : W.opAt (iS most) o i x = W.opAt (iT most) o i x := by
  unfold Wld.opAt
  rw [read_iT most W.m o.tx o.at_ h1 h2, scan_iT most W.m o.tx _ _ _ h1 h2 h3, commit_iT, abort_iT]
  rfl
theorem step_iT (most : Int) (W : Wld St) (o : Opn) (m : Int) (h1 : o.at_.1.size ≤ reachBytes) (h2 : o.at_.2.size ≤ reachBytes) (h3 : o.to_.size ≤ reachBytes) : W.step (iS most) o m = W.step (iT most) o m := by
  unfold Wld.step
  simp only [opAt_iT most W o _ _ h1 h2 h3]
end Go.Proofs.YthaoedfalkebbaaGreat
namespace Go.Proofs.YthaoedfalkebbaaGreat
set_option linter.unusedVariables false
set_option linter.unusedSectionVars false
set_option linter.unusedSimpArgs false
section
variable {ρ : Type} {I : RdI ρ} {ok : ρ → Prop} {most : Int}
theorem opAt_cap {W : Wld ρ} {K N : Int} (h : Cap W.m K N) (o : Opn) (i : Nat) (x : Run) : Cap (W.opAt I o i x).2.m (K + 1) N := by
  unfold Wld.opAt
  split
  · exact (h.read _ _).later
  · split
    · exact (h.scan _ _ _ _).later
    · split
      · exact (h.write _ _ _).later
      · split
        · split
          · exact h.commit _
          · exact h.commit _
        · exact (h.abort _).later
theorem step_cap {W : Wld ρ} {K N : Int} (h : Cap W.m K N) (o : Opn) (m : Int) : Cap (W.step I o m).2.m (K + 1) N := by
  unfold Wld.step
  split
  · split
    · exact h.begin
    · exact h.begin
  · split
    · exact h.later
    · split
      · exact h.later
      · split
        · exact h.later
        · dsimp only
          split
          · exact opAt_cap h _ _ _
          · exact opAt_cap h _ _ _
theorem MI.start (c : Cp) (r : ρ) (hr : ok r) (hn : ∀ n, I.has r n = false) : MI I ok ⟨c, 0, 0, 0, [], [], r⟩ [] [] where
  len := rfl
  okr := hr
  last := rfl
  num := fun i x h => by cases h
  tx := fun t h => by cases h
  dist := List.Pairwise.nil
  under := fun i x h => by cases h
  kept := fun i x g h => by cases h
  over := fun i x h => by cases h
  clock := fun i x g h => by cases h
  neq := fun i j x g g' h => by cases h
  locks := fun i x h => by cases h
  lown := fun t h => by cases h
  ldist := List.Pairwise.nil
  wnd := fun t h => by cases h
  reads := fun t h => by cases h
  owners := fun n h => by rw [hn n] at h; cases h
theorem SI.start : SI [] [] [] 0 where
  flags := fun i j x y g h hij hx => by cases hx
  notboth := fun i x g h => by cases h
  fcw := fun i j x y g h hij hx => by cases hx
  vby := fun v h => by cases h
  vall := fun j y h => by cases h
  vord := List.Pairwise.nil
  vnext := fun k v h => by cases h
  saw := fun x h => by cases h
  snap := fun x h => by cases h
theorem WL.start (c : Cp) (r : ρ) (rows : List Lk) (hr : ok r) (hn : ∀ n, I.has r n = false) : WL I ok ⟨⟨c, 0, 0, 0, [], [], r⟩, rows, [], [], false⟩ [] 0 where
  mi := MI.start c r hr hn
  si := SI.start
  good := rfl
  now0 := Int.le_refl _
  nowm := Int.le_refl _
  kp := fun t h => by cases h
end
end Go.Proofs.YthaoedfalkebbaaGreat
namespace Go.Proofs.YthaoedfalkebbaaGreat
open Go.RowKit Go.Maps Go.Sort Go.Lib Go.Shelf Go.Proofs.YthaoedfalkebbaaGreatW.PrintWords Go.Proofs.YthaoedfalkebbaaGreatW.PrintLast Go.Proofs.YthaoedfalkebbaaGreatW.PrintMore
set_option linter.unusedVariables false
set_option linter.unusedSimpArgs false
set_option linter.unusedSectionVars false
theorem step_op {ρ : Type} {I : RdI ρ} {W : Wld ρ} {o : Opn} {m : Int} {i : Nat} {x : Run} (hk : 1 ≤ o.kind ∧ o.kind ≤ 5) (hof : ofR W.list o.tx = (i : Int)) (hx : W.list[i]? = some x) :
    W.step I o m = if (W.opAt I o i x).1 ≠ 0 ∨ o.kind = 4 ∨ o.kind = 5 then ((W.opAt I o i x).1, { (W.opAt I o i x).2 with list := (W.opAt I o i x).2.list.modify i (fun x => overR x m) }) else W.opAt I o i x := by
  unfold Wld.step
  rw [if_neg (by omega), hof]
  simp only [Int.toNat_natCast, hx]
  rw [if_neg (by omega), if_neg (by omega)]
theorem step_none {ρ : Type} {I : RdI ρ} {W : Wld ρ} {o : Opn} {m : Int} (hk : o.kind ≠ 0) (hof : ofR W.list o.tx < 0) : W.step I o m = (0, W) := by
  unfold Wld.step
  rw [if_neg hk]
  split
  · rfl
  · rw [if_pos hof]
theorem step_other {ρ : Type} {I : RdI ρ} {W : Wld ρ} {o : Opn} {m : Int} (hk : o.kind < 0 ∨ 5 < o.kind) : W.step I o m = (0, W) := by
  unfold Wld.step
  rw [if_neg (by omega)]
  split
  · rfl
  · split
    · rfl
    · rw [if_pos (by omega)]
def DoQ (base q p : Nat) (U : Nat → Prop) (rv : Value) (w : World) (W' : Wld St) (w' : World) : Prop := ∃ F' vv' lv' xs', Wm w' base q p F' U W' rv vv' lv' xs' ∧ KeepW U w w'
section
variable {w w' : World} {base q p : Nat} {F U : Nat → Prop} {W : Wld St} {rv vv lv : Value} {xs : List Rx} {K N : Int}
theorem end_at {V : World} {W1 W' : Wld St} {F1 : Nat → Prop} {vv1 : Value} {xs1 : List Rx} (H : Wm V base q p F1 U W1 rv vv1 lv xs1) (hk : KeepW U w V) {i : Nat} {x : Rx} (hx : xs1[i]? = some x) {g n c : Nat} (hlv : lv = .slice (some ⟨g, 0, none⟩) n c) (m : Int) (hW' : W' = { W1 with list := W1.list.modify i (fun x => overR x m) }) : EndAt g i m (DoQ base q p U rv w W') V := by
  have hi := (List.getElem?_eq_some_iff.1 hx).1
  have hl := H.list
  rw [hlv] at hl
  obtain ⟨gc, hg⟩ := hl.blk
  obtain ⟨_, _, _, _, _, y5, _, _⟩ := RowX.at hl i x hx
  obtain ⟨H5, K5⟩ := H.setX hx hlv (j := 5) (by decide) (u := .bool true) (x' := { x.1 with over := true }) rfl rfl rfl
  have hx5 : (xs1.set i (({ x.1 with over := true } : Run), x.2.1, x.2.2))[i]? = some ({ x.1 with over := true }, x.2.1, x.2.2) := by rw [List.getElem?_set, if_pos rfl, if_pos hi]
  refine ⟨⟨_, y5⟩, blk_frozen hg _, fun V5 hV5 => ?_⟩
  rw [← hV5] at H5 K5
  have hl5 := H5.list
  rw [hlv] at hl5
  obtain ⟨gc5, hg5⟩ := hl5.blk
  obtain ⟨_, _, _, z3, _⟩ := RowX.at hl5 i _ hx5
  obtain ⟨H3, K3⟩ := H5.setX hx5 hlv (j := 3) (by decide) (u := .int .i64 m) (x' := overR x.1 m) rfl rfl rfl
  refine ⟨⟨_, z3⟩, blk_frozen hg5 _, ?_⟩
  have e : W' = { ({ W1 with list := W1.list.set i ({ x.1 with over := true } : Run) } : Wld St) with list := (W1.list.set i ({ x.1 with over := true } : Run)).set i (overR x.1 m) } := by
    rw [hW', modify_set (H.list_at hx), List.set_set]
  rw [e]
  exact ⟨F1, vv1, lv, _, H3, (hk.trans K5).trans K3⟩
/-- what is there once the operation has been boxed -/
def MA (w : World) (base q p : Nat) (F U : Nat → Prop) (W1 : Wld St) (rv vv lv : Value) (xs : List Rx) (o : Opn) (V : World) : Prop := Wm V base q p F U W1 rv vv lv xs ∧ KeepW U w V ∧ V.heap[w.heap.size]? = some (boxOn o)
theorem MA.box {W1 : Wld St} {o : Opn} {V : World} (h : MA w base q p F U W1 rv vv lv xs o V) : BoxAt w.heap.size o.kind o.tx o.at_.1 o.at_.2 o.to_ V := by
  obtain ⟨r0, r1, r2, r3, r4, r5⟩ := opn_cells h.2.2
  exact ⟨r0, r1, r2, r3, r4⟩
theorem MA.pcell {W1 : Wld St} {o : Opn} {V : World} (h : MA w base q p F U W1 rv vv lv xs o V) : V.cell? ⟨q, 0, none⟩ = some (ptr p) := h.1.cell.1
theorem MA.below {W1 : Wld St} {o : Opn} {V V' : World} (h : MA w base q p F U W1 rv vv lv xs o V) (B : Below V.heap.size V V') : MA w base q p F U W1 rv vv lv xs o V' :=
  ⟨h.1.below B, h.2.1.trans (KeepW.ofBelow B h.1.m.size), (B.block _ (Array.getElem?_eq_some_iff.1 h.2.2).1).trans h.2.2⟩
/-- the manager has gone on -/
theorem MA.go {W1 : Wld St} {o : Opn} {V V' : World} (h : MA w base q p F U W1 rv vv lv xs o V) {S' : Sm St} (hM : MgrO base F U p S' V') (k : KeepO U V V') : MA w base q p F U { W1 with m := S' } rv vv lv xs o V' :=
  ⟨h.1.keep k hM, h.2.1.trans k.toW, k.block _ _ _ _ h.2.2 (by decide) (by decide) (by decide)⟩
/-- the world's rows have changed -/
theorem MA.next {W1 W2 : Wld St} {F2 : Nat → Prop} {vv2 lv2 : Value} {xs2 : List Rx} {o : Opn} {V V' : World} (h : MA w base q p F U W1 rv vv lv xs o V) (H : Wm V' base q p F2 U W2 rv vv2 lv2 xs2) (k : KeepW U V V') : MA w base q p F2 U W2 rv vv2 lv2 xs2 o V' :=
  ⟨H, h.2.1.trans k, k.block _ _ _ _ h.2.2 rfl⟩
theorem MA.start (h : Wm w base q p F U W rv vv lv xs) (o : Opn) {w1 : World} (hw1 : w1 = w.alloc (.cells #[.int .i64 o.kind, .int .i64 o.tx, .string o.at_.1, .string o.at_.2, .string o.to_, .int .i64 o.last] 36)) : MA w base q p F U W rv vv lv xs o w1 := by
  have B1 : Below w.heap.size w w1 := by rw [hw1]; exact allocB w _
  refine ⟨h.below B1, KeepW.ofBelow B1 h.m.size, ?_⟩
  rw [hw1]
  exact heap_alloc_new w _
theorem MA.of {o : Opn} {V : World} (h : MA w base q p F U W rv vv lv xs o V) (hl : xs.length ≤ 2000000000000) (tx : Int) : Calls Tryz.prog 23 #[ptr q, .int .i64 tx] V fun e w2 => e = .returned (.int .i64 (ofR W.list tx)) ∧ Below V.heap.size V w2 := by
  have := of_calls base q lv xs tx V h.1.cell.2.2.2.1 h.1.list (by omega) h.1.slices
  rw [h.1.fst] at this
  exact this
theorem at_xs (h : Wm w base q p F U W rv vv lv xs) {i : Nat} {y : Run} (hy : W.list[i]? = some y) : ∃ x, xs[i]? = some x ∧ x.1 = y := by
  rw [← h.fst, List.getElem?_map] at hy
  obtain ⟨x, hx, e⟩ := Option.map_eq_some_iff.1 hy
  exact ⟨x, hx, e⟩
theorem do_read_s (h : Wm w base q p F U W rv vv lv xs) (hC : Cap W.m K N) (o : Opn) (ho : o.OK) (m : Int) (hkd : o.kind = 1) (hxl : xs.length ≤ 2000000000000) (hvl : W.vers.length ≤ 2000000000000) {i : Nat} {x : Rx} (hx : xs[i]? = some x) (hof : ofR W.list o.tx = (i : Int)) (hrl : x.1.reads.length ≤ 2000000000000) (hwl : x.1.writes.length ≤ 2000000000000) :
    Calls Tryz.prog 19 #[ptr q, .agg #[.int .i64 o.kind, .int .i64 o.tx, .string o.at_.1, .string o.at_.2, .string o.to_, .int .i64 o.last], .int .i64 m] w fun e w' => e = .returned (.int .i64 (W.step (iS W.m.caps.reads) o m).1) ∧ DoQ base q p U rv w (W.step (iS W.m.caps.reads) o m).2 w' := by
  have hi := (List.getElem?_eq_some_iff.1 hx).1
  have hlx := h.list_at hx
  obtain ⟨A, c, hlv, hlc, hA⟩ := h.list.slice
  obtain ⟨g, rfl, _⟩ := hA (by omega)
  have hst := step_op (I := iS W.m.caps.reads) (m := m) (by omega) hof hlx
  have hop : W.opAt (iS W.m.caps.reads) o i x.1 = ((W.m.read (iS W.m.caps.reads) o.tx o.at_).1, { W with m := (W.m.read (iS W.m.caps.reads) o.tx o.at_).2, list := if (W.m.read (iS W.m.caps.reads) o.tx o.at_).1 = 0 then W.list.set i (sees W.vers x.1 o.at_) else W.list }) := by
    unfold Wld.opAt
    rw [if_pos hkd]
  obtain ⟨w1, hw1⟩ : ∃ w1, w1 = w.alloc (.cells #[.int .i64 o.kind, .int .i64 o.tx, .string o.at_.1, .string o.at_.2, .string o.to_, .int .i64 o.last] 36) := ⟨_, rfl⟩
  have M0 := MA.start h o hw1
  have hr1 : (W.step (iS W.m.caps.reads) o m).1 = (W.m.read (iS W.m.caps.reads) o.tx o.at_).1 := by
    rw [hst]
    split <;> rw [hop]
  rw [hr1]
  have OF := M0.of hxl o.tx
  rw [hof] at OF
  have hE : (W.m.read (iS W.m.caps.reads) o.tx o.at_).1 ≠ 0 → (W.step (iS W.m.caps.reads) o m).2 = { ({ W with m := (W.m.read (iS W.m.caps.reads) o.tx o.at_).2 } : Wld St) with list := W.list.modify i (fun x => overR x m) } := fun hr => by
    rw [hst, hop, if_pos (.inl hr)]
    dsimp only
    rw [if_neg hr]
  have hG : (W.m.read (iS W.m.caps.reads) o.tx o.at_).1 = 0 → (W.step (iS W.m.caps.reads) o m).2 = { W with m := (W.m.read (iS W.m.caps.reads) o.tx o.at_).2, list := W.list.set i (sees W.vers x.1 o.at_) } := fun hr => by
    rw [hst, hop, if_neg (by dsimp only; omega)]
    dsimp only
    rw [if_pos hr]
  rw [hkd] at hw1 ⊢
  have hMr := fun V k (B : Below w1.heap.size w1 V) => ((M0.below B).below (drewB2 V k))
  refine do_read q p g i xs.length c o.tx o.last m (W.m.read (iS W.m.caps.reads) o.tx o.at_).1 o.at_.1 o.at_.2 o.to_ w w1 hw1 (MA w base q p F U { W with m := (W.m.read (iS W.m.caps.reads) o.tx o.at_).2 } rv vv lv xs o) (fun V => BoxAt w.heap.size 1 o.tx o.at_.1 o.at_.2 o.to_ V ∧ DoQ base q p U rv w (W.step (iS W.m.caps.reads) o m).2 V) _ hi (by omega) ?_ OF ?_ ?_ (fun V h => h) ?_ ?_
  · intro V B
    have H := M0.below B
    have c3 := H.1.cell.2.2.2.1
    rw [hlv] at c3
    have b := H.box
    rw [hkd] at b
    exact ⟨H.pcell, c3, b⟩
  · intro V k B
    have H := hMr V k B
    refine (H.1.m.read H.1.top hC ho.tx ho.at_).mono ?_
    rintro e w3 ⟨rfl, hM, hK⟩
    exact ⟨rfl, H.go hM hK⟩
  · intro V H
    have b := H.box
    rw [hkd] at b
    exact ⟨H.pcell, b⟩
  · intro hr V H
    refine (sees_calls H.1 hx o.at_ hrl hwl hvl hxl).mono ?_
    rintro e w3 ⟨rfl, v5, H5, K5⟩
    have M5 := H.next H5 K5
    have b := M5.box
    rw [hkd] at b
    refine ⟨rfl, b, ?_⟩
    rw [hG hr]
    exact ⟨F, vv, lv, _, H5, M5.2.1⟩
  · intro hr V H
    exact end_at H.1 H.2.1 hx hlv m (hE hr)
theorem do_abort_s (h : Wm w base q p F U W rv vv lv xs) (hC : Cap W.m K N) (o : Opn) (ho : o.OK) (m : Int) (hkd : o.kind = 5) (hxl : xs.length ≤ 2000000000000) {i : Nat} {x : Rx} (hx : xs[i]? = some x) (hof : ofR W.list o.tx = (i : Int)) :
    Calls Tryz.prog 19 #[ptr q, .agg #[.int .i64 o.kind, .int .i64 o.tx, .string o.at_.1, .string o.at_.2, .string o.to_, .int .i64 o.last], .int .i64 m] w fun e w' => e = .returned (.int .i64 (W.step (iS W.m.caps.reads) o m).1) ∧ DoQ base q p U rv w (W.step (iS W.m.caps.reads) o m).2 w' := by
  have hi := (List.getElem?_eq_some_iff.1 hx).1
  have hlx := h.list_at hx
  obtain ⟨A, c, hlv, hlc, hA⟩ := h.list.slice
  obtain ⟨g, rfl, _⟩ := hA (by omega)
  have hst := step_op (I := iS W.m.caps.reads) (m := m) (by omega) hof hlx
  have hop : W.opAt (iS W.m.caps.reads) o i x.1 = ((W.m.abort (iS W.m.caps.reads) o.tx).1, { W with m := (W.m.abort (iS W.m.caps.reads) o.tx).2 }) := by
    unfold Wld.opAt
    rw [if_neg (by omega), if_neg (by omega), if_neg (by omega), if_neg (by omega)]
  obtain ⟨w1, hw1⟩ : ∃ w1, w1 = w.alloc (.cells #[.int .i64 o.kind, .int .i64 o.tx, .string o.at_.1, .string o.at_.2, .string o.to_, .int .i64 o.last] 36) := ⟨_, rfl⟩
  have M0 := MA.start h o hw1
  rw [if_pos (.inr (.inr hkd)), hop] at hst
  rw [hst]
  have OF := M0.of hxl o.tx
  rw [hof] at OF
  rw [hkd] at hw1 ⊢
  refine do_abort q p g i xs.length c o.tx o.last m (W.m.abort (iS W.m.caps.reads) o.tx).1 o.at_.1 o.at_.2 o.to_ w w1 hw1 (MA w base q p F U { W with m := (W.m.abort (iS W.m.caps.reads) o.tx).2 } rv vv lv xs o) _ hi (by omega) ?_ OF ?_ ?_ ?_
  · intro V B
    have H := M0.below B
    have c3 := H.1.cell.2.2.2.1
    rw [hlv] at c3
    have b := H.box
    rw [hkd] at b
    exact ⟨H.pcell, c3, b⟩
  · intro V k B
    have H := (M0.below B).below (drewB2 V k)
    refine (H.1.m.abort H.1.top hC ho.tx).mono ?_
    rintro e w3 ⟨rfl, hM, hK⟩
    exact ⟨rfl, H.go hM hK⟩
  · intro V H
    have b := H.box
    rw [hkd] at b
    exact ⟨H.pcell, b⟩
  · intro V H
    exact end_at H.1 H.2.1 hx hlv m rfl
theorem do_none_s (h : Wm w base q p F U W rv vv lv xs) (o : Opn) (m : Int) (hkd : o.kind ≠ 0) (hxl : xs.length ≤ 2000000000000) (hof : ofR W.list o.tx < 0) :
    Calls Tryz.prog 19 #[ptr q, .agg #[.int .i64 o.kind, .int .i64 o.tx, .string o.at_.1, .string o.at_.2, .string o.to_, .int .i64 o.last], .int .i64 m] w fun e w' => e = .returned (.int .i64 (W.step (iS W.m.caps.reads) o m).1) ∧ DoQ base q p U rv w (W.step (iS W.m.caps.reads) o m).2 w' := by
  obtain ⟨w1, hw1⟩ : ∃ w1, w1 = w.alloc (.cells #[.int .i64 o.kind, .int .i64 o.tx, .string o.at_.1, .string o.at_.2, .string o.to_, .int .i64 o.last] 36) := ⟨_, rfl⟩
  have M0 := MA.start h o hw1
  rw [step_none hkd hof]
  have b := M0.box
  refine do_none q o.kind o.tx o.last m o.at_.1 o.at_.2 o.to_ w w1 hw1 _ hkd b.1 b.2.1 ?_
  refine (M0.of hxl o.tx).mono ?_
  rintro e w2 ⟨rfl, B⟩
  have H := M0.below B
  exact ⟨_, rfl, hof, F, vv, lv, xs, H.1, H.2.1⟩
theorem do_other_s (h : Wm w base q p F U W rv vv lv xs) (o : Opn) (m : Int) (hkd : o.kind < 0 ∨ 5 < o.kind) (hxl : xs.length ≤ 2000000000000) :
    Calls Tryz.prog 19 #[ptr q, .agg #[.int .i64 o.kind, .int .i64 o.tx, .string o.at_.1, .string o.at_.2, .string o.to_, .int .i64 o.last], .int .i64 m] w fun e w' => e = .returned (.int .i64 (W.step (iS W.m.caps.reads) o m).1) ∧ DoQ base q p U rv w (W.step (iS W.m.caps.reads) o m).2 w' := by
  rcases ofR_cases W.list o.tx with ⟨hof, _⟩ | ⟨i, y, hof, hy, _, _⟩
  · exact do_none_s h o m (by omega) hxl hof
  obtain ⟨x, hx, rfl⟩ := at_xs h hy
  have hi := (List.getElem?_eq_some_iff.1 hx).1
  obtain ⟨A, c, hlv, hlc, hA⟩ := h.list.slice
  obtain ⟨g, rfl, _⟩ := hA (by omega)
  obtain ⟨w1, hw1⟩ : ∃ w1, w1 = w.alloc (.cells #[.int .i64 o.kind, .int .i64 o.tx, .string o.at_.1, .string o.at_.2, .string o.to_, .int .i64 o.last] 36) := ⟨_, rfl⟩
  have M0 := MA.start h o hw1
  rw [step_other hkd]
  have b := M0.box
  refine do_other q g i xs.length c o.kind o.tx o.last m o.at_.1 o.at_.2 o.to_ w w1 hw1 _ (by omega) (by omega) (by omega) (by omega) (by omega) (by omega) hi (by omega) b.1 b.2.1 ?_
  refine (M0.of hxl o.tx).mono ?_
  rintro e w2 ⟨rfl, B⟩
  have H := M0.below B
  have c3 := H.1.cell.2.2.2.1
  rw [hlv] at c3
  rw [hof]
  exact ⟨rfl, H.box.1, c3, F, vv, lv, xs, H.1, H.2.1⟩
end
end Go.Proofs.YthaoedfalkebbaaGreat
namespace Go.Proofs.YthaoedfalkebbaaGreat
open Go.RowKit Go.Maps Go.Sort Go.Lib Go.Shelf Go.Proofs.YthaoedfalkebbaaGreatW.PrintWords Go.Proofs.YthaoedfalkebbaaGreatW.PrintLast Go.Proofs.YthaoedfalkebbaaGreatW.PrintMore
set_option linter.unusedVariables false
set_option linter.unusedSimpArgs false
set_option linter.unusedSectionVars false
section
variable {w w' : World} {base q p : Nat} {F U : Nat → Prop} {W : Wld St} {rv vv lv : Value} {xs : List Rx} {K N : Int}
def scanT (W : Wld St) (o : Opn) (x : Run) (j : Nat) : Run := ((W.rows.take j).filter (fun a => eqS a.1 o.at_.1 && inR a.2 o.at_.2 o.to_)).foldl (sees W.vers) x
theorem scanT_succ (W : Wld St) (o : Opn) (x : Run) (j : Nat) (a : Lk) (h : W.rows[j]? = some a) : scanT W o x (j + 1) = if (eqS a.1 o.at_.1 && inR a.2 o.at_.2 o.to_) = true then sees W.vers (scanT W o x j) a else scanT W o x j := by
  unfold scanT
  rw [List.take_add_one, h, List.filter_append, List.foldl_append]
  simp only [Option.toList_some, List.filter_cons, List.filter_nil]
  split <;> rfl
theorem scanT_len (W : Wld St) (o : Opn) (x : Run) : ∀ j, (scanT W o x j).reads.length ≤ x.reads.length + j ∧ (scanT W o x j).writes = x.writes
  | 0 => ⟨by show x.reads.length ≤ _; omega, rfl⟩
  | j + 1 => by
    obtain ⟨h1, h2⟩ := scanT_len W o x j
    rcases hc : W.rows[j]? with _ | a
    · have : scanT W o x (j + 1) = scanT W o x j := by
        unfold scanT
        rw [List.take_add_one, hc]
        simp
      rw [this]
      exact ⟨by omega, h2⟩
    · rw [scanT_succ W o x j a hc]
      split
      · obtain ⟨h3, h4⟩ := sees_len W.vers (scanT W o x j) a
        exact ⟨by omega, h4.trans h2⟩
      · exact ⟨by omega, h2⟩
theorem do_scan_s (h : Wm w base q p F U W rv vv lv xs) (hC : Cap W.m K N) (o : Opn) (ho : o.OK) (m : Int) (hkd : o.kind = 2) (hxl : xs.length ≤ 2000000000000) (hvl : W.vers.length ≤ 2000000000000) (hrw : W.rows.length ≤ 2000000000000) {i : Nat} {x : Rx} (hx : xs[i]? = some x) (hof : ofR W.list o.tx = (i : Int)) (hrl : x.1.reads.length + W.rows.length ≤ 2000000000000) (hwl : x.1.writes.length ≤ 2000000000000) :
    Calls Tryz.prog 19 #[ptr q, .agg #[.int .i64 o.kind, .int .i64 o.tx, .string o.at_.1, .string o.at_.2, .string o.to_, .int .i64 o.last], .int .i64 m] w fun e w' => e = .returned (.int .i64 (W.step (iS W.m.caps.reads) o m).1) ∧ DoQ base q p U rv w (W.step (iS W.m.caps.reads) o m).2 w' := by
  have hi := (List.getElem?_eq_some_iff.1 hx).1
  have hlx := h.list_at hx
  obtain ⟨A, c, hlv, hlc, hA⟩ := h.list.slice
  obtain ⟨g, rfl, _⟩ := hA (by omega)
  obtain ⟨Ar, cr, hrv, _, hAr⟩ := h.rows.slice
  have hst := step_op (I := iS W.m.caps.reads) (m := m) (by omega) hof hlx
  have hop : W.opAt (iS W.m.caps.reads) o i x.1 = ((W.m.scan (iS W.m.caps.reads) o.tx o.at_.1 o.at_.2 o.to_).1, { W with m := (W.m.scan (iS W.m.caps.reads) o.tx o.at_.1 o.at_.2 o.to_).2, list := if (W.m.scan (iS W.m.caps.reads) o.tx o.at_.1 o.at_.2 o.to_).1 = 0 then W.list.set i (scanT W o x.1 W.rows.length) else W.list }) := by
    unfold Wld.opAt scanT
    rw [if_neg (by omega), if_pos hkd, List.take_length]
  obtain ⟨w1, hw1⟩ : ∃ w1, w1 = w.alloc (.cells #[.int .i64 o.kind, .int .i64 o.tx, .string o.at_.1, .string o.at_.2, .string o.to_, .int .i64 o.last] 36) := ⟨_, rfl⟩
  have M0 := MA.start h o hw1
  have hr1 : (W.step (iS W.m.caps.reads) o m).1 = (W.m.scan (iS W.m.caps.reads) o.tx o.at_.1 o.at_.2 o.to_).1 := by
    rw [hst]
    split <;> rw [hop]
  rw [hr1]
  have OF := M0.of hxl o.tx
  rw [hof] at OF
  have hE : (W.m.scan (iS W.m.caps.reads) o.tx o.at_.1 o.at_.2 o.to_).1 ≠ 0 → (W.step (iS W.m.caps.reads) o m).2 = { ({ W with m := (W.m.scan (iS W.m.caps.reads) o.tx o.at_.1 o.at_.2 o.to_).2 } : Wld St) with list := W.list.modify i (fun x => overR x m) } := fun hr => by
    rw [hst, hop, if_pos (.inl hr)]
    dsimp only
    rw [if_neg hr]
  have hG : (W.m.scan (iS W.m.caps.reads) o.tx o.at_.1 o.at_.2 o.to_).1 = 0 → (W.step (iS W.m.caps.reads) o m).2 = { W with m := (W.m.scan (iS W.m.caps.reads) o.tx o.at_.1 o.at_.2 o.to_).2, list := W.list.set i (scanT W o x.1 W.rows.length) } := fun hr => by
    rw [hst, hop, if_neg (by dsimp only; omega)]
    dsimp only
    rw [if_pos hr]
  rw [hkd] at hw1 ⊢
  let S' := (W.m.scan (iS W.m.caps.reads) o.tx o.at_.1 o.at_.2 o.to_).2
  let R : Nat → World → Prop := fun j V => (W.m.scan (iS W.m.caps.reads) o.tx o.at_.1 o.at_.2 o.to_).1 = 0 ∧ ∃ v5, MA w base q p F U { W with m := S', list := W.list.set i (scanT W o x.1 j) } rv vv lv (xs.set i (scanT W o x.1 j, v5, x.2.2)) o V
  refine do_scan q p g i xs.length c W.rows.length cr Ar o.tx o.last m (W.m.scan (iS W.m.caps.reads) o.tx o.at_.1 o.at_.2 o.to_).1 o.at_.1 o.at_.2 o.to_ w w1 hw1 (MA w base q p F U { W with m := S' } rv vv lv xs o) _ R hi (by omega) (by omega) ?_ OF ?_ ?_ ?_ ?_ ?_ ?_
  · intro V B
    have H := M0.below B
    have c3 := H.1.cell.2.2.2.1
    rw [hlv] at c3
    have b := H.box
    rw [hkd] at b
    exact ⟨H.pcell, c3, b⟩
  · intro V k B
    have H := (M0.below B).below (drewB2 V k)
    refine (H.1.m.scan H.1.top hC ho.tx ho.at_.t ho.at_.k ho.to_).mono ?_
    rintro e w3 ⟨rfl, hM, hK⟩
    exact ⟨rfl, H.go hM hK⟩
  · intro V H
    have b := H.box
    rw [hkd] at b
    exact ⟨H.pcell, b⟩
  · intro hr V H
    have c1 := H.1.cell.2.1
    rw [hrv] at c1
    refine ⟨c1, hr, x.2.1, ?_⟩
    have e : scanT W o x.1 0 = x.1 := rfl
    rw [e, show (x.1, x.2.1, x.2.2) = x from rfl, set_same hx, set_same hlx]
    exact H
  · rintro j V hj ⟨hr, v5, H⟩
    obtain ⟨h', rfl, _⟩ := hAr (by omega)
    have ha : W.rows[j]? = some W.rows[j] := List.getElem?_eq_getElem hj
    have hs := scanT_succ W o x.1 j _ ha
    have hln := scanT_len W o x.1 j
    have hR := H.1.rows
    rw [hrv] at hR
    obtain ⟨y0, y1⟩ := RowL.at hR j _ ha
    generalize W.rows[j] = a at ha hs y0 y1
    have B4 := allocB V (.cells #[.string a.1, .string a.2] 23)
    have H4 := H.below B4
    have b := H4.box
    rw [hkd] at b
    refine ⟨a, h', rfl, y0, y1, b, fun hh => ?_, fun hh => ?_⟩
    · rw [if_pos hh] at hs
      have hx4 : (xs.set i (scanT W o x.1 j, v5, x.2.2))[i]? = some (scanT W o x.1 j, v5, x.2.2) := by rw [List.getElem?_set, if_pos rfl, if_pos hi]
      refine (sees_calls H4.1 hx4 a (by dsimp only; omega) (by dsimp only; rw [hln.2]; exact hwl) hvl (by rw [List.length_set]; exact hxl)).mono ?_
      rintro e w3 ⟨rfl, v6, H5, K5⟩
      refine ⟨rfl, hr, v6, ?_⟩
      have M5 := H4.next H5 K5
      dsimp only at M5
      rw [List.set_set, List.set_set, ← hs] at M5
      exact M5
    · rw [if_neg (by rw [hh]; simp)] at hs
      exact ⟨hr, v5, by rw [hs]; exact H4⟩
  · rintro V ⟨hr, v5, H⟩
    have b := H.box
    rw [hkd] at b
    refine ⟨b, ?_⟩
    rw [hG hr]
    exact ⟨F, vv, lv, _, H.1, H.2.1⟩
  · intro hr V H
    exact end_at H.1 H.2.1 hx hlv m (hE hr)
theorem do_write_s (h : Wm w base q p F U W rv vv lv xs) (hC : Cap W.m K N) (o : Opn) (ho : o.OK) (m : Int) (hkd : o.kind = 3) (hxl : xs.length ≤ 2000000000000) (hvl : W.vers.length ≤ 2000000000000) {i : Nat} {x : Rx} (hx : xs[i]? = some x) (hof : ofR W.list o.tx = (i : Int)) (hwl : x.1.writes.length ≤ 2000000000000) :
    Calls Tryz.prog 19 #[ptr q, .agg #[.int .i64 o.kind, .int .i64 o.tx, .string o.at_.1, .string o.at_.2, .string o.to_, .int .i64 o.last], .int .i64 m] w fun e w' => e = .returned (.int .i64 (W.step (iS W.m.caps.reads) o m).1) ∧ DoQ base q p U rv w (W.step (iS W.m.caps.reads) o m).2 w' := by
  have hi := (List.getElem?_eq_some_iff.1 hx).1
  have hlx := h.list_at hx
  have hmem : x ∈ xs := List.mem_of_getElem? hx
  obtain ⟨A, c, hlv, hlc, hA⟩ := h.list.slice
  obtain ⟨g, rfl, _⟩ := hA (by omega)
  obtain ⟨Av, cv, hvv, _, hAv⟩ := h.vers.slice
  obtain ⟨Aw, cw, hwv, _, hAw⟩ := (h.wr x hmem).slice
  have hst := step_op (I := iS W.m.caps.reads) (m := m) (by omega) hof hlx
  obtain ⟨r, S', hrS⟩ : ∃ r S', (r, S') = W.m.write (iS W.m.caps.reads) o.tx o.at_ (lastNum W.vers o.at_) := ⟨_, _, rfl⟩
  have hop : W.opAt (iS W.m.caps.reads) o i x.1 = (r, { W with m := S', list := if r = 0 ∧ o.at_ ∉ x.1.writes then W.list.set i { x.1 with writes := x.1.writes ++ [o.at_] } else W.list }) := by
    unfold Wld.opAt
    rw [if_neg (by omega), if_neg (by omega), if_pos hkd]
    show ((W.m.write (iS W.m.caps.reads) o.tx o.at_ (lastNum W.vers o.at_)).1, { W with m := (W.m.write (iS W.m.caps.reads) o.tx o.at_ (lastNum W.vers o.at_)).2, list := if (W.m.write (iS W.m.caps.reads) o.tx o.at_ (lastNum W.vers o.at_)).1 = 0 ∧ o.at_ ∉ x.1.writes then W.list.set i { x.1 with writes := x.1.writes ++ [o.at_] } else W.list }) = _
    rw [← hrS]
  obtain ⟨w1, hw1⟩ : ∃ w1, w1 = w.alloc (.cells #[.int .i64 o.kind, .int .i64 o.tx, .string o.at_.1, .string o.at_.2, .string o.to_, .int .i64 o.last] 36) := ⟨_, rfl⟩
  have M0 := MA.start h o hw1
  have hr1 : (W.step (iS W.m.caps.reads) o m).1 = r := by
    rw [hst]
    split <;> rw [hop]
  rw [hr1]
  have OF := M0.of hxl o.tx
  rw [hof] at OF
  have hE : r ≠ 0 → (W.step (iS W.m.caps.reads) o m).2 = { ({ W with m := S' } : Wld St) with list := W.list.modify i (fun x => overR x m) } := fun hr => by
    rw [hst, hop, if_pos (.inl hr)]
    dsimp only
    rw [if_neg (by omega)]
  have hG : r = 0 → o.at_ ∉ x.1.writes → (W.step (iS W.m.caps.reads) o m).2 = { W with m := S', list := W.list.set i { x.1 with writes := x.1.writes ++ [o.at_] } } := fun hr hn => by
    rw [hst, hop, if_neg (by dsimp only; omega)]
    dsimp only
    rw [if_pos ⟨hr, hn⟩]
  have hI : r = 0 → o.at_ ∈ x.1.writes → (W.step (iS W.m.caps.reads) o m).2 = { W with m := S' } := fun hr hn => by
    rw [hst, hop, if_neg (by dsimp only; omega)]
    dsimp only
    rw [if_neg (fun e => e.2 hn)]
  rw [hkd] at hw1 ⊢
  refine do_write q p g i xs.length c x.1.writes.length cw W.vers.length cv Aw Av o.tx o.last m r (lastNum W.vers o.at_) (newest W.vers o.at_ 4611686018427387904) o.at_.1 o.at_.2 o.to_ (decide (o.at_ ∈ x.1.writes)) w w1 hw1 (MA w base q p F U { W with m := S' } rv vv lv xs o) (DoQ base q p U rv w (W.step (iS W.m.caps.reads) o m).2) hi (by omega) (by omega) ?_ OF ?_ ?_ ?_ ?_ ?_ ?_ ?_ ?_ ?_ ?_ ?_
  · intro V B
    have H := M0.below B
    have c3 := H.1.cell.2.2.2.1
    rw [hlv] at c3
    have b := H.box
    rw [hkd] at b
    exact ⟨H.pcell, c3, b⟩
  · intro V B
    have H := M0.below B
    refine (newest_calls base q vv W.vers o.at_ _ V H.1.cell.2.2.1 H.1.vers (by omega)).mono ?_
    rintro e w3 ⟨rfl, B3⟩
    exact ⟨rfl, below_then B B.size B3⟩
  · intro hn0
    rcases newest_cases W.vers o.at_ 4611686018427387904 with ⟨e, _⟩ | ⟨k, u, e, hu, _, _⟩
    · omega
    · have hk := (List.getElem?_eq_some_iff.1 hu).1
      obtain ⟨h', rfl, _⟩ := hAv (by omega)
      refine ⟨h', k, rfl, e, hk, fun V B => ?_⟩
      have H := M0.below B
      have c2 := H.1.cell.2.2.1
      have hV := H.1.vers
      rw [hvv] at c2 hV
      refine ⟨c2, ?_⟩
      have := (RowV.at hV k u hu).2.2.1
      rw [this]
      unfold lastNum
      rw [if_pos hn0, e, Int.toNat_natCast, hu]
      rfl
  · intro hn0
    unfold lastNum
    rw [if_neg (by omega)]
  · intro V k B
    have H := (M0.below B).below (drewB2 V k)
    refine (H.1.m.write H.1.top hC ho.tx ho.at_ (lastNum W.vers o.at_)).mono ?_
    rintro e w3 ⟨he, hM, hK⟩
    rw [← hrS] at he hM
    exact ⟨he, H.go hM hK⟩
  · intro V H
    have b := H.box
    rw [hkd] at b
    exact ⟨H.pcell, b⟩
  · intro V H
    exact H.below (drewB1 V)
  · rintro V ⟨F', vv', lv', xs', H, hk⟩
    exact ⟨F', vv', lv', xs', H.drew, hk.drew H.m.size⟩
  · intro hr V H
    have hl := H.1.list
    rw [hlv] at hl
    obtain ⟨_, _, _, _, _, _, _, y7⟩ := RowX.at hl i x hx
    rw [hwv] at y7
    refine ⟨y7, fun k => ?_⟩
    have H2 := H.below (drewB2 V k)
    have hw := H2.1.wr x hmem
    rw [hwv] at hw
    refine (has_calls base _ x.1.writes o.at_ _ hw (by omega)).mono ?_
    rintro e w3 ⟨rfl, B3⟩
    exact ⟨rfl, H2.below B3⟩
  · intro hr hb V H
    exact ⟨F, vv, lv, xs, by rw [hI hr (of_decide_eq_true hb)]; exact H.1, H.2.1⟩
  · intro hr hb V H
    have hl := H.1.list
    rw [hlv] at hl
    obtain ⟨gc, hg⟩ := hl.blk
    obtain ⟨_, _, _, _, _, _, _, y7⟩ := RowX.at hl i x hx
    rw [hwv] at y7
    have hwx := H.1.wr x hmem
    obtain ⟨v5, w5, hrun, L5, g5, hown⟩ := Lo.append2 (P := Tryz.prog) hwx (fun _ => rfl) oneLk 46 46 _ 32 Tryz.underlying46 Lck.info23 rfl (by decide) (by decide) o.at_ (by omega) H.1.m.size
    have F5 : Fr (fun k => x.2.2.ownBlock = some k) V w5 := Fr.grown g5
    have hgR : x.2.2.ownBlock ≠ some g := lo_kind hwx hg (by decide)
    have hbR : x.2.2.ownBlock ≠ some w.heap.size := lo_kind hwx H.2.2 (by decide)
    obtain ⟨H6, K6⟩ := H.1.setWr hx hlv L5 rfl F5 hown (fun b hb => (L5.typed b hb).2.1)
    have M6 := H.next H6 K6
    obtain ⟨A5, c5, e5, _⟩ := L5.slice
    rw [e5] at hrun M6 H6 K6
    rw [hwv] at hrun
    have b := M6.box
    rw [hkd] at b
    have bx := H.box
    obtain ⟨_, _, x2, x3, _⟩ := bx
    refine ⟨y7, A5, _, c5, w5, hrun, F5.cell y7 hgR, F5.cell x2 hbR, F5.cell x3 hbR, blk_frozen (F5.block g _ hgR hg) _, b, ?_⟩
    rw [hG hr (of_decide_eq_false hb)]
    exact ⟨_, vv, lv, _, H6, M6.2.1⟩
  · intro hr V H
    exact end_at H.1 H.2.1 hx hlv m (hE hr)
end
end Go.Proofs.YthaoedfalkebbaaGreat
