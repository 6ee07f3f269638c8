import Derived.Test.YteikmnokmcnmcaaSF
namespace Go.Proofs.Yteikmnokmcnmcaa
open Go.RowKit Go.Maps Go.Sort Go.Lib Go.Proofs.YteikmnokmcnmcaaW.PrintWords Go.Proofs.YteikmnokmcnmcaaW.PrintLast Go.Proofs.YteikmnokmcnmcaaW.PrintMore
set_option linter.unusedVariables false
set_option linter.unusedSimpArgs false
set_option linter.unusedSectionVars false
/-! ### the closures -/
abbrev boxR (x : Rd) : Obj := .cells #[.string x.t, .int .i64 x.k, .string x.f, .string x.u] 23 (0, 0)
theorem enters29 : ∀ args w, (callFunc 29 args).run Try.prog w = .ok (.enter 29 args) w := enters_of Try.func29 (by kernel_rfl) rfl
theorem enters32 : ∀ args w, (callFunc 32 args).run Try.prog w = .ok (.enter 32 args) w := enters_of Try.func32 (by kernel_rfl) rfl
theorem enters35 : ∀ args w, (callFunc 35 args).run Try.prog w = .ok (.enter 35 args) w := enters_of Try.func35 (by kernel_rfl) rfl
/-- a closure that holds one pointer to a block -/
def PredB (bx : Nat) (o : Obj) (g : Nat) (p : Rd → Bool) (xs : List Rd) : Prop :=
  ∀ (W : World) (x : Rd), x ∈ xs → W.heap[bx]? = some o → Calls Try.prog g #[mkR x, .pointer (some ⟨bx, 0, none⟩)] W fun e w' => e = .returned (.bool (p x)) ∧ Below W.heap.size W w'
theorem PredB.preds {bx : Nat} {o : Obj} {g : Nat} {p : Rd → Bool} {xs : List Rd} (H : PredB bx o g p xs) {w : World} (h : w.heap[bx]? = some o) : Preds w g #[.pointer (some ⟨bx, 0, none⟩)] p xs :=
  fun W x hx hb => H W x hx ((hb.block bx (Array.getElem?_eq_some_iff.1 h).1).trans h)
theorem PredB.less {bx : Nat} {o : Obj} {g : Nat} {p : Rd → Bool} {xs ys : List Rd} (H : PredB bx o g p xs) (h : ∀ y ∈ ys, y ∈ xs) : PredB bx o g p ys := fun W x hx => H W x (h x hx)
set_option maxHeartbeats 4000000 in
set_option maxRecDepth 100000 in
theorem pred29 (x : Rd) (bx : Nat) (xs : List Rd) (hx : x.OK) (hxs : ∀ y ∈ xs, y.OK) : PredB bx (boxR x) 29 (fun y => cov y x) xs := by
  intro W y hy h
  obtain ⟨w1, hw1⟩ : ∃ w1, w1 = W.alloc (.cells #[.string y.t, .int .i64 y.k, .string y.f, .string y.u] 23) := ⟨_, rfl⟩
  have B1 : Below W.heap.size W w1 := by rw [hw1]; exact boxed W y
  have oy : w1.heap[W.heap.size]? = some (boxR y) := by rw [hw1]; exact heap_alloc_new W _
  have ox := (B1.block bx (Array.getElem?_eq_some_iff.1 h).1).trans h
  obtain ⟨y0, y1, y2, y3⟩ := rd_cells oy
  obtain ⟨x0, x1, x2, x3⟩ := rd_cells ox
  have C := covers_calls y x (hxs y hy) hx w1
  show Calls Try.prog 29 #[.agg #[.string y.t, .int .i64 y.k, .string y.f, .string y.u], .pointer (some ⟨bx, 0, none⟩)] W fun e w' => e = .returned (.bool (cov y x)) ∧ Below W.heap.size W w'
  generalize cov y x = r at C ⊢
  clear oy ox hxs hx h
  go_enter Try.func29, Try.ntmps29
  go_upto_region 1 with (fail)
  rw [← hw1]
  clear hw1
  go_wp2_with fail
  refine C.mono ?_
  rintro e w3 ⟨rfl, D3⟩
  go_wp2
  go_ret
  exact ⟨rfl, below_then B1 B1.size D3⟩
set_option maxHeartbeats 4000000 in
set_option maxRecDepth 100000 in
theorem pred32 (x : Rd) (bx : Nat) (xs : List Rd) (hx : x.OK) (hxs : ∀ y ∈ xs, y.OK) : PredB bx (boxR x) 32 (fun y => cov x y) xs := by
  intro W y hy h
  obtain ⟨w1, hw1⟩ : ∃ w1, w1 = W.alloc (.cells #[.string y.t, .int .i64 y.k, .string y.f, .string y.u] 23) := ⟨_, rfl⟩
  have B1 : Below W.heap.size W w1 := by rw [hw1]; exact boxed W y
  have oy : w1.heap[W.heap.size]? = some (boxR y) := by rw [hw1]; exact heap_alloc_new W _
  have ox := (B1.block bx (Array.getElem?_eq_some_iff.1 h).1).trans h
  obtain ⟨y0, y1, y2, y3⟩ := rd_cells oy
  obtain ⟨x0, x1, x2, x3⟩ := rd_cells ox
  have C := covers_calls x y hx (hxs y hy) w1
  show Calls Try.prog 32 #[.agg #[.string y.t, .int .i64 y.k, .string y.f, .string y.u], .pointer (some ⟨bx, 0, none⟩)] W fun e w' => e = .returned (.bool (cov x y)) ∧ Below W.heap.size W w'
  generalize cov x y = r at C ⊢
  clear oy ox hxs hx h
  go_enter Try.func32, Try.ntmps32
  go_upto_region 1 with (fail)
  rw [← hw1]
  clear hw1
  go_wp2_with fail
  refine C.mono ?_
  rintro e w3 ⟨rfl, D3⟩
  go_wp2
  go_ret
  exact ⟨rfl, below_then B1 B1.size D3⟩
set_option maxHeartbeats 4000000 in
set_option maxRecDepth 100000 in
theorem holds_calls (y : Rd) (key : ByteArray) (W : World) : Calls Try.prog 36 #[.agg #[.string y.t, .int .i64 y.k, .string y.f, .string y.u], .string key] W fun e w' => e = .returned (.bool (holdB y key)) ∧ Below W.heap.size W w' := by
  have B1 := fun o => (Below.refl _ W).alloc (Nat.le_refl _) o
  unfold holdB
  by_cases k1 : y.k = 1
  · rw [if_pos k1]
    go_enter Try.func36, Try.ntmps36
    go_wp2
    all_goals
      go_ret
      exact ⟨by simp_all, B1 _⟩
  by_cases k2 : y.k = 2
  · rw [if_neg k1, if_pos k2]
    have hl := leq_less y.f.toList key.toList
    go_enter Try.func36, Try.ntmps36
    go_wp2
    all_goals
      go_ret
      refine ⟨?_, B1 _⟩
      clear B1
      simp_all [leq_less, leq_iff]
  · rw [if_neg k1, if_neg k2]
    go_enter Try.func36, Try.ntmps36
    go_wp2
    go_ret
    exact ⟨rfl, B1 _⟩
set_option maxHeartbeats 4000000 in
set_option maxRecDepth 100000 in
theorem pred35 (x : Rd) (bx : Nat) (xs : List Rd) : PredB bx (boxR x) 35 (fun y => holdB y x.f) xs := by
  intro W y hy h
  obtain ⟨w1, hw1⟩ : ∃ w1, w1 = W.alloc (.cells #[.string y.t, .int .i64 y.k, .string y.f, .string y.u] 23) := ⟨_, rfl⟩
  have B1 : Below W.heap.size W w1 := by rw [hw1]; exact boxed W y
  have oy : w1.heap[W.heap.size]? = some (boxR y) := by rw [hw1]; exact heap_alloc_new W _
  have ox := (B1.block bx (Array.getElem?_eq_some_iff.1 h).1).trans h
  obtain ⟨y0, y1, y2, y3⟩ := rd_cells oy
  obtain ⟨x0, x1, x2, x3⟩ := rd_cells ox
  have C := holds_calls y x.f w1
  show Calls Try.prog 35 #[.agg #[.string y.t, .int .i64 y.k, .string y.f, .string y.u], .pointer (some ⟨bx, 0, none⟩)] W fun e w' => e = .returned (.bool (holdB y x.f)) ∧ Below W.heap.size W w'
  generalize holdB y x.f = r at C ⊢
  clear oy ox h
  go_enter Try.func35, Try.ntmps35
  go_upto_region 1 with (fail)
  rw [← hw1]
  clear hw1
  go_wp2_with fail
  refine C.mono ?_
  rintro e w3 ⟨rfl, D3⟩
  go_wp2
  go_ret
  exact ⟨rfl, below_then B1 B1.size D3⟩
end Go.Proofs.Yteikmnokmcnmcaa
