import Derived.Test.YteikmnokmcnmcaaSE
namespace Go.Proofs.Yteikmnokmcnmcaa
open Go.RowKit Go.Maps Go.Sort Go.Lib Go.Proofs.YteikmnokmcnmcaaW.PrintWords Go.Proofs.YteikmnokmcnmcaaW.PrintLast Go.Proofs.YteikmnokmcnmcaaW.PrintMore
set_option linter.unusedVariables false
set_option linter.unusedSimpArgs false
set_option linter.unusedSectionVars false
/-! ### IndexFunc, ContainsFunc over a row of notes -/
abbrev mkR (x : Rd) : Value := .agg #[.string x.t, .int .i64 x.k, .string x.f, .string x.u]
abbrev RowR (w : World) (base : Nat) (v : Value) (xs : List Rd) : Prop := Lo cellsR 4 23 w base v xs
theorem RowR.at {w : World} {base g n c : Nat} {xs : List Rd} (h : RowR w base (.slice (some ⟨g, 0, none⟩) n c) xs) (j : Nat) (x : Rd) (hj : xs[j]? = some x) :
    w.cell? ⟨g, j * 4, none⟩ = some (.string x.t) ∧ w.cell? ⟨g, j * 4 + 1, none⟩ = some (.int .i64 x.k) ∧ w.cell? ⟨g, j * 4 + 2, none⟩ = some (.string x.f) ∧ w.cell? ⟨g, j * 4 + 3, none⟩ = some (.string x.u) := by
  have H := h.cell (fun _ => rfl) rfl j x hj
  exact ⟨by simpa using H 0 _ rfl, H 1 _ rfl, H 2 _ rfl, H 3 _ rfl⟩
/-- a predicate's closure -/
def Preds (w : World) (g : Nat) (lb : Array Value) (p : Rd → Bool) (xs : List Rd) : Prop :=
  ∀ (W : World) (x : Rd), x ∈ xs → Below w.heap.size w W → Calls Try.prog g (#[mkR x] ++ lb) W fun e w' => e = .returned (.bool (p x)) ∧ Below W.heap.size W w'
theorem Preds.later {w w1 : World} {g : Nat} {lb : Array Value} {p : Rd → Bool} {xs : List Rd} (h : Preds w g lb p xs) (hb : Below w.heap.size w w1) : Preds w1 g lb p xs := fun W x hx hW => h W x hx (below_then hb hb.size hW)
def idxP (p : Rd → Bool) (xs : List Rd) : Int := if xs.findIdx p < xs.length then xs.findIdx p else -1
theorem idx_hit {p : Rd → Bool} {xs : List Rd} {j : Nat} (hj : j < xs.length) (h : p xs[j] = true) (hn : ∀ i (hi : i < xs.length), i < j → p xs[i] = false) : xs.findIdx p = j := by
  rw [List.findIdx_eq hj]
  exact ⟨h, fun i hi => hn i (by omega) hi⟩
theorem idx_none {p : Rd → Bool} {xs : List Rd} (h : ∀ i (hi : i < xs.length), p xs[i] = false) : xs.findIdx p = xs.length := by
  rw [List.findIdx_eq_length]
  intro x hx
  obtain ⟨i, hi, rfl⟩ := List.getElem_of_mem hx
  exact h i hi
set_option maxHeartbeats 4000000 in
set_option maxRecDepth 100000 in
theorem IndexFunc_calls (base : Nat) (v : Value) (xs : List Rd) (p : Rd → Bool) (g : Nat) (lb : Array Value) (eg : ∀ args w, (callFunc g args).run Try.prog w = .ok (.enter g args) w) (w : World) (h : RowR w base v xs) (hl : xs.length ≤ 9223372036854775806) (hp : Preds w g lb p xs) :
    Calls Try.prog 48 #[v, .func (.func g) #[] lb] w fun e w' => e = .returned (.int .i64 (idxP p xs)) ∧ Below w.heap.size w w' := by
  obtain ⟨A, c, rfl, hlc, hA⟩ := h.slice
  go_enter Try.func48, Try.ntmps48
  go_wp2_with fail
  go_loopw [5, 8] (fun _ iv wr => ∃ j : Nat, j ≤ xs.length ∧ iv = .int .i64 j ∧ RowR wr base (.slice A xs.length c) xs ∧ Below w.heap.size w wr ∧ (∀ i (hi : i < xs.length), i < j → p xs[i] = false)) (fun _ iv _ => xs.length - (intOf iv).toNat)
  case atStart => exact ⟨0, Nat.zero_le _, rfl, h, Below.refl _ _, fun i _ hi => by omega⟩
  case round =>
    clear h
    obtain ⟨j, hj, rfl, h, hb, hn⟩ := hrel
    by_cases hjl : j < xs.length
    · obtain ⟨k, rfl, _⟩ := hA (by omega)
      obtain ⟨y0, y1, y2, y3⟩ := RowR.at h j xs[j] (List.getElem?_eq_getElem hjl)
      have hcall := hp wr xs[j] (List.getElem_mem hjl) hb
      have hx := idx_hit (p := p) hjl
      generalize hy : xs[j] = x at y0 y1 y2 y3 hcall hx
      replace hy := Aside0.mk hy
      replace hn := Aside0.mk hn
      replace h := Aside0.mk h
      cases hq : p x with
      | true =>
        rw [hq] at hcall
        go_wp2_with (go_at_fn g; refine hcall.mono ?_; rintro e w' ⟨rfl, hb'⟩)
        go_ret
        have := hx hq hn.out
        exact ⟨by rw [idxP, this, if_pos hjl]; rfl, below_then hb hb.size hb'⟩
      | false =>
        rw [hq] at hcall
        go_wp2_with (go_at_fn g; refine hcall.mono ?_; rintro e w' ⟨rfl, hb'⟩)
        go_roundw
        case rel =>
          refine ⟨j + 1, by omega, by go_num, h.out.grown (grown_of_below hb' none) (by simp), below_then hb hb.size hb', fun i hi hij => ?_⟩
          rcases Nat.lt_or_ge i j with h1 | h1
          · exact hn.out i hi h1
          · obtain rfl : i = j := by omega
            rw [hy.out]; exact hq
        case measure => simp [intOf]; omega
    · obtain rfl : j = xs.length := by omega
      have := idx_none (p := p) (xs := xs) fun i hi => hn i hi hi
      go_wp2
      go_ret
      exact ⟨by rw [idxP, this, if_neg (by omega)]; rfl, hb⟩
theorem idx_any (p : Rd → Bool) (xs : List Rd) : decide (0 ≤ idxP p xs) = xs.any p := by
  unfold idxP
  cases h : xs.any p with
  | true =>
    rw [if_pos (List.findIdx_lt_length.2 (by simpa using h))]
    simp
  | false =>
    rw [if_neg (by
      rw [List.findIdx_lt_length]
      rintro ⟨x, hx, h2⟩
      have : xs.any p = true := List.any_eq_true.2 ⟨x, hx, h2⟩
      rw [h] at this; cases this)]
    simp
set_option maxHeartbeats 4000000 in
set_option maxRecDepth 100000 in
theorem ContainsFunc_calls (base : Nat) (v : Value) (xs : List Rd) (p : Rd → Bool) (g : Nat) (lb : Array Value) (eg : ∀ args w, (callFunc g args).run Try.prog w = .ok (.enter g args) w) (w : World) (h : RowR w base v xs) (hl : xs.length ≤ 9223372036854775806) (hp : Preds w g lb p xs) :
    Calls Try.prog 28 #[v, .func (.func g) #[] lb] w fun e w' => e = .returned (.bool (xs.any p)) ∧ Below w.heap.size w w' := by
  have C := IndexFunc_calls base v xs p g lb eg w h hl hp
  rw [← idx_any]
  clear h hp eg
  generalize idxP p xs = i at C ⊢
  go_enter Try.func28, Try.ntmps28
  go_wp2_with (go_at_call 48; refine C.mono ?_; rintro e w' ⟨rfl, hb⟩)
  go_ret
  exact ⟨rfl, hb⟩
end Go.Proofs.Yteikmnokmcnmcaa
