import Derived.Test.YtoeefamnglbakaaP
namespace Go.Proofs.Ytoeefamnglbakaa
open Go.RowKit Go.Shelf Go.Proofs.YtoeefamnglbakaaW.PrintWords Go.Proofs.YtoeefamnglbakaaW.PrintLast Go.Proofs.YtoeefamnglbakaaW.PrintMore
set_option linter.unusedVariables false
set_option linter.unusedSimpArgs false
attribute [local go_sem] t3 ts Oper.semAt_some
theorem Fr.turns {w0 A B : World} {b : Nat} {v : Value} {xs : List Int} (h : Fr w0 A v xs) (hb : w0.heap.size ≤ b) (t : Turns b A B) : Fr w0 B v xs := by
  refine ⟨?_, h.2.trans (below_turns hb t)⟩
  obtain ⟨l, o, o', hl, ho, hc, rfl⟩ := t
  have own := Kd.own_of_R (h1 := fun _ => rfl) (enc := Value.int .u8) h.1
  refine Kd.R_of_own (own_move own fun k hk => ?_) h.1.1
  obtain ⟨cells, hcell⟩ := own_typed own k hk
  exact World.putObj_heap_other (fun e => by subst e; rw [ho] at hcell; cases hcell; cases hc)
def pos (l : List Int) : Nat → Int
  | 0 => 0
  | k + 1 => pos l k + (tf l (pos l k)).2.1
theorem tf_size (l : List Int) (a : Int) (hb : bytesOK l) (h : (tf l a).2.2 = 0) : 0 ≤ a ∧ 8 ≤ (tf l a).2.1 ∧ a + (tf l a).2.1 ≤ l.length := by
  have hu := un4_rng hb a
  unfold tf at h ⊢
  split at h
  · simp at h
  · rename_i h1; rw [if_neg h1]
    split at h
    · simp at h
    · rename_i h2; rw [if_neg h2]
      split at h
      · simp at h
      · rename_i h3; rw [if_neg h3]
        split at h
        · simp at h
        · rename_i h4; rw [if_neg h4]
          simp only
          omega
/-- how far k rounds have come -/
def At (l : List Int) (k : Nat) : Prop := 0 ≤ pos l k ∧ pos l k ≤ l.length ∧ 8 * (k : Int) ≤ pos l k
theorem At.zero (l : List Int) : At l 0 := by unfold At pos; omega
theorem At.next {l : List Int} {k : Nat} (hb : bytesOK l) (h : At l k) (he : (tf l (pos l k)).2.2 = 0) : At l (k + 1) := by
  have := tf_size l _ hb he
  unfold At at *
  rw [pos]
  omega
def Hands (l : List Int) (w0 : World) (k : Nat) (x : Int × Value) (W : World) : Prop := x.1 = pos l k ∧ At l k ∧ (tf l (pos l k)).2.2 = 0 ∧ Fr w0 W x.2 (tf l (pos l k)).1
def enc2 (x : Int × Value) : Array Value := #[.int .i64 x.1, x.2]
set_option maxHeartbeats 4000000 in
set_option maxRecDepth 100000 in
theorem Frames1 (n : Nat) (B : Nat) (A : Option Addr) (c : Nat) (l : List Int) (w0 : World) (hB : B < w0.heap.size) (hcell : w0.cell? ⟨B, 0, none⟩ = some (.slice A l.length c)) (hr : Kd.C (Kd.int .u8) w0 A l.length l) (hc : l.length ≤ c) (hb : bytesOK l) (hmx : l.length ≤ 140737488351232) :
    Iter n Try.prog 39 #[.pointer (some ⟨B, 0, none⟩)] enc2 (Hands l w0) (fun k => At l k ∧ (tf l (pos l k)).2.2 ≠ 0) w0.heap.size w0 := by
  intro lp J Jx W hW hJ hY h0
  have hr := Aside0.mk hr
  have hb := Aside0.mk hb
  refine callsIn_of_wp Try.func39 rfl trivial ?_ rfl
  simp only [Try.ntmps39, List.size_toArray, List.length_cons, List.length_nil, Nat.reduceAdd, Nat.reduceSub, Array.replicate_succ, Array.replicate_zero, List.push_toArray, List.append_toArray, List.nil_append, List.cons_append]
  gi_wp2
  gi_loopw [3] (fun i wr => ∃ k : Nat, i = .int .i64 (pos l k) ∧ At l k ∧ J k wr ∧ Below w0.heap.size w0 wr) (fun i _ => l.length - (intOf i).toNat)
  case atStart => exact ⟨0, rfl, At.zero l, h0, hW⟩
  case round =>
    obtain ⟨k, rfl, hat, hj, hbe⟩ := hrel
    have hcl := (hbe.cell (p := ⟨B, 0, none⟩) hB).trans hcell
    have C := callsIn_wide (n := n - 1).2 (TakeFrame_calls A c l (pos l k) wr (Kd.C_below hr.out hbe) hc hb.out hmx)
    have hat' := Aside0.mk hat
    unfold At at hat
    gi_wp2_with fail
    refine ⟨trivial, fun h => absurd h (by decide), C.mono ?_⟩
    rintro e w1 ⟨v, rfl, H⟩
    by_cases he : (tf l (pos l k)).2.2 = 0
    · obtain ⟨fn, tmps, assign, body, hy, hR⟩ := hY k (pos l k, v) w1 (hJ _ _ _ hj H.2) ⟨rfl, hat'.out, he, H.of_later hbe⟩
      have hnx := hat'.out.next hb.out he
      have hst := tf_size l _ hb.out he
      have hps : pos l k + (tf l (pos l k)).2.1 = pos l (k + 1) := rfl
      simp only [enc2] at hy
      rw [he]
      generalize (tf l (pos l k)).2.1 = sz at *
      clear he hat'
      generalize hp' : pos l (k + 1) = p1 at *
      gi_wp2
      refine ⟨fun h => absurd h (by decide), hR.mono ?_⟩
      rintro e W3 (⟨rfl, hJ3, hk3⟩ | ⟨rfl, hJx3⟩)
      · gi_wp2
        refine ⟨⟨k + 1, by rw [hp'], hnx, hJ3, (Below_trans hbe H.2).trans hk3⟩, ?_⟩
        simp only [intOf]
        omega
      · gi_wp2
        refine bodyPost_ret (results_none rfl _ _ _) rfl ?_
        exact ⟨⟨_, rfl⟩, .inr hJx3⟩
    · have E : ((tf l (pos l k)).2.2 != 0) = true := by simpa using he
      generalize (tf l (pos l k)).2.1 = sz at *
      have he' := Aside0.mk he
      clear he
      generalize (tf l (pos l k)).2.2 = ee at E ⊢
      gi_wp2
      refine ⟨fun _ _ => trivial, ?_⟩
      gi_wp2
      refine bodyPost_ret (results_none rfl _ _ _) rfl ?_
      exact ⟨⟨_, rfl⟩, .inl ⟨k, ⟨hat'.out, he'.out⟩, hJ _ _ _ hj H.2⟩⟩
end Go.Proofs.Ytoeefamnglbakaa
