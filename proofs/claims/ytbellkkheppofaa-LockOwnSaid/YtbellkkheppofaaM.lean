import Derived.Test.YtbellkkheppofaaK
namespace Go.Proofs.Ytbellkkheppofaa
open Go.RowKit Go.Maps Go.Sort Go.Proofs.YtbellkkheppofaaW.PrintWords Go.Proofs.YtbellkkheppofaaW.PrintLast Go.Proofs.YtbellkkheppofaaW.PrintMore
set_option linter.unusedVariables false
set_option linter.unusedSimpArgs false
set_option linter.unusedSectionVars false
/-- the release under way -/
def RI (w w1 : World) (b : Nat) (L : List (Lk × Int)) (xs : List Lk) (v i : Value) (wr : World) : Prop :=
  ∃ k : Nat, k ≤ xs.length ∧ i = .int .i64 k ∧ TabL wr b L.length (L.filter (fun p => (xs.take k).all (fun a => decide (p.1 ≠ a)))) ∧ dL.R 23 wr w.heap.size (fun k => k ≠ b) v xs ∧ w1.grownBy wr (some b)
theorem Mg.good {w : World} {p b : Nat} {most : Int} {L : List (Lk × Int)} (h : Mg w p b most L) : ∀ q ∈ L, okL q.1 := by
  obtain ⟨D, _, h2⟩ := h.tab
  exact h2.good
theorem heldOf_length (L : List (Lk × Int)) (tx : Int) : (heldOf L tx).length = (L.filter (fun p => p.2 = tx)).length := by simp [heldOf, srt_length]
theorem heldOf_mem {L : List (Lk × Int)} {tx : Int} {a : Lk} : a ∈ heldOf L tx ↔ (a, tx) ∈ L := by
  unfold heldOf srt
  rw [List.mem_mergeSort]
  simp only [List.mem_map, List.mem_filter, decide_eq_true_eq]
  constructor
  · rintro ⟨⟨x, y⟩, ⟨h1, h2⟩, rfl⟩
    simp only at h2
    subst h2
    exact h1
  · intro h
    exact ⟨_, ⟨h, rfl⟩, rfl⟩
theorem without_step {L : List (Lk × Int)} {xs : List Lk} {k : Nat} (hk : k < xs.length) {a : Lk} (ha : xs.getD k (ByteArray.empty, ByteArray.empty) = a) :
    L.filter (fun p => (xs.take (k + 1)).all (fun a => decide (p.1 ≠ a))) = (L.filter (fun p => (xs.take k).all (fun a => decide (p.1 ≠ a)))).filter (fun p => p.1 ≠ a) := by
  have e : xs[k] = a := by rw [← ha, List.getD_eq_getElem?_getD, List.getElem?_eq_getElem hk]; rfl
  rw [List.filter_filter, List.take_succ_eq_append_getElem hk, e]
  congr 1
  funext p
  rw [List.all_append]
  simp [Bool.and_comm]
theorem without_all {L : List (Lk × Int)} (hL : L.Pairwise (fun p p' => p.1 ≠ p'.1)) (tx : Int) : L.filter (fun p => (heldOf L tx).all (fun a => decide (p.1 ≠ a))) = L.filter (fun p => p.2 ≠ tx) := by
  refine List.filter_congr fun p hp => ?_
  rw [Bool.eq_iff_iff]
  simp only [List.all_eq_true, decide_eq_true_eq]
  constructor
  · rintro h rfl
    exact h p.1 (heldOf_mem.2 hp) rfl
  · rintro h a ha rfl
    have h1 := mem_got hL (heldOf_mem.1 ha)
    have h2 := mem_got hL (show (p.1, p.2) ∈ L from hp)
    rw [h1] at h2
    exact h (Option.some.inj h2).symm
set_option maxHeartbeats 4000000 in
set_option maxRecDepth 100000 in
theorem Release_calls (p b : Nat) (most : Int) (L : List (Lk × Int)) (tx : Int) (w : World) (h : Mg w p b most L) (hL : L.length ≤ 4096) :
    Calls Try.prog 11 #[.pointer (some ⟨p, 0, none⟩), .int .i64 tx] w fun e w' => e = .returned (.int .i64 ((L.filter (fun p => p.2 = tx)).length : Nat)) ∧ Mg w' p b most (L.filter (fun p => p.2 ≠ tx)) ∧ w.grownBy w' (some b) := by
  have N := none_calls p b w h.map
  have hm := h.map
  have hH := Held_calls p b most L tx w h hL
  go_enter Try.func11, Try.ntmps11
  go_wp2_with fail
  refine N.mono ?_
  rintro e w' ⟨rfl, rfl⟩
  go_wp2_with fail
  refine hH.mono ?_
  rintro e w1 ⟨v, rfl, H1, B1⟩
  obtain ⟨A, c, rfl, hle, hC⟩ := Kd.R_reads H1
  go_wp2_with fail
  have hs1 := B1.size
  have hb0 := h.tab.lt
  have hp0 := World.block_lt_of_cell? _ _ hm
  have hne := h.ne
  have hlen : (heldOf L tx).length ≤ 4096 := by
    rw [heldOf_length]
    exact Nat.le_trans (List.length_filter_le _ _) hL
  go_loopw [15] (fun i wr => RI w w1 b L (heldOf L tx) (.slice A (heldOf L tx).length c) i wr) (fun i _ => (heldOf L tx).length - (intOf i).toNat)
  case atStart =>
    refine ⟨0, Nat.zero_le _, rfl, ?_, ?_, ?_⟩
    · have : L.filter (fun p => ((heldOf L tx).take 0).all (fun a => decide (p.1 ≠ a))) = L := List.filter_eq_self.2 (fun _ _ => rfl)
      rw [this]
      exact (h.below B1).tab
    · exact Kd.R_mono (Kd.R_bound H1) (fun k hk e => by have := hk.2.1; omega)
    · exact ⟨rfl, rfl, rfl, Nat.le_refl _, fun _ _ _ => rfl⟩
  case round =>
    obtain ⟨k, hk, rfl, hT, hR, hG⟩ := hrel
    by_cases hlt : k < (heldOf L tx).length
    · obtain ⟨ad, cs, rfl, hcl, hcs, hcc⟩ := Kd.C_get (Kd.R_reads' hR).2.2 (ByteArray.empty, ByteArray.empty) (k : Int) (by omega) (by omega)
      generalize haa : (heldOf L tx).getD (k : Int).toNat (ByteArray.empty, ByteArray.empty) = a at hcs
      obtain rfl : cs = cellsL a := hcs
      have q0 : wr.cell? (ad.add (k * 2)) = some (.string a.1) := hcc 0 _ rfl
      have q1 : wr.cell? (ad.add (k * 2 + 1)) = some (.string a.2) := hcc 1 _ rfl
      obtain ⟨g, rfl⟩ := Kd.R_head hR
      rw [add_plain] at q0 q1
      clear hcc hcl
      obtain ⟨w2, hw2⟩ : ∃ w2, w2 = wr.alloc (.cells #[.string a.1, .string a.2] 23) := ⟨_, rfl⟩
      have hg2 : wr.grownBy w2 none := by rw [hw2]; exact World.grownBy_alloc _ _ _
      have hmr : wr.cell? ⟨p, 1, none⟩ = some (.map (some b)) := hG.cell (B1.cell hp0 |>.trans hm) (fun e => by injection e with e; exact hne e)
      have hm2 : w2.cell? ⟨p, 1, none⟩ = some (.map (some b)) := hg2.cell hmr (by simp)
      have c0 : w2.cell? ⟨wr.heap.size, 0, none⟩ = some (.string a.1) := by rw [hw2]; simp [go_sem]
      have c1 : w2.cell? ⟨wr.heap.size, 1, none⟩ = some (.string a.2) := by rw [hw2]; simp [go_sem]
      have hka : (heldOf L tx).getD k (ByteArray.empty, ByteArray.empty) = a := haa
      have hok : okL a := by
        have hm : a ∈ heldOf L tx := by
          rw [← hka, List.getD_eq_getElem?_getD, List.getElem?_eq_getElem hlt]
          exact List.getElem_mem hlt
        exact h.good _ (heldOf_mem.1 hm)
      have hbr : b < wr.heap.size := Nat.lt_of_lt_of_le (Nat.lt_of_lt_of_le hb0 hs1) hG.size
      have ht2 : TabL w2 b L.length _ := hT.kept hg2 (by simp)
      obtain ⟨w3, hst, ht3, hturn⟩ := Tab.drop (w := w2.drew) (t := 54) keyL Try.underlying54 (show TabL w2.drew b L.length _ from ht2) hok 0
      unfold mkL at hst
      have hg3 := turned_grown hturn
      have hb3 : ∀ q j v, w2.cell? ⟨q, j, none⟩ = some v → q ≠ b → w3.cell? ⟨q, j, none⟩ = some v := fun q j v hv hq => hg3.cell (show w2.drew.cell? _ = _ from hv) (fun e => by injection e with e; exact hq e)
      have hm3 := hb3 _ _ _ hm2 hne
      have d0 := hb3 _ _ _ c0 (by omega)
      have d1 := hb3 _ _ _ c1 (by omega)
      clear hb3 hmr
      go_wp2_with fail
      rw [← hw2]
      clear hw2
      go_region_held3 (fun W => W.cell? ⟨p, 1, none⟩ = some (.map (some b)) ∧ W.cell? ⟨wr.heap.size, 0, none⟩ = some (.string a.1) ∧ W.cell? ⟨wr.heap.size, 1, none⟩ = some (.string a.2)) (first | exact ⟨hm2, c0, c1⟩ | exact ⟨hm3, d0, d1⟩) (fail)
      go_wp2
      go_roundw
      case rel =>
        refine ⟨k + 1, by omega, by go_num, ?_, ?_, ?_⟩
        · rw [without_step hlt hka]; exact ht3
        · have hR2 := Kd.R_grown hR hg2 (fun _ _ => by simp)
          exact Kd.R_grown (w := w2.drew) hR2 hg3 (fun k hk e => hk (by injection e))
        · exact ⟨hg3.os.trans (hg2.os.trans hG.os), hg3.tape.trans (hg2.tape.trans hG.tape), hg3.output.trans (hg2.output.trans hG.output), Nat.le_trans hG.size (Nat.le_trans hg2.size hg3.size), fun i hi hne => (hg3.block i (Nat.lt_of_lt_of_le hi (Nat.le_trans hG.size hg2.size)) hne).trans ((hg2.block i (Nat.lt_of_lt_of_le hi hG.size) (by simp)).trans (hG.block i hi hne))⟩
      case measure => simp [intOf]; omega
    · obtain rfl : k = (heldOf L tx).length := by omega
      go_wp2
      go_ret
      refine ⟨by rw [heldOf_length]; rfl, ⟨?_, ?_, ?_⟩, ?_⟩
      · exact hG.cell (B1.cell hp0 |>.trans h.most) (fun e => by injection e with e; exact hne e)
      · exact hG.cell (B1.cell hp0 |>.trans hm) (fun e => by injection e with e; exact hne e)
      · rw [List.take_length, without_all h.tab.tidy] at hT
        have hE := hT.exact
        simpa using hE
      · exact ⟨hG.os.trans B1.os, hG.tape.trans B1.tape, hG.output.trans B1.output, Nat.le_trans B1.size hG.size, fun i hi hne => (hG.block i (Nat.lt_of_lt_of_le hi B1.size) hne).trans (B1.block i hi)⟩
end Go.Proofs.Ytbellkkheppofaa
