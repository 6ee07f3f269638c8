import Derived.Test.YteikmnokmcnmcaaSK
namespace Go.Proofs.Yteikmnokmcnmcaa
open Go.RowKit Go.Maps Go.Sort Go.Lib Go.Proofs.YteikmnokmcnmcaaW.PrintWords Go.Proofs.YteikmnokmcnmcaaW.PrintLast Go.Proofs.YteikmnokmcnmcaaW.PrintMore
set_option linter.unusedVariables false
set_option linter.unusedSimpArgs false
set_option linter.unusedSectionVars false
/-! ### Len, Readers -/
set_option maxRecDepth 100000 in
theorem Len_calls (base p b : Nat) (most many : Int) (L : List (Pl × Sv)) (R : Pl → List Rd) (w : World) (h : Mr w base p b most many L R) :
    Calls Try.prog 17 #[.pointer (some ⟨p, 0, none⟩)] w fun e w' => e = .returned (.int .i64 many) ∧ w = w' := by
  obtain ⟨c0, c1, c2⟩ := h.cell
  have N := none_calls p b w c1
  go_enter Try.func17, Try.ntmps17
  go_wp2_with fail
  refine N.mono ?_
  rintro e w' ⟨rfl, rfl⟩
  go_wp2
  go_ret
  exact ⟨rfl, rfl⟩
def hitB (R : Pl → List Rd) (tab key : ByteArray) (e : Pl × Sv) : Bool := (e.1.2.toList == tab.toList) && (R e.1).any (fun y => holdB y key)
def readersOf (L : List (Pl × Sv)) (R : Pl → List Rd) (tab key : ByteArray) : List Int := rise ((L.filter (hitB R tab key)).map (·.1.1))
def rdK (tab key : ByteArray) : Rd := ⟨tab, 1, key, ⟨#[]⟩⟩
def RJ (w : World) (b r bx : Nat) (o : Obj) (L : List (Pl × Sv)) (R : Pl → List Rd) (tab key : ByteArray) (v : Value) (wr : World) : Prop :=
  ∃ vis rem : List (Pl × Sv), (vis ++ rem).Perm L ∧ RngN wr b r L.length L rem ∧ w.heap.size ≤ r ∧ dI.R 2 wr w.heap.size (fun k => r < k) v ((vis.filter (hitB R tab key)).map (·.1.1)) ∧ Below w.heap.size w wr ∧ wr.heap[bx]? = some o
set_option maxHeartbeats 8000000 in
set_option maxRecDepth 100000 in
theorem Readers_calls (base p b : Nat) (most many : Int) (L : List (Pl × Sv)) (R : Pl → List Rd) (tab key : ByteArray) (w : World) (h : Mr w base p b most many L R) (hL : L.length ≤ 65536) (hR : ∀ q, (R q).length ≤ 65536) :
    Calls Try.prog 13 #[.pointer (some ⟨p, 0, none⟩), .string tab, .string key] w fun e w' => ∃ v, e = .returned v ∧ dI.R 2 w' w.heap.size (fun _ => True) v (readersOf L R tab key) ∧ Below w.heap.size w w' := by
  obtain ⟨c0, c1, c2⟩ := h.cell
  have N := none_calls p b w c1
  obtain ⟨w1, hw1⟩ : ∃ w1, w1 = w.alloc (.cells #[.string tab, .int .i64 1, .string key, .string ⟨#[]⟩] 23) := ⟨_, rfl⟩
  have B1 : Below w.heap.size w w1 := by rw [hw1]; exact (Below.refl _ w).alloc (Nat.le_refl _) _
  have ob : w1.heap[w.heap.size]? = some (boxR (rdK tab key)) := by rw [hw1]; exact heap_alloc_new w _
  have hblt : b < w.heap.size := h.tab.lt
  have d1 : w1.cell? ⟨p, 1, none⟩ = some (.map (some b)) := (B1.cell (World.block_lt_of_cell? _ _ c1)).trans c1
  obtain ⟨w2, hrun, hRg, hg2, hs2⟩ := Tab.range (t := 53) keyP Try.underlying53 (h.tab.kept (grown_of_below B1 none) (by simp) : TabN w1 b L.length L)
  have hws : w1.heap.size = w.heap.size + 1 := by rw [hw1]; simp
  have hsz1 : w.heap.size ≤ w.heap.size + 1 := by omega
  rw [hws] at hrun hRg hs2
  replace hws := Aside0.mk hws
  go_enter Try.func13, Try.ntmps13
  go_wp2_with fail
  refine N.mono ?_
  rintro e w' ⟨rfl, rfl⟩
  go_upto_region 5 with (fail)
  rw [← hw1]
  clear hw1
  go_wp2_with fail
  go_loopw [8] (fun v wr => RJ w b (w.heap.size + 1) w.heap.size (boxR (rdK tab key)) L R tab key v wr) (fun _ wr => wr.rangeLeft b (w.heap.size + 1))
  case atStart =>
    exact ⟨[], L, List.Perm.refl _, hRg, hsz1, Kd.R_nil _ _ _ _ _, B1.grown hg2 B1.size (by simp), (hg2.block _ (Array.getElem?_eq_some_iff.1 ob).1 (by simp)).trans ob⟩
  case round =>
    obtain ⟨vis, rem, hp, hr, hle, hv, hB, hbox⟩ := hrel
    rcases hr.next keyP valS 0 with ⟨hnil, hrun1⟩ | ⟨a, sv, w3, hmem, hok, hrun1, hr3, hlt, hg3, hs3, hent⟩
    · subst hnil
      rw [List.append_nil] at hp
      have hlen : ((vis.filter (hitB R tab key)).map (·.1.1)).length ≤ 65536 := by
        rw [List.length_map]
        have h1 := List.length_filter_le (hitB R tab key) vis
        have h2 := hp.length_eq
        omega
      have hbase0 := Kd.R_base hv
      have S := rising_calls wr w.heap.size _ u8 _ hv (by omega)
      go_wp2_with fail
      refine S.mono ?_
      rintro e w4 ⟨v4, rfl, H4, G4, e4⟩
      go_wp2
      go_ret
      refine ⟨_, rfl, ?_, hB.grown G4 hB.size (fun k hk => hbase0 k hk)⟩
      have : readersOf L R tab key = rise ((vis.filter (hitB R tab key)).map (·.1.1)) := rise_congr (fun x => ((hp.symm.filter _).map _).mem_iff)
      rw [this]
      exact ⟨fun _ _ => trivial, H4.2⟩
    · unfold mkP at hrun1 hent
      have hB3 : Below w.heap.size w w3 := hB.grown hg3 hB.size (fun k e => by injection e with e; omega)
      have hv3 : dI.R 2 w3 w.heap.size (fun k => w.heap.size + 1 < k) u8 ((vis.filter (hitB R tab key)).map (·.1.1)) := Kd.R_grown hv hg3 (fun k hk e => by injection e with e; omega)
      obtain ⟨W, hW⟩ : ∃ W, W = w3.alloc (.cells #[.int .i64 a.1, .string a.2] 62) := ⟨_, rfl⟩
      have BA : Below w3.heap.size w3 W := by rw [hW]; exact (Below.refl _ w3).alloc (Nat.le_refl _) _
      have hrl : w.heap.size + 1 < wr.heap.size := hr.lt
      have hbox3 : w3.heap[w.heap.size]? = some (boxR (rdK tab key)) := (hg3.block _ (by omega) (fun e => by injection e with e; omega)).trans hbox
      have hboxW := (BA.block _ (Array.getElem?_eq_some_iff.1 hbox3).1).trans hbox3
      have hop : W.heap[wr.heap.size]? = some (.cells #[.int .i64 a.1, .string a.2] 62 (0, 0)) := by rw [hW, ← hs3]; exact heap_alloc_new w3 _
      have p0 := cell_of_row W _ 0 _ 62 (0, 0) hop
      have p1 := cell_of_row W _ 1 _ 62 (0, 0) hop
      have BW := below_then hB3 hB3.size BA
      have hmL : (a, sv) ∈ L := hp.mem_iff.1 (List.mem_append_right _ hmem)
      have hrow : RowR W base (mvS sv) (R a) := (h.rows _ hmL).grown (grown_of_below BW none) (by simp)
      have C := ContainsFunc_calls base (mvS sv) (R a) (fun y => holdB y key) 35 #[.pointer (some ⟨w.heap.size, 0, none⟩)] enters35 W hrow (by have := hR a; omega) ((pred35 (rdK tab key) w.heap.size _).preds hboxW)
      have hlen : ((vis.filter (hitB R tab key)).map (·.1.1)).length ≤ 65536 := by
        rw [List.length_map]
        have h1 := List.length_filter_le (hitB R tab key) vis
        have h2 := hp.length_eq
        rw [List.length_append] at h2
        omega
      have hbase0 := Kd.R_base hv3
      have out : hitB R tab key (a, sv) = false → ∀ V, Below W.heap.size W V → RJ w b (w.heap.size + 1) w.heap.size (boxR (rdK tab key)) L R tab key u8 V ∧ V.rangeLeft b (w.heap.size + 1) < wr.rangeLeft b (w.heap.size + 1) := by
        intro hno V BV
        have B3V := below_then BA BA.size BV
        obtain ⟨hr6, el⟩ := hr3.kept (grown_of_below B3V none) (by simp) (by simp)
        refine ⟨⟨vis ++ [(a, sv)], _, perm_next hr.apart hp hmem, hr6, hsz1, ?_, below_then hB3 hB3.size B3V, (B3V.block _ (Array.getElem?_eq_some_iff.1 hbox3).1).trans hbox3⟩, by rw [el]; exact hlt⟩
        rw [List.filter_append, List.map_append]
        simpa [hno] using Kd.R_below hv3 B3V
      have inn : hitB R tab key (a, sv) = true → ∀ V, Below W.heap.size W V → ∀ v1 w6, dI.R 2 w6 w.heap.size (fun k => w.heap.size + 1 < k) v1 ((vis.filter (hitB R tab key)).map (·.1.1) ++ [a.1]) → Below w.heap.size w w6 → V.grownBy w6 u8.ownBlock → RJ w b (w.heap.size + 1) w.heap.size (boxR (rdK tab key)) L R tab key v1 w6 ∧ w6.rangeLeft b (w.heap.size + 1) < wr.rangeLeft b (w.heap.size + 1) := by
        intro hyes V BV v1 w6 H6 B6 G6
        have B3V := below_then BA BA.size BV
        obtain ⟨hr6, el⟩ := hr3.kept (grown_of_below B3V none) (by simp) (by simp)
        obtain ⟨hr7, el2⟩ := hr6.kept G6 (fun e => by have := hbase0 _ e.symm; omega) (fun e => by have := hv3.1 _ e.symm; omega)
        have bV := (B3V.block _ (Array.getElem?_eq_some_iff.1 hbox3).1).trans hbox3
        refine ⟨⟨vis ++ [(a, sv)], _, perm_next hr.apart hp hmem, hr7, hsz1, ?_, B6, (G6.block _ (Array.getElem?_eq_some_iff.1 bV).1 (fun e => by have := hv3.1 _ e.symm; omega)).trans bV⟩, by rw [el2, el]; exact hlt⟩
        rw [List.filter_append, List.map_append]
        simpa [hyes] using H6
      generalize hh : (R a).any (fun y => holdB y key) = hit at C
      replace h := Aside0.mk h
      replace hboxW := Aside0.mk hboxW
      replace BW := Aside0.mk BW
      replace hrow := Aside0.mk hrow
      go_upto_region 8 with (fail)
      rw [← hW]
      clear hW
      have hszW : wr.heap.size < W.heap.size := (Array.getElem?_eq_some_iff.1 hop).1
      go_wp2_with (first | (go_at_call 28; refine C.mono ?_; rintro e w5 ⟨rfl, B5⟩; have s0 := (B5.cell (World.block_lt_of_cell? _ _ p0)).trans p0; have hsz5 := B5.size) | (at_builtin; refine appI (v := u8) rfl rfl rfl rfl (Kd.R_below hv3 (below_then BA BA.size B5)) (below_then hB3 hB3.size (below_then BA BA.size B5)) hlen rfl (fun k hk => by omega) ?_; intro v1 w6 H6 B6 G6))
      all_goals first
        | (refine out ?_ _ B5; simp [hitB, *]; done)
        | (refine out ?_ _ (Below.refl _ _); simp [hitB, *]; done)
        | (refine inn ?_ _ B5 _ _ H6 B6 G6; simp [hitB, *]; done)
end Go.Proofs.Yteikmnokmcnmcaa
