import Derived.Test.YtbellkkheppofaaZB
namespace Go.Proofs.Ytbellkkheppofaa
open Go.RowKit Go.Maps Go.Sort Go.Lib Go.Proofs.YtbellkkheppofaaW.PrintWords Go.Proofs.YtbellkkheppofaaW.PrintLast Go.Proofs.YtbellkkheppofaaW.PrintMore
set_option linter.unusedVariables false
set_option linter.unusedSimpArgs false
set_option linter.unusedSectionVars false
theorem Lo.ofR {α : Type} {enc : α → List Value} {k e base : Nat} {hn : ∀ x, (enc x).length = k} {h1 : ∀ x, ∀ u ∈ enc x, u.oneCell' = true} {w : World} {ok : Nat → Prop} {v : Value} {xs : List α} (h : (Kd.flat enc k hn h1).R e w base ok v xs) : Lo enc k e w base v xs := by
  obtain ⟨_, inner, ho, hr⟩ := h
  exact ⟨inner, l_of_own ho, hr⟩
/-- what a step changes: the map and the document's manager -/
structure Chg (w w' : World) (b br : Nat) : Prop where
  os : w'.os = w.os
  tape : w'.tape = w.tape
  output : w'.output = w.output
  size : w.heap.size ≤ w'.heap.size
  block : ∀ i, i < w.heap.size → i ≠ b → i ≠ br → w'.heap[i]? = w.heap[i]?
theorem Chg.refl (w : World) (b br : Nat) : Chg w w b br := ⟨rfl, rfl, rfl, Nat.le_refl _, fun _ _ _ _ => rfl⟩
theorem Chg.grown {w w1 w2 : World} {b br : Nat} (h : Chg w w1 b br) {row : Option Nat} (hg : w1.grownBy w2 row) (hr : ∀ k, row = some k → k = b ∨ k = br ∨ w.heap.size ≤ k) : Chg w w2 b br :=
  ⟨hg.os.trans h.os, hg.tape.trans h.tape, hg.output.trans h.output, Nat.le_trans h.size hg.size, fun i hi h1 h2 => (hg.block i (Nat.lt_of_lt_of_le hi h.size) (fun e => by rcases hr i e.symm with h3 | h3 | h3 <;> omega)).trans (h.block i hi h1 h2)⟩
theorem Chg.below {w w1 w2 : World} {b br : Nat} (h : Chg w w1 b br) (hb : Below w1.heap.size w1 w2) : Chg w w2 b br := h.grown (grown_of_below hb none) (by simp)
/-- both managers, alike -/
structure Both (w : World) (base p b br : Nat) (most : Int) (L : List (Lk × Int)) : Prop where
  m : Mg w p b most L
  r : ∃ v, Rm w base br most L v
  len : (L.length : Int) ≤ most
  cap : most ≤ 4096
theorem Mg.ne_rm {w : World} {p b base br : Nat} {most : Int} {L L' : List (Lk × Int)} {v : Value} (h : Mg w p b most L) (r : Rm w base br most L' v) : p ≠ br ∧ b ≠ br ∧ ∀ k, v.ownBlock = some k → k ≠ b := by
  obtain ⟨D, ⟨es, clock, hb, _⟩, _⟩ := h.tab
  refine ⟨?_, ?_, ?_⟩
  · rintro rfl
    have := h.map
    rw [r.c1] at this
    cases this
  · rintro rfl
    rw [r.obj] at hb
    cases hb
  · intro k hk e
    subst e
    obtain ⟨_, _, c, hc⟩ := r.row.typed k hk
    rw [hc] at hb
    cases hb
theorem Both.keep {w w' : World} {base p b br : Nat} {most : Int} {L : List (Lk × Int)} (h : Both w base p b br most L) (hg : w.grownBy w' none) : Both w' base p b br most L := by
  obtain ⟨v, r⟩ := h.r
  exact ⟨h.m.kept hg (by simp) (by simp), ⟨v, r.grown hg (by simp) (by simp)⟩, h.len, h.cap⟩
/-- what an operation leaves -/
def stp (most : Int) (L : List (Lk × Int)) (o : Op) : List (Lk × Int) :=
  if o.do_ = 0 then (tk most L o.tx o.snap o.last o.key).1 else if o.do_ = 4 then L.filter (fun p => decide (p.2 ≠ o.tx)) else L
theorem op_cells {W : World} {bx : Nat} {d tx snap last : Int} {a : Lk} {u : ByteArray} (h : W.heap[bx]? = some (.cells #[.int .i64 d, .int .i64 tx, .int .i64 snap, .int .i64 last, .string a.1, .string a.2, .string u] 32 (0, 0))) :
    W.cell? ⟨bx, 0, none⟩ = some (.int .i64 d) ∧ W.cell? ⟨bx, 1, none⟩ = some (.int .i64 tx) ∧ W.cell? ⟨bx, 2, none⟩ = some (.int .i64 snap) ∧ W.cell? ⟨bx, 3, none⟩ = some (.int .i64 last) ∧ W.cell? ⟨bx, 4, none⟩ = some (.string a.1) ∧ W.cell? ⟨bx, 5, none⟩ = some (.string a.2) ∧ W.cell? ⟨bx, 6, none⟩ = some (.string u) :=
  ⟨cell_of_row W bx 0 _ 32 (0, 0) h, cell_of_row W bx 1 _ 32 (0, 0) h, cell_of_row W bx 2 _ 32 (0, 0) h, cell_of_row W bx 3 _ 32 (0, 0) h, cell_of_row W bx 4 _ 32 (0, 0) h, cell_of_row W bx 5 _ 32 (0, 0) h, cell_of_row W bx 6 _ 32 (0, 0) h⟩
def StepPost (w : World) (base p b br : Nat) (most : Int) (L : List (Lk × Int)) (e : Ending) (w' : World) : Prop := e = .returned (.bool true) ∧ Both w' base p b br most L ∧ Chg w w' b br
set_option maxHeartbeats 8000000 in
set_option maxRecDepth 100000 in
theorem step_take (base p b br : Nat) (most : Int) (L : List (Lk × Int)) (x : Op) (hx : x.OK) (w : World) (h : Both w base p b br most L) (hbase : base ≤ w.heap.size) (hd : x.do_ = 0) :
    Calls Try.prog 15 #[.pointer (some ⟨p, 0, none⟩), .pointer (some ⟨br, 0, none⟩), .agg x.cells.toArray] w (StepPost w base p b br most (stp most L x)) := by
  obtain ⟨d, tx, snap, last, a, u⟩ := x
  obtain rfl : d = 0 := hd
  simp only [Op.cells]
  obtain ⟨v, r⟩ := h.r
  obtain ⟨hpb, hbb, hvb⟩ := h.m.ne_rm r
  have hcap := h.cap
  have hlen := h.len
  have hnb := h.m.ne
  have htl := tk_length most L tx snap last a h.len
  obtain ⟨w1, hw1⟩ : ∃ w1, w1 = w.alloc (.cells #[.int .i64 0, .int .i64 tx, .int .i64 snap, .int .i64 last, .string a.1, .string a.2, .string u] 32) := ⟨_, rfl⟩
  have g1 : w.grownBy w1 none := by rw [hw1]; exact World.grownBy_alloc _ _ _
  have ob : w1.heap[w.heap.size]? = some (.cells #[.int .i64 0, .int .i64 tx, .int .i64 snap, .int .i64 last, .string a.1, .string a.2, .string u] 32 (0, 0)) := by rw [hw1]; exact heap_alloc_new w _
  have C1 := (Chg.refl w b br).grown g1 (by simp)
  have m1 := h.m.kept g1 (by simp) (by simp)
  have r1 := r.grown g1 (by simp) (by simp)
  have hs1 := g1.size
  have hbl := h.m.tab.lt
  have hbrl := (Array.getElem?_eq_some_iff.1 r.obj).1
  have hxl := (Array.getElem?_eq_some_iff.1 ob).1
  obtain ⟨s0, s1, s2, s3, s4, s5, s6⟩ := op_cells ob
  have hst : stp most L ⟨0, tx, snap, last, a, u⟩ = (tk most L tx snap last a).1 := if_pos rfl
  rw [hst]
  have hk := hx.key
  have htx := hx.tx
  clear hst h
  go_enter Try.func15, Try.ntmps15
  go_upto_region 1 with (fail)
  rw [← hw1]
  clear hw1
  go_wp2_with fail
  have m1d := m1.kept (drewG w1) (by simp) (by simp)
  have r1d := r1.grown (drewG w1) (by simp) (by simp)
  have T1 := fun W (hW : Mg W p b most L) => Take_any p b most L tx snap last a W hW hk htx (by simp only [maxLen]; omega)
  have T2 := fun W (hW : Rm W base br most L v) (hs : base ≤ W.heap.size) => RTake_calls base br most L v tx snap last a W hW (by omega) hs
  go_region_held3 (fun W => W.cell? ⟨w.heap.size, 0, none⟩ = some (.int .i64 0) ∧ W.cell? ⟨w.heap.size, 1, none⟩ = some (.int .i64 tx) ∧ W.cell? ⟨w.heap.size, 2, none⟩ = some (.int .i64 snap) ∧ W.cell? ⟨w.heap.size, 3, none⟩ = some (.int .i64 last) ∧ W.cell? ⟨w.heap.size, 4, none⟩ = some (.string a.1) ∧ W.cell? ⟨w.heap.size, 5, none⟩ = some (.string a.2) ∧ W.cell? ⟨w.heap.size, 6, none⟩ = some (.string u))
    (first | exact op_cells ob | exact op_cells ob2 | exact op_cells ob3)
    (first
      | (go_at_call 10; refine (T1 _ m1d).mono ?_; rintro e w2 ⟨rfl, m2, g2⟩; have ob2 := (g2.block w.heap.size hxl (fun e => by injection e with e; omega)).trans ob; have r2 := r1d.grown g2 (fun e => by injection e with e; exact hbb e) (fun k e e' => by injection e with e; exact hvb k e' e.symm))
      | (go_at_call 24; refine (T2 _ r2 (Nat.le_trans hbase (Nat.le_trans hs1 g2.size))).mono ?_; rintro e w3 ⟨rfl, r3, g3⟩; have ob3 := (g3.block w.heap.size (Nat.lt_of_lt_of_le hxl g2.size) (fun e => by injection e with e; omega)).trans ob2; have m3 := m2.kept g3 (fun e => by injection e with e; exact hpb e) (fun e => by injection e with e; exact hbb e)))
  go_wp2
  go_ret
  exact ⟨by simp, ⟨m3, r3, htl, hcap⟩, ((C1.grown (drewG w1) (by simp)).grown g2 (fun k e => by injection e with e; exact .inl e.symm)).grown g3 (fun k e => by injection e with e; exact .inr (.inl e.symm))⟩
set_option maxHeartbeats 8000000 in
set_option maxRecDepth 100000 in
theorem step_release (base p b br : Nat) (most : Int) (L : List (Lk × Int)) (x : Op) (w : World) (h : Both w base p b br most L) (hbase : base ≤ w.heap.size) (hd : x.do_ = 4) :
    Calls Try.prog 15 #[.pointer (some ⟨p, 0, none⟩), .pointer (some ⟨br, 0, none⟩), .agg x.cells.toArray] w (StepPost w base p b br most (stp most L x)) := by
  obtain ⟨d, tx, snap, last, a, u⟩ := x
  obtain rfl : d = 4 := hd
  simp only [Op.cells]
  obtain ⟨v, r⟩ := h.r
  obtain ⟨hpb, hbb, hvb⟩ := h.m.ne_rm r
  have hcap := h.cap
  have hlen := h.len
  have hnb := h.m.ne
  obtain ⟨w1, hw1⟩ : ∃ w1, w1 = w.alloc (.cells #[.int .i64 4, .int .i64 tx, .int .i64 snap, .int .i64 last, .string a.1, .string a.2, .string u] 32) := ⟨_, rfl⟩
  have g1 : w.grownBy w1 none := by rw [hw1]; exact World.grownBy_alloc _ _ _
  have ob : w1.heap[w.heap.size]? = some (.cells #[.int .i64 4, .int .i64 tx, .int .i64 snap, .int .i64 last, .string a.1, .string a.2, .string u] 32 (0, 0)) := by rw [hw1]; exact heap_alloc_new w _
  have C1 := (Chg.refl w b br).grown g1 (by simp)
  have m1 := h.m.kept g1 (by simp) (by simp)
  have r1 := r.grown g1 (by simp) (by simp)
  have hs1 := g1.size
  have hbl := h.m.tab.lt
  have hbrl := (Array.getElem?_eq_some_iff.1 r.obj).1
  have hxl := (Array.getElem?_eq_some_iff.1 ob).1
  obtain ⟨s0, s1, s2, s3, s4, s5, s6⟩ := op_cells ob
  have hst : stp most L ⟨4, tx, snap, last, a, u⟩ = L.filter (fun p => decide (p.2 ≠ tx)) := by simp [stp]
  rw [hst]
  have htl : ((L.filter (fun p => decide (p.2 ≠ tx))).length : Int) ≤ most := by
    have := List.length_filter_le (fun p : Lk × Int => decide (p.2 ≠ tx)) L
    omega
  clear hst h
  go_enter Try.func15, Try.ntmps15
  go_upto_region 1 with (fail)
  rw [← hw1]
  clear hw1
  go_wp2_with fail
  have m1d := m1.kept (drewG w1) (by simp) (by simp)
  have r1d := r1.grown (drewG w1) (by simp) (by simp)
  have T1 := fun W (hW : Mg W p b most L) => Release_calls p b most L tx W hW (by omega)
  have T2 := fun W (hW : Rm W base br most L v) (hs : base ≤ W.heap.size) => RRelease_calls base br most L v tx W hW (by omega) hs
  go_region_held3 (fun W => W.cell? ⟨w.heap.size, 0, none⟩ = some (.int .i64 4) ∧ W.cell? ⟨w.heap.size, 1, none⟩ = some (.int .i64 tx) ∧ W.cell? ⟨w.heap.size, 2, none⟩ = some (.int .i64 snap) ∧ W.cell? ⟨w.heap.size, 3, none⟩ = some (.int .i64 last) ∧ W.cell? ⟨w.heap.size, 4, none⟩ = some (.string a.1) ∧ W.cell? ⟨w.heap.size, 5, none⟩ = some (.string a.2) ∧ W.cell? ⟨w.heap.size, 6, none⟩ = some (.string u))
    (first | exact op_cells ob | exact op_cells ob2 | exact op_cells ob3)
    (first
      | (go_at_call 11; refine (T1 _ m1d).mono ?_; rintro e w2 ⟨rfl, m2, g2⟩; have ob2 := (g2.block w.heap.size hxl (fun e => by injection e with e; omega)).trans ob; have r2 := r1d.grown g2 (fun e => by injection e with e; exact hbb e) (fun k e e' => by injection e with e; exact hvb k e' e.symm))
      | (go_at_call 26; refine (T2 _ r2 (Nat.le_trans hbase (Nat.le_trans hs1 g2.size))).mono ?_; rintro e w3 ⟨rfl, r3, g3⟩; have ob3 := (g3.block w.heap.size (Nat.lt_of_lt_of_le hxl g2.size) (fun e => by injection e with e; omega)).trans ob2; have m3 := m2.kept g3 (fun e => by injection e with e; exact hpb e) (fun e => by injection e with e; exact hbb e)))
  go_wp2
  go_ret
  exact ⟨by simp, ⟨m3, r3, htl, hcap⟩, ((C1.grown (drewG w1) (by simp)).grown g2 (fun k e => by injection e with e; exact .inl e.symm)).grown g3 (fun k e => by injection e with e; exact .inr (.inl e.symm))⟩
end Go.Proofs.Ytbellkkheppofaa
