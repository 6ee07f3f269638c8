/- Cut by a program out of the seat's texts (YA YB YC YD YE YF): what the theorem needs, one behind the other. -/
import Derived.Test.YthaoedfalkebbaaGreatPAE
import Derived.Test.YthaoedfalkebbaaGreatPAG
import Derived.IntWalk
import Derived.Shelf.SlGeneric
import Derived.Shelf.SortM.Plain
import Derived.Shelf.SortM.SortNone
import Derived.Shelf.SlicesE.Clone
import Derived.Shelf.SlicesE.Compact
import Derived.Shelf.SlMaps.Clone
import Derived.Ground.SlgnProg
import Derived.Ground.SlgmProg
import Derived.Ground.SlmcProg
import Derived.Test.YthaoedfalkebbaaGreatProg
import Derived.LaidEql
namespace Go.Proofs.YthaoedfalkebbaaGreat
open Go.RowKit Go.Maps Go.Sort Go.Lib Go.Shelf Go.Proofs.YthaoedfalkebbaaGreatW.PrintWords Go.Proofs.YthaoedfalkebbaaGreatW.PrintLast Go.Proofs.YthaoedfalkebbaaGreatW.PrintMore
set_option linter.unusedVariables false
set_option linter.unusedSimpArgs false
set_option linter.unusedSectionVars false
/-- what a step leaves that changes the blocks O alone -/
structure Fr (O : Nat → Prop) (w w' : World) : Prop where
  os : w'.os = w.os
  tape : w'.tape = w.tape
  output : w'.output = w.output
  size : w.heap.size ≤ w'.heap.size
  block : ∀ k o, ¬ O k → w.heap[k]? = some o → w'.heap[k]? = some o
theorem Fr.refl (O : Nat → Prop) (w : World) : Fr O w w := ⟨rfl, rfl, rfl, Nat.le_refl _, fun _ _ _ h => h⟩
theorem Fr.trans {O O2 : Nat → Prop} {w w1 w2 : World} (h1 : Fr O w w1) (h2 : Fr O2 w1 w2) (hs : ∀ k, O2 k → k < w.heap.size → O k) : Fr O w w2 :=
  ⟨h2.os.trans h1.os, h2.tape.trans h1.tape, h2.output.trans h1.output, Nat.le_trans h1.size h2.size, fun k o hk hw => h2.block k o (fun h => hk (hs k h (Array.getElem?_eq_some_iff.1 hw).1)) (h1.block k o hk hw)⟩
theorem Fr.mono {O O2 : Nat → Prop} {w w1 : World} (h : Fr O w w1) (hs : ∀ k, O k → k < w.heap.size → O2 k) : Fr O2 w w1 :=
  ⟨h.os, h.tape, h.output, h.size, fun k o hk hw => h.block k o (fun h => hk (hs k h (Array.getElem?_eq_some_iff.1 hw).1)) hw⟩
theorem Fr.grown {w w' : World} {row : Option Nat} (g : w.grownBy w' row) : Fr (fun k => row = some k) w w' :=
  ⟨g.os, g.tape, g.output, g.size, fun k o hk hw => (g.block k (Array.getElem?_eq_some_iff.1 hw).1 (fun e => hk e.symm)).trans hw⟩
theorem Fr.ofBut {base p b : Nat} {w w' : World} (h : But base p b w w') : Fr (fun k => k = p ∨ k = b) w w' :=
  ⟨h.below.os, h.below.tape, h.below.output, h.size, fun k o hk hw => h.cells k o (fun e => hk (.inl e)) (fun e => hk (.inr e)) hw⟩
theorem Fr.ofBelow {O : Nat → Prop} {w w' : World} (h : Below w.heap.size w w') : Fr O w w' :=
  ⟨h.os, h.tape, h.output, h.size, fun k o _ hw => (h.block k (Array.getElem?_eq_some_iff.1 hw).1).trans hw⟩
theorem Fr.below {O : Nat → Prop} {w w' : World} {n : Nat} (h : Fr O w w') (hn : n ≤ w.heap.size) (hO : ∀ k, O k → n ≤ k) : Below n w w' :=
  ⟨h.os, h.tape, h.output, by have := h.size; omega, fun k hk => by
    have hlt : k < w.heap.size := by omega
    rw [h.block k _ (fun h2 => by have := hO k h2; omega) (Array.getElem?_eq_getElem hlt), Array.getElem?_eq_getElem hlt]⟩
theorem Fr.cell {O : Nat → Prop} {w w' : World} (h : Fr O w w') {a : Addr} {v : Value} (hv : w.cell? a = some v) (hO : ¬ O a.block) : w'.cell? a = some v := by
  have hlt := World.block_lt_of_cell? _ _ hv
  exact (World.cell?_of_block ((h.block _ _ hO (Array.getElem?_eq_getElem hlt)).trans (Array.getElem?_eq_getElem hlt).symm)).trans hv
theorem Tab.move {P : Program} {α β : Type} {k : TypeId} {mk : α → Value} {ok : α → Prop} {R : Value → Option (DataW Unit × List MemPlace)} {cd : β → DataW Unit} {w w' : World} {b n : Nat} {L : List (α × β)} (h : Tab P k mk ok R cd w b n L) (e : w'.heap[b]? = w.heap[b]?) : Tab P k mk ok R cd w' b n L := by
  obtain ⟨D, ⟨es, clock, hb, F, hs, rfl⟩, h2⟩ := h
  exact ⟨_, ⟨es, clock, by rw [e]; exact hb, F, hs, rfl⟩, h2⟩
theorem Tab.fr {P : Program} {α β : Type} {k : TypeId} {mk : α → Value} {ok : α → Prop} {R : Value → Option (DataW Unit × List MemPlace)} {cd : β → DataW Unit} {w w' : World} {b n : Nat} {L : List (α × β)} {O : Nat → Prop} (h : Tab P k mk ok R cd w b n L) (f : Fr O w w') (hO : ¬ O b) : Tab P k mk ok R cd w' b n L := by
  obtain ⟨es, clock, hb⟩ := h.isMap
  exact h.move ((f.block b _ hO hb).trans hb.symm)
theorem Lck.Mg.fr {w w' : World} {p b : Nat} {m : Int} {L : List (Lck.Lk × Int)} {O : Nat → Prop} (h : Lck.Mg w p b m L) (f : Fr O w w') (hp : ¬ O p) (hb : ¬ O b) : Lck.Mg w' p b m L := by
  refine ⟨f.cell h.most hp, f.cell h.map hp, ?_⟩
  obtain ⟨D, ⟨es, clock, hm, F, hs, rfl⟩, h2⟩ := h.tab
  exact ⟨_, ⟨es, clock, f.block b _ hb hm, F, hs, rfl⟩, h2⟩
theorem MrS.fr {w w' : World} {base p b : Nat} {most : Int} {S : St} {O : Nat → Prop} (h : MrS w base p b most S) (f : Fr O w w') (hp : ¬ O p) (hb : ¬ O b) (hr : ∀ k c s, O k → w.heap[k]? = some (.cells c 108 s) → False) : MrS w' base p b most S := by
  obtain ⟨⟨L, M, hk, hbb⟩, r1, r2, r3, r4⟩ := h
  refine ⟨⟨L, ⟨f.block p _ hp M.cells, M.tab.fr f hb, M.low, fun e he => ?_, M.off, M.good⟩, hk, hbb⟩, r1, r2, r3, r4⟩
  refine (M.rows e he).move fun g hg => ?_
  obtain ⟨_, _, cells, hc⟩ := (M.rows e he).typed g hg
  exact (f.block g _ (fun h => hr g _ _ h hc) hc).trans hc.symm
def mvQ : Option Nat → Value
  | none => .pointer none
  | some q => .pointer (some ⟨q, 0, none⟩)
def cdQ : Option Nat → DataW Unit
  | none => .nil
  | some q => .lit (.int .i64 q)
def rQ : Value → Option (DataW Unit × List MemPlace)
  | .pointer none => some (.nil, [])
  | .pointer (some ⟨q, 0, none⟩) => some (.lit (.int .i64 q), [])
  | _ => none
theorem valQ : ValAs mvQ rQ cdQ where
  reads := fun b => by cases b <;> rfl
  inv := fun v y ps h => by
    unfold rQ at h
    split at h
    · injection h with h
      injection h with h1 h2
      exact ⟨none, rfl, h1.symm⟩
    · rename_i q
      injection h with h
      injection h with h1 h2
      exact ⟨some q, rfl, h1.symm⟩
    · cases h
  inj := fun b b' h => by
    rcases b with _ | q <;> rcases b' with _ | q'
    · rfl
    · cases h
    · cases h
    · simp [cdQ] at h
      rw [show q = q' by exact_mod_cast h]
def mkN (a : Int) : Value := .int .i64 a
def okN (a : Int) : Prop := (Lit.int .i64 a).wf = true
theorem keyN : KeyAs Tryz.prog 2 mkN okN where
  keyed := int_keyed Tryz.underlying2
  lit := fun a h => ⟨_, keyOf_int_mk Tryz.underlying2 h⟩
  inj := fun a b h => by injection h
  inv := fun v kl h => by
    obtain ⟨x, rfl, _, hw⟩ := Maps.keyOf_int_inv Tryz.underlying2 h
    exact ⟨x, hw, rfl⟩
abbrev TabT (w : World) (b n : Nat) (L : List (Int × Option Nat)) : Prop := Tab Tryz.prog 2 mkN okN rQ cdQ w b n L
abbrev RngT (w : World) (b r n : Nat) (L rem : List (Int × Option Nat)) : Prop := Rng Tryz.prog 2 mkN okN rQ cdQ w b r n L rem
theorem zero99 (w : World) : (zeroValue 99).run Tryz.prog w = .ok (mvQ none) w := Tryz.zeroValue99 w
def txCells (t : Tx) (v : Value) : Obj := .cells #[.int .i64 t.num, .int .i64 t.snap, .bool t.act, .int .i64 t.begun, .int .i64 t.ended, .bool t.fin, .bool t.fout, v] 101 (0, 0)
def hdCells (S : Sm St) (mb lp rp : Nat) : Obj := .cells #[.int .i64 S.caps.active, .int .i64 S.caps.kept, .int .i64 S.caps.reads, .int .i64 S.caps.locks, .int .i64 S.now, .int .i64 S.last, .int .i64 S.clock, .map (some mb), .pointer (some ⟨lp, 0, none⟩), .pointer (some ⟨rp, 0, none⟩)] 90 (0, 0)
def txL (Q : Int → Nat) (l : List Tx) : List (Int × Option Nat) := l.map (fun t => (t.num, some (Q t.num)))
/-- where the parts of a manager lie; F: blocks that are others' -/
structure Loc where
  p : Nat
  mb : Nat
  lp : Nat
  lb : Nat
  rp : Nat
  rb : Nat
  Q : Int → Nat
  F : Nat → Prop
structure Pm (w : World) (base : Nat) (l : Loc) (S : Sm St) : Prop where
  head : w.heap[l.p]? = some (hdCells S l.mb l.lp l.rp)
  tab : TabT w l.mb S.txs.length (txL l.Q S.txs)
  tx : ∀ t ∈ S.txs, ∃ v, w.heap[l.Q t.num]? = some (txCells t v) ∧ ∃ ws, Lo Lck.cellsL 2 23 w base v ws ∧ ws.length ≤ 4096 ∧ (∀ a, a ∈ ws ↔ a ∈ t.wrote) ∧ ∀ b, v.ownBlock = some b → ¬ l.F b
  qinj : ∀ t ∈ S.txs, ∀ u ∈ S.txs, l.Q t.num = l.Q u.num → t.num = u.num
  locks : Lck.Mg w l.lp l.lb S.caps.locks S.locks
  lkind : ∃ c s, w.heap[l.lp]? = some (.cells c 147 s)
  reads : MrS w base l.rp l.rb S.caps.reads S.reads
  dist : S.txs.Pairwise (fun a b => a.num < b.num)
  nums : ∀ t ∈ S.txs, 1 ≤ t.num ∧ t.num ≤ S.last ∧ okN t.num
  few : S.txs.length ≤ 65536
  ne1 : l.mb ≠ l.lb
  ne2 : l.mb ≠ l.rb
  ne3 : l.lb ≠ l.rb
  low : base ≤ l.p ∧ base ≤ l.mb ∧ base ≤ l.lp ∧ base ≤ l.lb ∧ base ≤ l.rb ∧ ∀ t ∈ S.txs, base ≤ l.Q t.num
/-- the blocks that are a manager's, and may change -/
def Loc.own (l : Loc) (txs : List Tx) (k : Nat) : Prop := k = l.p ∨ k = l.mb ∨ k = l.lb ∨ k = l.rp ∨ k = l.rb ∨ ∃ t ∈ txs, k = l.Q t.num
end Go.Proofs.YthaoedfalkebbaaGreat
namespace Go.Proofs.YthaoedfalkebbaaGreat
open Go.RowKit Go.Maps Go.Sort Go.Lib Go.Shelf Go.Proofs.YthaoedfalkebbaaGreatW.PrintWords Go.Proofs.YthaoedfalkebbaaGreatW.PrintLast Go.Proofs.YthaoedfalkebbaaGreatW.PrintMore
set_option linter.unusedVariables false
set_option linter.unusedSimpArgs false
set_option linter.unusedSectionVars false
abbrev ptr (q : Nat) : Value := .pointer (some ⟨q, 0, none⟩)
theorem eqm86 (b : Nat) (w : World) : (binOp .eql 86 (.map (some b)) (.map none)).run Tryz.prog w = .ok (.bool false) w := by kernel_rfl
theorem Pm.cells {w : World} {base : Nat} {l : Loc} {S : Sm St} (h : Pm w base l S) :
    w.cell? ⟨l.p, 0, none⟩ = some (.int .i64 S.caps.active) ∧ w.cell? ⟨l.p, 1, none⟩ = some (.int .i64 S.caps.kept) ∧ w.cell? ⟨l.p, 2, none⟩ = some (.int .i64 S.caps.reads) ∧ w.cell? ⟨l.p, 3, none⟩ = some (.int .i64 S.caps.locks) ∧ w.cell? ⟨l.p, 4, none⟩ = some (.int .i64 S.now) ∧ w.cell? ⟨l.p, 5, none⟩ = some (.int .i64 S.last) ∧ w.cell? ⟨l.p, 6, none⟩ = some (.int .i64 S.clock) ∧ w.cell? ⟨l.p, 7, none⟩ = some (.map (some l.mb)) ∧ w.cell? ⟨l.p, 8, none⟩ = some (ptr l.lp) ∧ w.cell? ⟨l.p, 9, none⟩ = some (ptr l.rp) :=
  ⟨cell_of_row w _ 0 _ 90 (0, 0) h.head, cell_of_row w _ 1 _ 90 (0, 0) h.head, cell_of_row w _ 2 _ 90 (0, 0) h.head, cell_of_row w _ 3 _ 90 (0, 0) h.head, cell_of_row w _ 4 _ 90 (0, 0) h.head, cell_of_row w _ 5 _ 90 (0, 0) h.head, cell_of_row w _ 6 _ 90 (0, 0) h.head, cell_of_row w _ 7 _ 90 (0, 0) h.head, cell_of_row w _ 8 _ 90 (0, 0) h.head, cell_of_row w _ 9 _ 90 (0, 0) h.head⟩
theorem tx_cells {w : World} {q : Nat} {t : Tx} {v : Value} (h : w.heap[q]? = some (txCells t v)) :
    w.cell? ⟨q, 0, none⟩ = some (.int .i64 t.num) ∧ w.cell? ⟨q, 1, none⟩ = some (.int .i64 t.snap) ∧ w.cell? ⟨q, 2, none⟩ = some (.bool t.act) ∧ w.cell? ⟨q, 3, none⟩ = some (.int .i64 t.begun) ∧ w.cell? ⟨q, 4, none⟩ = some (.int .i64 t.ended) ∧ w.cell? ⟨q, 5, none⟩ = some (.bool t.fin) ∧ w.cell? ⟨q, 6, none⟩ = some (.bool t.fout) ∧ w.cell? ⟨q, 7, none⟩ = some v :=
  ⟨cell_of_row w _ 0 _ 101 (0, 0) h, cell_of_row w _ 1 _ 101 (0, 0) h, cell_of_row w _ 2 _ 101 (0, 0) h, cell_of_row w _ 3 _ 101 (0, 0) h, cell_of_row w _ 4 _ 101 (0, 0) h, cell_of_row w _ 5 _ 101 (0, 0) h, cell_of_row w _ 6 _ 101 (0, 0) h, cell_of_row w _ 7 _ 101 (0, 0) h⟩
set_option maxRecDepth 100000 in
theorem none_s (p b : Nat) (w : World) (h : w.cell? ⟨p, 7, none⟩ = some (.map (some b))) : Calls Tryz.prog 38 #[ptr p] w fun e w' => e = .returned (.bool false) ∧ w = w' := by
  have eq := eqm86 b
  go_enter Tryz.func38, Tryz.ntmps38
  go_wp2
  go_ret
  exact ⟨rfl, rfl⟩
theorem got_tx (Q : Int → Nat) (l : List Tx) (n : Int) : got (txL Q l) n = (l.find? (fun t => t.num == n)).map (fun t => some (Q t.num)) := by
  unfold got txL
  rw [List.find?_map, Option.map_map]
  have e : (fun p : Int × Option Nat => decide (p.1 = n)) ∘ (fun t : Tx => (t.num, some (Q t.num))) = fun t => t.num == n := by
    funext t
    simp only [Function.comp]
    by_cases h : t.num = n <;> simp [h]
  rw [e]
  rfl
theorem txs_apart {w : World} {base : Nat} {l : Loc} {S : Sm St} (h : Pm w base l S) : S.txs.Pairwise (fun a b => a.num ≠ b.num) := by
  have := h.tab.tidy
  unfold txL at this
  rw [List.pairwise_map] at this
  exact this
theorem actv_find {l : List Tx} (h : l.Pairwise (fun a b => a.num ≠ b.num)) (n : Int) : l.find? (fun t => t.num == n && t.act) = (l.find? (fun t => t.num == n)).filter (·.act) := by
  induction l with
  | nil => rfl
  | cons t l ih =>
    rw [List.pairwise_cons] at h
    rw [List.find?_cons, List.find?_cons]
    cases hn : t.num == n with
    | false => simp only [Bool.false_and]; exact ih h.2
    | true =>
      cases ha : t.act with
      | true =>
        have e : Option.filter (fun x : Tx => x.act) (some t) = some t := by simp [Option.filter, ha]
        rw [e]
        rfl
      | false =>
        have e : Option.filter (fun x : Tx => x.act) (some t) = none := by simp [Option.filter, ha]
        rw [e]
        show l.find? (fun t => t.num == n && t.act) = none
        rw [List.find?_eq_none]
        intro u hu
        have := h.1 u hu
        simp only [beq_iff_eq] at hn
        simp only [Bool.and_eq_true, beq_iff_eq, not_and]
        intro e
        omega
/-- what active answers -/
def actV (l : Loc) (o : Option Tx) : Value := match o with
  | some t => .tuple #[ptr (l.Q t.num), .int .i64 0]
  | none => .tuple #[.pointer none, .int .i64 101]
set_option maxHeartbeats 2000000 in
set_option maxRecDepth 100000 in
theorem active_s (base : Nat) (l : Loc) (S : Sm St) (tx : Int) (w : World) (h : Pm w base l S) (hx : okN tx) :
    Calls Tryz.prog 39 #[ptr l.p, .int .i64 tx] w fun e w' => e = .returned (actV l (S.actv tx)) ∧ w = w' := by
  obtain ⟨_, _, _, _, _, _, _, c7, _, _⟩ := h.cells
  have N := none_s l.p l.mb w c7
  have LK := Tab.look (t := 86) (e := 99) keyN valQ Tryz.underlying86 h.tab (z := none) (zero99 w) hx
  have hap := txs_apart h
  rw [got_tx] at LK
  unfold Sm.actv
  rw [actv_find hap]
  cases hf : S.txs.find? (fun t => t.num == tx) with
  | none =>
    rw [hf] at LK
    replace LK : (Instr.lookup 86 (.map (some l.mb)) (.int .i64 tx) true).run Tryz.prog w = .ok (.tuple #[.pointer none, .bool false]) w := LK
    clear h hap hf
    go_enter Tryz.func39, Tryz.ntmps39
    go_wp2_with fail
    refine N.mono ?_
    rintro e w' ⟨rfl, rfl⟩
    go_wp2
    go_ret2
    exact ⟨rfl, rfl⟩
  | some t =>
    rw [hf] at LK
    have htm := List.mem_of_find?_eq_some hf
    have htn : t.num = tx := by have := List.find?_some hf; simpa using this
    obtain ⟨v, hv, _⟩ := h.tx t htm
    obtain ⟨_, _, d2, _⟩ := tx_cells hv
    replace LK : (Instr.lookup 86 (.map (some l.mb)) (.int .i64 tx) true).run Tryz.prog w = .ok (.tuple #[ptr (l.Q t.num), .bool true]) w := LK
    clear h hap hf htm hv
    obtain ⟨q, hq⟩ : ∃ q, q = l.Q t.num := ⟨_, rfl⟩
    rw [← hq] at LK d2
    replace htn := Aside0.mk htn
    cases ha : t.act with
    | true =>
      rw [ha] at d2
      have e : Option.filter (fun x : Tx => x.act) (some t) = some t := by simp [Option.filter, ha]
      have F : Ending.returned (.tuple #[ptr q, .int .i64 0]) = Ending.returned (actV l ((some t).filter (·.act))) := by
        rw [e, hq]
        rfl
      clear e
      replace hq := Aside0.mk hq
      replace ha := Aside0.mk ha
      replace F := Aside0.mk F
      go_enter Tryz.func39, Tryz.ntmps39
      go_wp2_with fail
      refine N.mono ?_
      rintro e w' ⟨rfl, rfl⟩
      go_wp2
      go_ret2
      exact ⟨F.out, rfl⟩
    | false =>
      rw [ha] at d2
      have F : Ending.returned (.tuple #[.pointer none, .int .i64 101]) = Ending.returned (actV l ((some t).filter (·.act))) := by
        have e : Option.filter (fun x : Tx => x.act) (some t) = none := by simp [Option.filter, ha]
        rw [e]
        rfl
      replace F := Aside0.mk F
      replace hq := Aside0.mk hq
      replace ha := Aside0.mk ha
      go_enter Tryz.func39, Tryz.ntmps39
      go_wp2_with fail
      refine N.mono ?_
      rintro e w' ⟨rfl, rfl⟩
      go_wp2
      go_ret2
      exact ⟨F.out, rfl⟩
end Go.Proofs.YthaoedfalkebbaaGreat
namespace Go.Proofs.YthaoedfalkebbaaGreat
open Go.RowKit Go.Maps Go.Sort Go.Lib Go.Shelf Go.Proofs.YthaoedfalkebbaaGreatW.PrintWords Go.Proofs.YthaoedfalkebbaaGreatW.PrintLast Go.Proofs.YthaoedfalkebbaaGreatW.PrintMore
set_option linter.unusedVariables false
set_option linter.unusedSimpArgs false
set_option linter.unusedSectionVars false
/-- those under way -/
def actN (l : List Tx) : List Int := (l.filter (fun t => t.act)).map (fun t => t.num)
theorem actN_len (S : Sm St) : (actN S.txs).length = S.acts := by unfold actN Sm.acts; rw [List.length_map]
theorem actN_le (l : List Tx) : (actN l).length ≤ l.length := by unfold actN; rw [List.length_map]; exact List.length_filter_le _ _
theorem tx_next {vis rem l : List Tx} {t : Tx} (hr : rem.Pairwise (fun a b => a.num ≠ b.num)) (h : (vis ++ rem).Perm l) (hm : t ∈ rem) : ((vis ++ [t]) ++ rem.filter (fun u => decide (u.num ≠ t.num))).Perm l := by
  obtain ⟨a, b, e⟩ := List.append_of_mem hm
  subst e
  rw [List.pairwise_append] at hr
  obtain ⟨h1, h2, h3⟩ := hr
  rw [List.pairwise_cons] at h2
  have e1 : a.filter (fun u => decide (u.num ≠ t.num)) = a := List.filter_eq_self.2 (fun u hu => by have := h3 u hu t List.mem_cons_self; simpa using this)
  have e2 : b.filter (fun u => decide (u.num ≠ t.num)) = b := List.filter_eq_self.2 (fun u hu => by have := h2.1 u hu; simp only [decide_eq_true_eq]; exact fun e => this e.symm)
  rw [List.filter_append, List.filter_cons, if_neg (by simp), e1, e2]
  refine List.Perm.trans ?_ h
  rw [List.append_assoc]
  refine List.Perm.append_left _ ?_
  exact (List.perm_middle (l₁ := a) (l₂ := b) (a := t)).symm
theorem txL_mem {Q : Int → Nat} {l : List Tx} {a : Int} {v : Option Nat} (h : (a, v) ∈ txL Q l) : ∃ t ∈ l, a = t.num ∧ v = some (Q t.num) := by
  obtain ⟨t, ht, e⟩ := List.mem_map.1 h
  injection e with e1 e2
  exact ⟨t, ht, e1.symm, e2.symm⟩
theorem txL_filter (Q : Int → Nat) (l : List Tx) (a : Int) : (txL Q l).filter (fun p => decide (p.1 ≠ a)) = txL Q (l.filter (fun u => decide (u.num ≠ a))) := by
  unfold txL
  rw [List.filter_map]
  rfl
theorem apart_txL {Q : Int → Nat} {l : List Tx} (h : (txL Q l).Pairwise (fun p p' => p.1 ≠ p'.1)) : l.Pairwise (fun a b => a.num ≠ b.num) := by
  unfold txL at h
  rw [List.pairwise_map] at h
  exact h
/-- numbers of a permutation, sorted -/
theorem actN_sort {vis l : List Tx} (hp : vis.Perm l) (hd : l.Pairwise (fun a b => a.num < b.num)) : ((actN vis).mergeSort fun x y => decide (x ≤ y)) = actN l := by
  have hs : (actN l).Pairwise (· < ·) := by
    unfold actN
    rw [List.pairwise_map]
    exact hd.sublist List.filter_sublist
  have hpp : (actN vis).Perm (actN l) := (hp.filter _).map _
  have hm := List.mergeSort_perm (actN vis) (fun x y => decide (x ≤ y))
  have hsorted : ((actN vis).mergeSort fun x y => decide (x ≤ y)).Pairwise (fun x y => decide (x ≤ y) = true) := List.pairwise_mergeSort (fun a b c h1 h2 => by simp only [decide_eq_true_eq] at *; omega) (fun a b => by simp only [Bool.or_eq_true, decide_eq_true_eq]; omega) _
  have hnd : (actN l).Nodup := by rw [List.nodup_iff_pairwise_ne]; exact hs.imp (fun h => by omega)
  have hnd2 : ((actN vis).mergeSort fun x y => decide (x ≤ y)).Nodup := (hm.trans hpp).nodup_iff.2 hnd
  refine strict_unique ?_ hs (fun x => (hm.trans hpp).mem_iff)
  rw [List.nodup_iff_pairwise_ne] at hnd2
  exact (hsorted.and hnd2).imp (fun ⟨h1, h2⟩ => by simp only [decide_eq_true_eq] at h1; omega)
def AcJ (w : World) (l : Loc) (txs : List Tx) (v : Value) (wr : World) : Prop :=
  ∃ vis rem : List Tx, (vis ++ rem).Perm txs ∧ RngT wr l.mb w.heap.size txs.length (txL l.Q txs) (txL l.Q rem) ∧ dI.R 2 wr w.heap.size (fun k => w.heap.size < k) v (actN vis) ∧ Below w.heap.size w wr
set_option maxHeartbeats 8000000 in
set_option maxRecDepth 100000 in
theorem Active_s (base : Nat) (l : Loc) (S : Sm St) (w : World) (h : Pm w base l S) :
    Calls Tryz.prog 26 #[ptr l.p] w fun e w' => ∃ v, e = .returned v ∧ dI.R 2 w' w.heap.size (fun _ => True) v (actN S.txs) ∧ Below w.heap.size w w' := by
  obtain ⟨_, _, _, _, _, _, _, c7, _, _⟩ := h.cells
  have N := none_s l.p l.mb w c7
  have hfew := h.few
  have hblt : l.mb < w.heap.size := h.tab.lt
  have hdist := h.dist
  have htx := fun t (ht : t ∈ S.txs) => h.tx t ht
  obtain ⟨w2, hrun, hRg, hg2, hs2⟩ := Tab.range (t := 86) keyN Tryz.underlying86 h.tab
  have HT : ∀ W, Below w.heap.size w W → ∀ t ∈ S.txs, W.cell? ⟨l.Q t.num, 2, none⟩ = some (.bool t.act) := fun W B t ht => by
    obtain ⟨v, hv, _⟩ := htx t ht
    exact (B.cell (World.block_lt_of_cell? _ _ (tx_cells hv).2.2.1)).trans (tx_cells hv).2.2.1
  clear h htx
  replace HT := Aside0.mk HT
  replace hdist := Aside0.mk hdist
  go_enter Tryz.func26, Tryz.ntmps26
  go_wp2_with fail
  refine N.mono ?_
  rintro e w' ⟨rfl, rfl⟩
  go_wp2_with fail
  go_loopw [3] (fun v wr => AcJ w l S.txs v wr) (fun _ wr => wr.rangeLeft l.mb w.heap.size)
  case atStart =>
    exact ⟨[], S.txs, List.Perm.refl _, hRg, Kd.R_nil _ _ _ _ _, (Below.refl _ w).grown hg2 (Nat.le_refl _) (by simp)⟩
  case round =>
    obtain ⟨vis, rem, hp, hr, hv, hB⟩ := hrel
    have hlenp := hp.length_eq
    rw [List.length_append] at hlenp
    rcases hr.next keyN valQ 0 with ⟨hnil, hrun1⟩ | ⟨a, sv, w3, hmem, hok, hrun1, hr3, hlt, hg3, hs3, hent⟩
    · have hrem : rem = [] := by
        cases rem with
        | nil => rfl
        | cons t rem => unfold txL at hnil; cases hnil
      subst hrem
      rw [List.append_nil] at hp
      have hbase0 := Kd.R_base hv
      have hle := actN_le vis
      have S := sortI_calls wr w.heap.size _ u3 _ hv (by omega)
      rw [actN_sort hp hdist.out] at S
      clear hnil
      go_wp2_with fail
      refine S.mono ?_
      rintro e w4 ⟨rfl, H4, G4⟩
      go_wp2
      go_ret
      exact ⟨_, rfl, ⟨fun _ _ => trivial, H4.2⟩, hB.grown G4 hB.size (fun k hk => hbase0 k hk)⟩
    · obtain ⟨t, ht, rfl, rfl⟩ := txL_mem hmem
      have htm : t ∈ S.txs := hp.mem_iff.1 (List.mem_append_right _ ht)
      have hB3 : Below w.heap.size w w3 := hB.grown hg3 hB.size (fun k e => by injection e with e; omega)
      have hv3 : dI.R 2 w3 w.heap.size (fun k => w.heap.size < k) u3 (actN vis) := Kd.R_grown hv hg3 (fun k hk e => by injection e with e; omega)
      have hrl : w.heap.size < wr.heap.size := hr.lt
      have hact := HT.out w3 hB3 t htm
      rw [txL_filter] at hr3
      have hpn := tx_next (apart_txL hr.apart) hp ht
      have hvl := actN_le vis
      have hlen : (actN vis).length ≤ 65536 := by omega
      unfold mkN mvQ at hrun1 hent
      clear hmem hok
      cases ha : t.act with
      | false =>
        rw [ha] at hact
        have F : AcJ w l S.txs u3 w3 ∧ w3.rangeLeft l.mb w.heap.size < wr.rangeLeft l.mb w.heap.size := by
          refine ⟨⟨vis ++ [t], _, hpn, hr3, ?_, hB3⟩, hlt⟩
          have : actN (vis ++ [t]) = actN vis := by unfold actN; rw [List.filter_append]; simp [ha]
          rw [this]
          exact hv3
        replace F := Aside0.mk F
        replace ha := Aside0.mk ha
        clear hr hv hv3 hr3 hlt hpn
        go_wp2
        exact F.out
      | true =>
        rw [ha] at hact
        obtain ⟨W, hW⟩ : ∃ W, W = w3 := ⟨_, rfl⟩
        have hbase0 := Kd.R_base hv3
        have fin : ∀ v1 w6, dI.R 2 w6 w.heap.size (fun k => w.heap.size < k) v1 (actN vis ++ [t.num]) → Below w.heap.size w w6 → w3.grownBy w6 u3.ownBlock → AcJ w l S.txs v1 w6 ∧ w6.rangeLeft l.mb w.heap.size < wr.rangeLeft l.mb w.heap.size := by
          intro v1 w6 H6 B6 G6
          obtain ⟨hr7, el2⟩ := hr3.kept G6 (fun e => by have := hbase0 _ e.symm; omega) (fun e => by have := hv3.1 _ e.symm; omega)
          refine ⟨⟨vis ++ [t], _, hpn, hr7, ?_, B6⟩, by rw [el2]; exact hlt⟩
          have : actN (vis ++ [t]) = actN vis ++ [t.num] := by unfold actN; rw [List.filter_append]; simp [ha]
          rw [this]
          exact H6
        have hWs : w.heap.size < w3.heap.size := by omega
        clear hW
        replace ha := Aside0.mk ha
        go_wp2_with (at_builtin; refine appI (v := u3) rfl rfl rfl rfl hv3 hB3 hlen (by first | rfl | exact hs3) (fun k hk => by omega) ?_; intro v1 w6 H6 B6 G6)
        exact fin _ _ H6 B6 G6
end Go.Proofs.YthaoedfalkebbaaGreat
namespace Go.Proofs.YthaoedfalkebbaaGreat
open Go.RowKit Go.Maps Go.Sort Go.Lib Go.Shelf Go.Proofs.YthaoedfalkebbaaGreatW.PrintWords Go.Proofs.YthaoedfalkebbaaGreatW.PrintLast Go.Proofs.YthaoedfalkebbaaGreatW.PrintMore
set_option linter.unusedVariables false
set_option linter.unusedSimpArgs false
set_option linter.unusedSectionVars false
theorem info101 : (Tryz.prog.info? 101).map (fun i => i.size) = some 8 := by kernel_rfl
theorem neq99_same (a : Addr) (w : World) : (binOp .neq 99 (.pointer (some a)) (.pointer (some a))).run Tryz.prog w = .ok (.bool false) w := by
  obtain ⟨j, hj, hs⟩ := Option.map_eq_some_iff.1 info101
  have h : ∀ d : Nat, (Op.equalIn (d + 1) 99 (.pointer (some a)) (.pointer (some a))).run Tryz.prog w = .ok true w := fun d => by
    simp [Op.equalIn, run_underlying Tryz.underlying99, sizeOf, typeInfo, hj, run_sameAddr_same]
  simp only [binOp]
  simp [Op.equal, Op.maxDepth, h 9999]
theorem neq99_other {a b : Addr} {ca cb : Array Value} {ta tb : TypeId} (w : World) (hne : a ≠ b) (ha : w.heap[a.block]? = some (.cells ca ta (0, 0))) (hb : w.heap[b.block]? = some (.cells cb tb (0, 0))) : (binOp .neq 99 (.pointer (some a)) (.pointer (some b))).run Tryz.prog w = .ok (.bool true) w := by
  obtain ⟨j, hj, hs⟩ := Option.map_eq_some_iff.1 info101
  have hsz : j.size ≠ 0 := by rw [hs]; decide
  have h : ∀ d : Nat, (Op.equalIn (d + 1) 99 (.pointer (some a)) (.pointer (some b))).run Tryz.prog w = .ok false w := fun d => by
    simp [Op.equalIn, run_underlying Tryz.underlying99, sizeOf, typeInfo, hj, hsz, run_sameAddr_other w hne ha hb]
  simp only [binOp]
  simp [Op.equal, Op.maxDepth, h 9999]
theorem Pm.q {w : World} {base : Nat} {l : Loc} {S : Sm St} (h : Pm w base l S) {t o : Tx} (ht : t ∈ S.txs) (ho : o ∈ S.txs) : (l.Q o.num = l.Q t.num) ↔ o.num = t.num := ⟨fun e => h.qinj o ho t ht e, fun e => by rw [e]⟩
set_option maxHeartbeats 4000000 in
set_option maxRecDepth 100000 in
theorem concurrent_c (qt qo : Nat) (t o : Tx) (vt vo : Value) (w : World) (h1 : w.heap[qt]? = some (txCells t vt)) (h2 : w.heap[qo]? = some (txCells o vo)) (hq : qo = qt ↔ o.num = t.num) :
    Calls Tryz.prog 85 #[ptr qt, ptr qo] w fun e w' => e = .returned (.bool (concB t o)) ∧ ∃ n, w' = w.drewN n := by
  obtain ⟨_, _, _, a3, _⟩ := tx_cells h1
  obtain ⟨_, _, b2, _, b4, _⟩ := tx_cells h2
  by_cases e : qo = qt
  · have F : concB t o = false := by
      unfold concB
      simp [hq.1 e]
    rw [F]
    subst e
    have NQ := neq99_same ⟨qo, 0, none⟩ w
    have NQ1 := fun n => neq99_same ⟨qo, 0, none⟩ (w.drewN n)
    clear hq a3 b2 b4 h1 h2
    replace F := Aside0.mk F
    go_enter Tryz.func85, Tryz.ntmps85
    go_wp2_with fail
    go_quiet (fail)
    go_wp2
    go_ret
    exact ⟨rfl, _, rfl⟩
  · have hne : ¬ o.num = t.num := fun h => e (hq.2 h)
    have hna : (⟨qo, 0, none⟩ : Addr) ≠ ⟨qt, 0, none⟩ := fun h => by injection h with h; exact e h
    have NQ := neq99_other w hna h2 h1
    have NQ1 := fun n => neq99_other (w.drewN n) hna h2 h1
    clear hq h1 h2 hna
    cases ha : o.act with
    | true =>
      rw [ha] at b2
      have F : concB t o = true := by unfold concB; simp [hne, ha]
      rw [F]
      clear a3 b4
      replace F := Aside0.mk F
      replace ha := Aside0.mk ha
      replace hne := Aside0.mk hne
      go_enter Tryz.func85, Tryz.ntmps85
      go_wp2_with fail
      go_quiet (fail)
      go_wp2
      go_ret
      exact ⟨rfl, _, rfl⟩
    | false =>
      rw [ha] at b2
      have F : concB t o = decide (t.begun < o.ended) := by unfold concB; simp [hne, ha]
      rw [F]
      clear F
      replace ha := Aside0.mk ha
      replace hne := Aside0.mk hne
      go_enter Tryz.func85, Tryz.ntmps85
      go_wp2_with fail
      go_quiet (fail)
      go_wp2
      go_ret
      exact ⟨rfl, _, rfl⟩
set_option maxHeartbeats 2000000 in
set_option maxRecDepth 100000 in
theorem both_c (a b i o : Bool) (w : World) : Calls Tryz.prog 92 #[.agg #[.bool a, .bool b], .bool i, .bool o] w fun e w' => e = .returned (.bool (bothB a b i o)) ∧ Below w.heap.size w w' := by
  have B1 : Below w.heap.size w (w.alloc (.cells #[.bool a, .bool b] 67)) := (Below.refl _ w).alloc (Nat.le_refl _) _
  unfold bothB
  cases a <;> cases b <;> cases i <;> cases o
  all_goals
    go_enter Tryz.func92, Tryz.ntmps92
    go_wp2
    go_ret
    exact ⟨rfl, B1⟩
end Go.Proofs.YthaoedfalkebbaaGreat
namespace Go.Proofs.YthaoedfalkebbaaGreat
open Go.RowKit Go.Maps Go.Sort Go.Lib Go.Shelf Go.Proofs.YthaoedfalkebbaaGreatW.PrintWords Go.Proofs.YthaoedfalkebbaaGreatW.PrintLast Go.Proofs.YthaoedfalkebbaaGreatW.PrintMore
set_option linter.unusedVariables false
set_option linter.unusedSimpArgs false
set_option linter.unusedSectionVars false
set_option maxHeartbeats 4000000 in
set_option maxRecDepth 100000 in
theorem set_c (q : Nat) (t : Tx) (v : Value) (i : Bool) (w : World) (h : w.heap[q]? = some (txCells t v)) : Calls Tryz.prog 93 #[.pointer (some ⟨q, 5, none⟩), .bool i] w fun e w' => e = .returned (.tuple #[]) ∧ w'.heap[q]? = some (txCells (setF t i) v) ∧ w.grownBy w' (some q) := by
  obtain ⟨_, _, _, _, _, c5, c6, _⟩ := tx_cells h
  have fz5 : w.frozen? ⟨q, 5, none⟩ = false := blk_frozen h _
  have fz6 : ∀ x, (w.setCell ⟨q, 5, none⟩ x).frozen? ⟨q, 6, none⟩ = false := fun x => blk_frozen (blk_set h 5 x) _
  have fin : ∀ x y, x = (setF t i).fin → y = (setF t i).fout → ((w.setCell ⟨q, 5, none⟩ (.bool x)).setCell ⟨q, 6, none⟩ (.bool y)).drew.heap[q]? = some (txCells (setF t i) v) ∧ w.grownBy ((w.setCell ⟨q, 5, none⟩ (.bool x)).setCell ⟨q, 6, none⟩ (.bool y)).drew (some q) := by
    intro x y e1 e2
    refine ⟨?_, trans_grown (trans_grown (grown_set w q 5 _) (grown_set _ q 6 _)) (grown_none (drewG _))⟩
    show ((w.setCell ⟨q, 5, none⟩ (.bool x)).setCell ⟨q, 6, none⟩ (.bool y)).heap[q]? = _
    rw [blk_set (blk_set h 5 (.bool x)) 6 (.bool y), e1, e2]
    rfl
  replace fin := Aside0.mk fin
  cases hf : t.fin <;> cases ho : t.fout
  · rw [hf] at c5
    rw [ho] at c6
    replace hf := Aside0.mk hf
    replace ho := Aside0.mk ho
    replace h := Aside0.mk h
    go_enter Tryz.func93, Tryz.ntmps93
    go_wp2_with fail
    refine start_ (n := 23) (S := fun w' => w'.cell? ⟨q, 5, none⟩ = some (.bool false) ∧ w'.cell? ⟨q, 6, none⟩ = some (.bool false)) (ds := [19, 22]) #[false, false, false, false, false, false, false, false, false, false, false, false, false, false, false, false, false, false, false, false, false, false, false] (by kernel_rfl) rfl rfl ⟨c5, c6⟩ (fun hHeld => ?_)
    refine pure_ (i := 0) (N := some 4) (v := ?_) (a' := ?_) #[true, false, false, false, false, false, false, false, false, false, false, false, false, false, false, false, false, false, false, false, false, false, false] rfl rfl (by kernel_rfl) (fun _ _ _ h => h) (Or.inl ⟨by rfl, ?_⟩) ?_ ?_
    rotate_left
    · intro w'
      go_simp
      with_reducible rfl
    rotate_left
    · simp only [Act.put, List.setIfInBounds_toArray, List.set_cons_zero, List.set_cons_succ, i64_w, i32_w]
      rfl
    refine pure_ (i := 1) (N := some 5) (v := ?_) (a' := ?_) #[true, true, false, false, false, false, false, false, false, false, false, false, false, false, false, false, false, false, false, false, false, false, false] rfl rfl (by kernel_rfl) (fun _ _ _ h => h) (Or.inl ⟨by rfl, ?_⟩) ?_ ?_
    rotate_left
    · intro w'
      go_simp
      with_reducible rfl
    rotate_left
    · simp only [Act.put, List.setIfInBounds_toArray, List.set_cons_zero, List.set_cons_succ, i64_w, i32_w]
      rfl
    refine pure_ (i := 2) (N := some 6) (v := ?_) (a' := ?_) #[true, true, true, false, false, false, false, false, false, false, false, false, false, false, false, false, false, false, false, false, false, false, false] rfl rfl (by kernel_rfl) (fun _ _ _ h => h) (Or.inl ⟨by rfl, ?_⟩) ?_ ?_
    rotate_left
    · intro w'
      go_simp
      with_reducible rfl
    rotate_left
    · simp only [Act.put, List.setIfInBounds_toArray, List.set_cons_zero, List.set_cons_succ, i64_w, i32_w]
      rfl
    refine pure_ (i := 3) (N := some 7) (v := ?_) (a' := ?_) #[true, true, true, true, false, false, false, false, false, false, false, false, false, false, false, false, false, false, false, false, false, false, false] rfl rfl (by kernel_rfl) (fun _ _ _ h => h) (Or.inl ⟨by rfl, ?_⟩) ?_ ?_
    rotate_left
    · intro w'
      go_simp
      with_reducible rfl
    rotate_left
    · simp only [Act.put, List.setIfInBounds_toArray, List.set_cons_zero, List.set_cons_succ, i64_w, i32_w]
      rfl
    refine pure_ (i := 4) (N := some 8) (v := ?_) (a' := ?_) #[true, true, true, true, true, false, false, false, false, false, false, false, false, false, false, false, false, false, false, false, false, false, false] rfl rfl (by kernel_rfl) (fun _ _ _ h => h) (Or.inl ⟨by rfl, ?_⟩) ?_ ?_
    rotate_left
    · intro w'
      go_simp
      with_reducible rfl
    rotate_left
    · simp only [Act.put, List.setIfInBounds_toArray, List.set_cons_zero, List.set_cons_succ, i64_w, i32_w]
      rfl
    refine pure_ (i := 9) (N := some 13) (v := ?_) (a' := ?_) #[true, true, true, true, true, false, false, false, false, true, false, false, false, false, false, false, false, false, false, false, false, false, false] rfl rfl (by kernel_rfl) (fun _ _ _ h => h) (Or.inl ⟨by rfl, ?_⟩) ?_ ?_
    rotate_left
    · intro w'
      go_simp
      with_reducible rfl
    rotate_left
    · simp only [Act.put, List.setIfInBounds_toArray, List.set_cons_zero, List.set_cons_succ, i64_w, i32_w]
      rfl
    refine pure_ (i := 10) (N := some 14) (v := ?_) (a' := ?_) #[true, true, true, true, true, false, false, false, false, true, true, false, false, false, false, false, false, false, false, false, false, false, false] rfl rfl (by kernel_rfl) (fun _ _ _ h => h) (Or.inl ⟨by rfl, ?_⟩) ?_ ?_
    rotate_left
    · intro w'
      go_simp
      with_reducible rfl
    rotate_left
    · simp only [Act.put, List.setIfInBounds_toArray, List.set_cons_zero, List.set_cons_succ, i64_w, i32_w]
      rfl
    refine pure_ (i := 11) (N := some 15) (v := ?_) (a' := ?_) #[true, true, true, true, true, false, false, false, false, true, true, true, false, false, false, false, false, false, false, false, false, false, false] rfl rfl (by kernel_rfl) (fun _ _ _ h => h) (Or.inl ⟨by rfl, ?_⟩) ?_ ?_
    rotate_left
    · intro w'
      go_simp
      with_reducible rfl
    rotate_left
    · simp only [Act.put, List.setIfInBounds_toArray, List.set_cons_zero, List.set_cons_succ, i64_w, i32_w]
      rfl
    refine take_ (i := 5) (N := some 9) (v := ?_) (a' := ?_) #[true, true, true, true, true, true, false, false, false, true, true, true, false, false, false, false, false, false, false, false, false, false, false] rfl rfl (by kernel_rfl) (fun _ _ _ h => h) (Or.inl ⟨by rfl, ?_⟩) hHeld ?_ ?_
    rotate_left
    · rintro w' ⟨s0, s1⟩
      go_simp
      with_reducible rfl
    rotate_left
    · simp only [Act.put, List.setIfInBounds_toArray, List.set_cons_zero, List.set_cons_succ, i64_w, i32_w]
      rfl
    refine pure_ (i := 6) (N := some 10) (v := ?_) (a' := ?_) #[true, true, true, true, true, true, true, false, false, true, true, true, false, false, false, false, false, false, false, false, false, false, false] rfl rfl (by kernel_rfl) (fun _ _ _ h => h) (Or.inl ⟨by rfl, ?_⟩) ?_ ?_
    rotate_left
    · intro w'
      go_simp
      with_reducible rfl
    rotate_left
    · simp only [Act.put, List.setIfInBounds_toArray, List.set_cons_zero, List.set_cons_succ, i64_w, i32_w]
      rfl
    refine pure_ (i := 7) (N := some 11) (v := ?_) (a' := ?_) #[true, true, true, true, true, true, true, true, false, true, true, true, false, false, false, false, false, false, false, false, false, false, false] rfl rfl (by kernel_rfl) (fun _ _ _ h => h) (Or.inl ⟨by rfl, ?_⟩) ?_ ?_
    rotate_left
    · intro w'
      go_simp
      with_reducible rfl
    rotate_left
    · simp only [Act.put, List.setIfInBounds_toArray, List.set_cons_zero, List.set_cons_succ, i64_w, i32_w]
      rfl
    refine pure_ (i := 8) (N := some 12) (v := ?_) (a' := ?_) #[true, true, true, true, true, true, true, true, true, true, true, true, false, false, false, false, false, false, false, false, false, false, false] rfl rfl (by kernel_rfl) (fun _ _ _ h => h) (Or.inl ⟨by rfl, ?_⟩) ?_ ?_
    rotate_left
    · intro w'
      go_simp
      with_reducible rfl
    rotate_left
    · simp only [Act.put, List.setIfInBounds_toArray, List.set_cons_zero, List.set_cons_succ, i64_w, i32_w]
      rfl
    refine take_ (i := 12) (N := some 16) (v := ?_) (a' := ?_) #[true, true, true, true, true, true, true, true, true, true, true, true, true, false, false, false, false, false, false, false, false, false, false] rfl rfl (by kernel_rfl) (fun _ _ _ h => h) (Or.inl ⟨by rfl, ?_⟩) hHeld ?_ ?_
    rotate_left
    · rintro w' ⟨s0, s1⟩
      go_simp
      with_reducible rfl
    rotate_left
    · simp only [Act.put, List.setIfInBounds_toArray, List.set_cons_zero, List.set_cons_succ, i64_w, i32_w]
      rfl
    refine pure_ (i := 13) (N := some 17) (v := ?_) (a' := ?_) #[true, true, true, true, true, true, true, true, true, true, true, true, true, true, false, false, false, false, false, false, false, false, false] rfl rfl (by kernel_rfl) (fun _ _ _ h => h) (Or.inl ⟨by rfl, ?_⟩) ?_ ?_
    rotate_left
    · intro w'
      go_simp
      with_reducible rfl
    rotate_left
    · simp only [Act.put, List.setIfInBounds_toArray, List.set_cons_zero, List.set_cons_succ, i64_w, i32_w]
      rfl
    refine pure_ (i := 14) (N := some 18) (v := ?_) (a' := ?_) #[true, true, true, true, true, true, true, true, true, true, true, true, true, true, true, false, false, false, false, false, false, false, false] rfl rfl (by kernel_rfl) (fun _ _ _ h => h) (Or.inl ⟨by rfl, ?_⟩) ?_ ?_
    rotate_left
    · intro w'
      go_simp
      with_reducible rfl
    rotate_left
    · simp only [Act.put, List.setIfInBounds_toArray, List.set_cons_zero, List.set_cons_succ, i64_w, i32_w]
      rfl
    refine pure_ (i := 15) (N := some 19) (v := ?_) (a' := ?_) #[true, true, true, true, true, true, true, true, true, true, true, true, true, true, true, true, false, false, false, false, false, false, false] rfl rfl (by kernel_rfl) (fun _ _ _ h => h) (Or.inl ⟨by rfl, ?_⟩) ?_ ?_
    rotate_left
    · intro w'
      go_simp
      with_reducible rfl
    rotate_left
    · simp only [Act.put, List.setIfInBounds_toArray, List.set_cons_zero, List.set_cons_succ, i64_w, i32_w]
      rfl
    refine pure_ (i := 16) (N := some 20) (v := ?_) (a' := ?_) #[true, true, true, true, true, true, true, true, true, true, true, true, true, true, true, true, true, false, false, false, false, false, false] rfl rfl (by kernel_rfl) (fun _ _ _ h => h) (Or.inl ⟨by rfl, ?_⟩) ?_ ?_
    rotate_left
    · intro w'
      go_simp
      with_reducible rfl
    rotate_left
    · simp only [Act.put, List.setIfInBounds_toArray, List.set_cons_zero, List.set_cons_succ, i64_w, i32_w]
      rfl
    refine pure_ (i := 17) (N := some 21) (v := ?_) (a' := ?_) #[true, true, true, true, true, true, true, true, true, true, true, true, true, true, true, true, true, true, false, false, false, false, false] rfl rfl (by kernel_rfl) (fun _ _ _ h => h) (Or.inl ⟨by rfl, ?_⟩) ?_ ?_
    rotate_left
    · intro w'
      go_simp
      with_reducible rfl
    rotate_left
    · simp only [Act.put, List.setIfInBounds_toArray, List.set_cons_zero, List.set_cons_succ, i64_w, i32_w]
      rfl
    refine pure_ (i := 18) (N := some 22) (v := ?_) (a' := ?_) #[true, true, true, true, true, true, true, true, true, true, true, true, true, true, true, true, true, true, true, false, false, false, false] rfl rfl (by kernel_rfl) (fun _ _ _ h => h) (Or.inl ⟨by rfl, ?_⟩) ?_ ?_
    rotate_left
    · intro w'
      go_simp
      with_reducible rfl
    rotate_left
    · simp only [Act.put, List.setIfInBounds_toArray, List.set_cons_zero, List.set_cons_succ, i64_w, i32_w]
      rfl
    refine last_ (i := 19) (N := none) #[true, true, true, true, true, true, true, true, true, true, true, true, true, true, true, true, true, true, true, true, false, false, false] rfl rfl (by kernel_rfl) (by decide) (fun K hK => ?_)
    refine skip_ (w1 := ?_) (by rfl) rfl ?_ ?_
    rotate_left
    · go_simp
      rfl
    refine hK.out _ _ ?_
    clear hK K
    refine pure_ (i := 20) (N := some 23) (v := ?_) (a' := ?_) #[true, true, true, true, true, true, true, true, true, true, true, true, true, true, true, true, true, true, true, true, true, false, false] rfl rfl (by kernel_rfl) (fun _ _ _ h => h) (Or.inl ⟨by rfl, ?_⟩) ?_ ?_
    rotate_left
    · intro w'
      go_simp
      with_reducible rfl
    rotate_left
    · simp only [Act.put, List.setIfInBounds_toArray, List.set_cons_zero, List.set_cons_succ, i64_w, i32_w]
      rfl
    refine pure_ (i := 21) (N := some 24) (v := ?_) (a' := ?_) #[true, true, true, true, true, true, true, true, true, true, true, true, true, true, true, true, true, true, true, true, true, true, false] rfl rfl (by kernel_rfl) (fun _ _ _ h => h) (Or.inl ⟨by rfl, ?_⟩) ?_ ?_
    rotate_left
    · intro w'
      go_simp
      with_reducible rfl
    rotate_left
    · simp only [Act.put, List.setIfInBounds_toArray, List.set_cons_zero, List.set_cons_succ, i64_w, i32_w]
      rfl
    refine last_ (i := 22) (N := none) #[true, true, true, true, true, true, true, true, true, true, true, true, true, true, true, true, true, true, true, true, true, true, true] rfl rfl (by kernel_rfl) (by decide) (fun K hK => ?_)
    refine skip_ (w1 := ?_) (by rfl) rfl ?_ ?_
    rotate_left
    · go_simp
      rfl
    refine hK.out _ _ ?_
    clear hK K
    refine done_ (by kernel_rfl) ?_

    go_wp2
    go_end0
    exact ⟨rfl, fin.out _ _ (by simp [setF, hf.out]) (by simp [setF, ho.out])⟩
  · rw [hf] at c5
    rw [ho] at c6
    replace hf := Aside0.mk hf
    replace ho := Aside0.mk ho
    replace h := Aside0.mk h
    go_enter Tryz.func93, Tryz.ntmps93
    go_wp2_with fail
    refine start_ (n := 23) (S := fun w' => w'.cell? ⟨q, 5, none⟩ = some (.bool false) ∧ w'.cell? ⟨q, 6, none⟩ = some (.bool true)) (ds := [19, 22]) #[false, false, false, false, false, false, false, false, false, false, false, false, false, false, false, false, false, false, false, false, false, false, false] (by kernel_rfl) rfl rfl ⟨c5, c6⟩ (fun hHeld => ?_)
    refine pure_ (i := 0) (N := some 4) (v := ?_) (a' := ?_) #[true, false, false, false, false, false, false, false, false, false, false, false, false, false, false, false, false, false, false, false, false, false, false] rfl rfl (by kernel_rfl) (fun _ _ _ h => h) (Or.inl ⟨by rfl, ?_⟩) ?_ ?_
    rotate_left
    · intro w'
      go_simp
      with_reducible rfl
    rotate_left
    · simp only [Act.put, List.setIfInBounds_toArray, List.set_cons_zero, List.set_cons_succ, i64_w, i32_w]
      rfl
    refine pure_ (i := 1) (N := some 5) (v := ?_) (a' := ?_) #[true, true, false, false, false, false, false, false, false, false, false, false, false, false, false, false, false, false, false, false, false, false, false] rfl rfl (by kernel_rfl) (fun _ _ _ h => h) (Or.inl ⟨by rfl, ?_⟩) ?_ ?_
    rotate_left
    · intro w'
      go_simp
      with_reducible rfl
    rotate_left
    · simp only [Act.put, List.setIfInBounds_toArray, List.set_cons_zero, List.set_cons_succ, i64_w, i32_w]
      rfl
    refine pure_ (i := 2) (N := some 6) (v := ?_) (a' := ?_) #[true, true, true, false, false, false, false, false, false, false, false, false, false, false, false, false, false, false, false, false, false, false, false] rfl rfl (by kernel_rfl) (fun _ _ _ h => h) (Or.inl ⟨by rfl, ?_⟩) ?_ ?_
    rotate_left
    · intro w'
      go_simp
      with_reducible rfl
    rotate_left
    · simp only [Act.put, List.setIfInBounds_toArray, List.set_cons_zero, List.set_cons_succ, i64_w, i32_w]
      rfl
    refine pure_ (i := 3) (N := some 7) (v := ?_) (a' := ?_) #[true, true, true, true, false, false, false, false, false, false, false, false, false, false, false, false, false, false, false, false, false, false, false] rfl rfl (by kernel_rfl) (fun _ _ _ h => h) (Or.inl ⟨by rfl, ?_⟩) ?_ ?_
    rotate_left
    · intro w'
      go_simp
      with_reducible rfl
    rotate_left
    · simp only [Act.put, List.setIfInBounds_toArray, List.set_cons_zero, List.set_cons_succ, i64_w, i32_w]
      rfl
    refine pure_ (i := 4) (N := some 8) (v := ?_) (a' := ?_) #[true, true, true, true, true, false, false, false, false, false, false, false, false, false, false, false, false, false, false, false, false, false, false] rfl rfl (by kernel_rfl) (fun _ _ _ h => h) (Or.inl ⟨by rfl, ?_⟩) ?_ ?_
    rotate_left
    · intro w'
      go_simp
      with_reducible rfl
    rotate_left
    · simp only [Act.put, List.setIfInBounds_toArray, List.set_cons_zero, List.set_cons_succ, i64_w, i32_w]
      rfl
    refine pure_ (i := 9) (N := some 13) (v := ?_) (a' := ?_) #[true, true, true, true, true, false, false, false, false, true, false, false, false, false, false, false, false, false, false, false, false, false, false] rfl rfl (by kernel_rfl) (fun _ _ _ h => h) (Or.inl ⟨by rfl, ?_⟩) ?_ ?_
    rotate_left
    · intro w'
      go_simp
      with_reducible rfl
    rotate_left
    · simp only [Act.put, List.setIfInBounds_toArray, List.set_cons_zero, List.set_cons_succ, i64_w, i32_w]
      rfl
    refine pure_ (i := 10) (N := some 14) (v := ?_) (a' := ?_) #[true, true, true, true, true, false, false, false, false, true, true, false, false, false, false, false, false, false, false, false, false, false, false] rfl rfl (by kernel_rfl) (fun _ _ _ h => h) (Or.inl ⟨by rfl, ?_⟩) ?_ ?_
    rotate_left
    · intro w'
      go_simp
      with_reducible rfl
    rotate_left
    · simp only [Act.put, List.setIfInBounds_toArray, List.set_cons_zero, List.set_cons_succ, i64_w, i32_w]
      rfl
    refine pure_ (i := 11) (N := some 15) (v := ?_) (a' := ?_) #[true, true, true, true, true, false, false, false, false, true, true, true, false, false, false, false, false, false, false, false, false, false, false] rfl rfl (by kernel_rfl) (fun _ _ _ h => h) (Or.inl ⟨by rfl, ?_⟩) ?_ ?_
    rotate_left
    · intro w'
      go_simp
      with_reducible rfl
    rotate_left
    · simp only [Act.put, List.setIfInBounds_toArray, List.set_cons_zero, List.set_cons_succ, i64_w, i32_w]
      rfl
    refine take_ (i := 5) (N := some 9) (v := ?_) (a' := ?_) #[true, true, true, true, true, true, false, false, false, true, true, true, false, false, false, false, false, false, false, false, false, false, false] rfl rfl (by kernel_rfl) (fun _ _ _ h => h) (Or.inl ⟨by rfl, ?_⟩) hHeld ?_ ?_
    rotate_left
    · rintro w' ⟨s0, s1⟩
      go_simp
      with_reducible rfl
    rotate_left
    · simp only [Act.put, List.setIfInBounds_toArray, List.set_cons_zero, List.set_cons_succ, i64_w, i32_w]
      rfl
    refine pure_ (i := 6) (N := some 10) (v := ?_) (a' := ?_) #[true, true, true, true, true, true, true, false, false, true, true, true, false, false, false, false, false, false, false, false, false, false, false] rfl rfl (by kernel_rfl) (fun _ _ _ h => h) (Or.inl ⟨by rfl, ?_⟩) ?_ ?_
    rotate_left
    · intro w'
      go_simp
      with_reducible rfl
    rotate_left
    · simp only [Act.put, List.setIfInBounds_toArray, List.set_cons_zero, List.set_cons_succ, i64_w, i32_w]
      rfl
    refine pure_ (i := 7) (N := some 11) (v := ?_) (a' := ?_) #[true, true, true, true, true, true, true, true, false, true, true, true, false, false, false, false, false, false, false, false, false, false, false] rfl rfl (by kernel_rfl) (fun _ _ _ h => h) (Or.inl ⟨by rfl, ?_⟩) ?_ ?_
    rotate_left
    · intro w'
      go_simp
      with_reducible rfl
    rotate_left
    · simp only [Act.put, List.setIfInBounds_toArray, List.set_cons_zero, List.set_cons_succ, i64_w, i32_w]
      rfl
    refine pure_ (i := 8) (N := some 12) (v := ?_) (a' := ?_) #[true, true, true, true, true, true, true, true, true, true, true, true, false, false, false, false, false, false, false, false, false, false, false] rfl rfl (by kernel_rfl) (fun _ _ _ h => h) (Or.inl ⟨by rfl, ?_⟩) ?_ ?_
    rotate_left
    · intro w'
      go_simp
      with_reducible rfl
    rotate_left
    · simp only [Act.put, List.setIfInBounds_toArray, List.set_cons_zero, List.set_cons_succ, i64_w, i32_w]
      rfl
    refine take_ (i := 12) (N := some 16) (v := ?_) (a' := ?_) #[true, true, true, true, true, true, true, true, true, true, true, true, true, false, false, false, false, false, false, false, false, false, false] rfl rfl (by kernel_rfl) (fun _ _ _ h => h) (Or.inl ⟨by rfl, ?_⟩) hHeld ?_ ?_
    rotate_left
    · rintro w' ⟨s0, s1⟩
      go_simp
      with_reducible rfl
    rotate_left
    · simp only [Act.put, List.setIfInBounds_toArray, List.set_cons_zero, List.set_cons_succ, i64_w, i32_w]
      rfl
    refine pure_ (i := 13) (N := some 17) (v := ?_) (a' := ?_) #[true, true, true, true, true, true, true, true, true, true, true, true, true, true, false, false, false, false, false, false, false, false, false] rfl rfl (by kernel_rfl) (fun _ _ _ h => h) (Or.inl ⟨by rfl, ?_⟩) ?_ ?_
    rotate_left
    · intro w'
      go_simp
      with_reducible rfl
    rotate_left
    · simp only [Act.put, List.setIfInBounds_toArray, List.set_cons_zero, List.set_cons_succ, i64_w, i32_w]
      rfl
    refine pure_ (i := 14) (N := some 18) (v := undef) (a' := ?_) #[true, true, true, true, true, true, true, true, true, true, true, true, true, true, true, false, false, false, false, false, false, false, false] rfl rfl (by kernel_rfl) (fun _ _ _ h => h) (Or.inr ⟨by rfl, rfl⟩) ?_ ?_
    rotate_left
    · simp only [Act.put, List.setIfInBounds_toArray, List.set_cons_zero, List.set_cons_succ, i64_w, i32_w]
      rfl
    refine pure_ (i := 15) (N := some 19) (v := undef) (a' := ?_) #[true, true, true, true, true, true, true, true, true, true, true, true, true, true, true, true, false, false, false, false, false, false, false] rfl rfl (by kernel_rfl) (fun _ _ _ h => h) (Or.inr ⟨by rfl, rfl⟩) ?_ ?_
    rotate_left
    · simp only [Act.put, List.setIfInBounds_toArray, List.set_cons_zero, List.set_cons_succ, i64_w, i32_w]
      rfl
    refine pure_ (i := 16) (N := some 20) (v := ?_) (a' := ?_) #[true, true, true, true, true, true, true, true, true, true, true, true, true, true, true, true, true, false, false, false, false, false, false] rfl rfl (by kernel_rfl) (fun _ _ _ h => h) (Or.inl ⟨by rfl, ?_⟩) ?_ ?_
    rotate_left
    · intro w'
      go_simp
      with_reducible rfl
    rotate_left
    · simp only [Act.put, List.setIfInBounds_toArray, List.set_cons_zero, List.set_cons_succ, i64_w, i32_w]
      rfl
    refine pure_ (i := 17) (N := some 21) (v := ?_) (a' := ?_) #[true, true, true, true, true, true, true, true, true, true, true, true, true, true, true, true, true, true, false, false, false, false, false] rfl rfl (by kernel_rfl) (fun _ _ _ h => h) (Or.inl ⟨by rfl, ?_⟩) ?_ ?_
    rotate_left
    · intro w'
      go_simp
      with_reducible rfl
    rotate_left
    · simp only [Act.put, List.setIfInBounds_toArray, List.set_cons_zero, List.set_cons_succ, i64_w, i32_w]
      rfl
    refine pure_ (i := 18) (N := some 22) (v := ?_) (a' := ?_) #[true, true, true, true, true, true, true, true, true, true, true, true, true, true, true, true, true, true, true, false, false, false, false] rfl rfl (by kernel_rfl) (fun _ _ _ h => h) (Or.inl ⟨by rfl, ?_⟩) ?_ ?_
    rotate_left
    · intro w'
      go_simp
      with_reducible rfl
    rotate_left
    · simp only [Act.put, List.setIfInBounds_toArray, List.set_cons_zero, List.set_cons_succ, i64_w, i32_w]
      rfl
    refine last_ (i := 19) (N := none) #[true, true, true, true, true, true, true, true, true, true, true, true, true, true, true, true, true, true, true, true, false, false, false] rfl rfl (by kernel_rfl) (by decide) (fun K hK => ?_)
    refine skip_ (w1 := ?_) (by rfl) rfl ?_ ?_
    rotate_left
    · go_simp
      rfl
    refine hK.out _ _ ?_
    clear hK K
    refine pure_ (i := 20) (N := some 23) (v := ?_) (a' := ?_) #[true, true, true, true, true, true, true, true, true, true, true, true, true, true, true, true, true, true, true, true, true, false, false] rfl rfl (by kernel_rfl) (fun _ _ _ h => h) (Or.inl ⟨by rfl, ?_⟩) ?_ ?_
    rotate_left
    · intro w'
      go_simp
      with_reducible rfl
    rotate_left
    · simp only [Act.put, List.setIfInBounds_toArray, List.set_cons_zero, List.set_cons_succ, i64_w, i32_w]
      rfl
    refine pure_ (i := 21) (N := some 24) (v := ?_) (a' := ?_) #[true, true, true, true, true, true, true, true, true, true, true, true, true, true, true, true, true, true, true, true, true, true, false] rfl rfl (by kernel_rfl) (fun _ _ _ h => h) (Or.inl ⟨by rfl, ?_⟩) ?_ ?_
    rotate_left
    · intro w'
      go_simp
      with_reducible rfl
    rotate_left
    · simp only [Act.put, List.setIfInBounds_toArray, List.set_cons_zero, List.set_cons_succ, i64_w, i32_w]
      rfl
    refine last_ (i := 22) (N := none) #[true, true, true, true, true, true, true, true, true, true, true, true, true, true, true, true, true, true, true, true, true, true, true] rfl rfl (by kernel_rfl) (by decide) (fun K hK => ?_)
    refine skip_ (w1 := ?_) (by rfl) rfl ?_ ?_
    rotate_left
    · go_simp
      rfl
    refine hK.out _ _ ?_
    clear hK K
    refine done_ (by kernel_rfl) ?_

    go_wp2
    go_end0
    exact ⟨rfl, fin.out _ _ (by simp [setF, hf.out]) (by simp [setF, ho.out])⟩
  · rw [hf] at c5
    rw [ho] at c6
    replace hf := Aside0.mk hf
    replace ho := Aside0.mk ho
    replace h := Aside0.mk h
    go_enter Tryz.func93, Tryz.ntmps93
    go_wp2_with fail
    refine start_ (n := 23) (S := fun w' => w'.cell? ⟨q, 5, none⟩ = some (.bool true) ∧ w'.cell? ⟨q, 6, none⟩ = some (.bool false)) (ds := [19, 22]) #[false, false, false, false, false, false, false, false, false, false, false, false, false, false, false, false, false, false, false, false, false, false, false] (by kernel_rfl) rfl rfl ⟨c5, c6⟩ (fun hHeld => ?_)
    refine pure_ (i := 0) (N := some 4) (v := ?_) (a' := ?_) #[true, false, false, false, false, false, false, false, false, false, false, false, false, false, false, false, false, false, false, false, false, false, false] rfl rfl (by kernel_rfl) (fun _ _ _ h => h) (Or.inl ⟨by rfl, ?_⟩) ?_ ?_
    rotate_left
    · intro w'
      go_simp
      with_reducible rfl
    rotate_left
    · simp only [Act.put, List.setIfInBounds_toArray, List.set_cons_zero, List.set_cons_succ, i64_w, i32_w]
      rfl
    refine pure_ (i := 1) (N := some 5) (v := ?_) (a' := ?_) #[true, true, false, false, false, false, false, false, false, false, false, false, false, false, false, false, false, false, false, false, false, false, false] rfl rfl (by kernel_rfl) (fun _ _ _ h => h) (Or.inl ⟨by rfl, ?_⟩) ?_ ?_
    rotate_left
    · intro w'
      go_simp
      with_reducible rfl
    rotate_left
    · simp only [Act.put, List.setIfInBounds_toArray, List.set_cons_zero, List.set_cons_succ, i64_w, i32_w]
      rfl
    refine pure_ (i := 2) (N := some 6) (v := ?_) (a' := ?_) #[true, true, true, false, false, false, false, false, false, false, false, false, false, false, false, false, false, false, false, false, false, false, false] rfl rfl (by kernel_rfl) (fun _ _ _ h => h) (Or.inl ⟨by rfl, ?_⟩) ?_ ?_
    rotate_left
    · intro w'
      go_simp
      with_reducible rfl
    rotate_left
    · simp only [Act.put, List.setIfInBounds_toArray, List.set_cons_zero, List.set_cons_succ, i64_w, i32_w]
      rfl
    refine pure_ (i := 3) (N := some 7) (v := ?_) (a' := ?_) #[true, true, true, true, false, false, false, false, false, false, false, false, false, false, false, false, false, false, false, false, false, false, false] rfl rfl (by kernel_rfl) (fun _ _ _ h => h) (Or.inl ⟨by rfl, ?_⟩) ?_ ?_
    rotate_left
    · intro w'
      go_simp
      with_reducible rfl
    rotate_left
    · simp only [Act.put, List.setIfInBounds_toArray, List.set_cons_zero, List.set_cons_succ, i64_w, i32_w]
      rfl
    refine pure_ (i := 4) (N := some 8) (v := ?_) (a' := ?_) #[true, true, true, true, true, false, false, false, false, false, false, false, false, false, false, false, false, false, false, false, false, false, false] rfl rfl (by kernel_rfl) (fun _ _ _ h => h) (Or.inl ⟨by rfl, ?_⟩) ?_ ?_
    rotate_left
    · intro w'
      go_simp
      with_reducible rfl
    rotate_left
    · simp only [Act.put, List.setIfInBounds_toArray, List.set_cons_zero, List.set_cons_succ, i64_w, i32_w]
      rfl
    refine pure_ (i := 9) (N := some 13) (v := ?_) (a' := ?_) #[true, true, true, true, true, false, false, false, false, true, false, false, false, false, false, false, false, false, false, false, false, false, false] rfl rfl (by kernel_rfl) (fun _ _ _ h => h) (Or.inl ⟨by rfl, ?_⟩) ?_ ?_
    rotate_left
    · intro w'
      go_simp
      with_reducible rfl
    rotate_left
    · simp only [Act.put, List.setIfInBounds_toArray, List.set_cons_zero, List.set_cons_succ, i64_w, i32_w]
      rfl
    refine pure_ (i := 10) (N := some 14) (v := ?_) (a' := ?_) #[true, true, true, true, true, false, false, false, false, true, true, false, false, false, false, false, false, false, false, false, false, false, false] rfl rfl (by kernel_rfl) (fun _ _ _ h => h) (Or.inl ⟨by rfl, ?_⟩) ?_ ?_
    rotate_left
    · intro w'
      go_simp
      with_reducible rfl
    rotate_left
    · simp only [Act.put, List.setIfInBounds_toArray, List.set_cons_zero, List.set_cons_succ, i64_w, i32_w]
      rfl
    refine pure_ (i := 11) (N := some 15) (v := ?_) (a' := ?_) #[true, true, true, true, true, false, false, false, false, true, true, true, false, false, false, false, false, false, false, false, false, false, false] rfl rfl (by kernel_rfl) (fun _ _ _ h => h) (Or.inl ⟨by rfl, ?_⟩) ?_ ?_
    rotate_left
    · intro w'
      go_simp
      with_reducible rfl
    rotate_left
    · simp only [Act.put, List.setIfInBounds_toArray, List.set_cons_zero, List.set_cons_succ, i64_w, i32_w]
      rfl
    refine take_ (i := 5) (N := some 9) (v := ?_) (a' := ?_) #[true, true, true, true, true, true, false, false, false, true, true, true, false, false, false, false, false, false, false, false, false, false, false] rfl rfl (by kernel_rfl) (fun _ _ _ h => h) (Or.inl ⟨by rfl, ?_⟩) hHeld ?_ ?_
    rotate_left
    · rintro w' ⟨s0, s1⟩
      go_simp
      with_reducible rfl
    rotate_left
    · simp only [Act.put, List.setIfInBounds_toArray, List.set_cons_zero, List.set_cons_succ, i64_w, i32_w]
      rfl
    refine pure_ (i := 6) (N := some 10) (v := ?_) (a' := ?_) #[true, true, true, true, true, true, true, false, false, true, true, true, false, false, false, false, false, false, false, false, false, false, false] rfl rfl (by kernel_rfl) (fun _ _ _ h => h) (Or.inl ⟨by rfl, ?_⟩) ?_ ?_
    rotate_left
    · intro w'
      go_simp
      with_reducible rfl
    rotate_left
    · simp only [Act.put, List.setIfInBounds_toArray, List.set_cons_zero, List.set_cons_succ, i64_w, i32_w]
      rfl
    refine pure_ (i := 7) (N := some 11) (v := undef) (a' := ?_) #[true, true, true, true, true, true, true, true, false, true, true, true, false, false, false, false, false, false, false, false, false, false, false] rfl rfl (by kernel_rfl) (fun _ _ _ h => h) (Or.inr ⟨by rfl, rfl⟩) ?_ ?_
    rotate_left
    · simp only [Act.put, List.setIfInBounds_toArray, List.set_cons_zero, List.set_cons_succ, i64_w, i32_w]
      rfl
    refine pure_ (i := 8) (N := some 12) (v := ?_) (a' := ?_) #[true, true, true, true, true, true, true, true, true, true, true, true, false, false, false, false, false, false, false, false, false, false, false] rfl rfl (by kernel_rfl) (fun _ _ _ h => h) (Or.inl ⟨by rfl, ?_⟩) ?_ ?_
    rotate_left
    · intro w'
      go_simp
      with_reducible rfl
    rotate_left
    · simp only [Act.put, List.setIfInBounds_toArray, List.set_cons_zero, List.set_cons_succ, i64_w, i32_w]
      rfl
    refine take_ (i := 12) (N := some 16) (v := ?_) (a' := ?_) #[true, true, true, true, true, true, true, true, true, true, true, true, true, false, false, false, false, false, false, false, false, false, false] rfl rfl (by kernel_rfl) (fun _ _ _ h => h) (Or.inl ⟨by rfl, ?_⟩) hHeld ?_ ?_
    rotate_left
    · rintro w' ⟨s0, s1⟩
      go_simp
      with_reducible rfl
    rotate_left
    · simp only [Act.put, List.setIfInBounds_toArray, List.set_cons_zero, List.set_cons_succ, i64_w, i32_w]
      rfl
    refine pure_ (i := 13) (N := some 17) (v := ?_) (a' := ?_) #[true, true, true, true, true, true, true, true, true, true, true, true, true, true, false, false, false, false, false, false, false, false, false] rfl rfl (by kernel_rfl) (fun _ _ _ h => h) (Or.inl ⟨by rfl, ?_⟩) ?_ ?_
    rotate_left
    · intro w'
      go_simp
      with_reducible rfl
    rotate_left
    · simp only [Act.put, List.setIfInBounds_toArray, List.set_cons_zero, List.set_cons_succ, i64_w, i32_w]
      rfl
    refine pure_ (i := 14) (N := some 18) (v := ?_) (a' := ?_) #[true, true, true, true, true, true, true, true, true, true, true, true, true, true, true, false, false, false, false, false, false, false, false] rfl rfl (by kernel_rfl) (fun _ _ _ h => h) (Or.inl ⟨by rfl, ?_⟩) ?_ ?_
    rotate_left
    · intro w'
      go_simp
      with_reducible rfl
    rotate_left
    · simp only [Act.put, List.setIfInBounds_toArray, List.set_cons_zero, List.set_cons_succ, i64_w, i32_w]
      rfl
    refine pure_ (i := 15) (N := some 19) (v := ?_) (a' := ?_) #[true, true, true, true, true, true, true, true, true, true, true, true, true, true, true, true, false, false, false, false, false, false, false] rfl rfl (by kernel_rfl) (fun _ _ _ h => h) (Or.inl ⟨by rfl, ?_⟩) ?_ ?_
    rotate_left
    · intro w'
      go_simp
      with_reducible rfl
    rotate_left
    · simp only [Act.put, List.setIfInBounds_toArray, List.set_cons_zero, List.set_cons_succ, i64_w, i32_w]
      rfl
    refine pure_ (i := 16) (N := some 20) (v := ?_) (a' := ?_) #[true, true, true, true, true, true, true, true, true, true, true, true, true, true, true, true, true, false, false, false, false, false, false] rfl rfl (by kernel_rfl) (fun _ _ _ h => h) (Or.inl ⟨by rfl, ?_⟩) ?_ ?_
    rotate_left
    · intro w'
      go_simp
      with_reducible rfl
    rotate_left
    · simp only [Act.put, List.setIfInBounds_toArray, List.set_cons_zero, List.set_cons_succ, i64_w, i32_w]
      rfl
    refine pure_ (i := 17) (N := some 21) (v := ?_) (a' := ?_) #[true, true, true, true, true, true, true, true, true, true, true, true, true, true, true, true, true, true, false, false, false, false, false] rfl rfl (by kernel_rfl) (fun _ _ _ h => h) (Or.inl ⟨by rfl, ?_⟩) ?_ ?_
    rotate_left
    · intro w'
      go_simp
      with_reducible rfl
    rotate_left
    · simp only [Act.put, List.setIfInBounds_toArray, List.set_cons_zero, List.set_cons_succ, i64_w, i32_w]
      rfl
    refine pure_ (i := 18) (N := some 22) (v := ?_) (a' := ?_) #[true, true, true, true, true, true, true, true, true, true, true, true, true, true, true, true, true, true, true, false, false, false, false] rfl rfl (by kernel_rfl) (fun _ _ _ h => h) (Or.inl ⟨by rfl, ?_⟩) ?_ ?_
    rotate_left
    · intro w'
      go_simp
      with_reducible rfl
    rotate_left
    · simp only [Act.put, List.setIfInBounds_toArray, List.set_cons_zero, List.set_cons_succ, i64_w, i32_w]
      rfl
    refine last_ (i := 19) (N := none) #[true, true, true, true, true, true, true, true, true, true, true, true, true, true, true, true, true, true, true, true, false, false, false] rfl rfl (by kernel_rfl) (by decide) (fun K hK => ?_)
    refine skip_ (w1 := ?_) (by rfl) rfl ?_ ?_
    rotate_left
    · go_simp
      rfl
    refine hK.out _ _ ?_
    clear hK K
    refine pure_ (i := 20) (N := some 23) (v := ?_) (a' := ?_) #[true, true, true, true, true, true, true, true, true, true, true, true, true, true, true, true, true, true, true, true, true, false, false] rfl rfl (by kernel_rfl) (fun _ _ _ h => h) (Or.inl ⟨by rfl, ?_⟩) ?_ ?_
    rotate_left
    · intro w'
      go_simp
      with_reducible rfl
    rotate_left
    · simp only [Act.put, List.setIfInBounds_toArray, List.set_cons_zero, List.set_cons_succ, i64_w, i32_w]
      rfl
    refine pure_ (i := 21) (N := some 24) (v := ?_) (a' := ?_) #[true, true, true, true, true, true, true, true, true, true, true, true, true, true, true, true, true, true, true, true, true, true, false] rfl rfl (by kernel_rfl) (fun _ _ _ h => h) (Or.inl ⟨by rfl, ?_⟩) ?_ ?_
    rotate_left
    · intro w'
      go_simp
      with_reducible rfl
    rotate_left
    · simp only [Act.put, List.setIfInBounds_toArray, List.set_cons_zero, List.set_cons_succ, i64_w, i32_w]
      rfl
    refine last_ (i := 22) (N := none) #[true, true, true, true, true, true, true, true, true, true, true, true, true, true, true, true, true, true, true, true, true, true, true] rfl rfl (by kernel_rfl) (by decide) (fun K hK => ?_)
    refine skip_ (w1 := ?_) (by rfl) rfl ?_ ?_
    rotate_left
    · go_simp
      rfl
    refine hK.out _ _ ?_
    clear hK K
    refine done_ (by kernel_rfl) ?_

    go_wp2
    go_end0
    exact ⟨rfl, fin.out _ _ (by simp [setF, hf.out]) (by simp [setF, ho.out])⟩
  · rw [hf] at c5
    rw [ho] at c6
    replace hf := Aside0.mk hf
    replace ho := Aside0.mk ho
    replace h := Aside0.mk h
    go_enter Tryz.func93, Tryz.ntmps93
    go_wp2_with fail
    refine start_ (n := 23) (S := fun w' => w'.cell? ⟨q, 5, none⟩ = some (.bool true) ∧ w'.cell? ⟨q, 6, none⟩ = some (.bool true)) (ds := [19, 22]) #[false, false, false, false, false, false, false, false, false, false, false, false, false, false, false, false, false, false, false, false, false, false, false] (by kernel_rfl) rfl rfl ⟨c5, c6⟩ (fun hHeld => ?_)
    refine pure_ (i := 0) (N := some 4) (v := ?_) (a' := ?_) #[true, false, false, false, false, false, false, false, false, false, false, false, false, false, false, false, false, false, false, false, false, false, false] rfl rfl (by kernel_rfl) (fun _ _ _ h => h) (Or.inl ⟨by rfl, ?_⟩) ?_ ?_
    rotate_left
    · intro w'
      go_simp
      with_reducible rfl
    rotate_left
    · simp only [Act.put, List.setIfInBounds_toArray, List.set_cons_zero, List.set_cons_succ, i64_w, i32_w]
      rfl
    refine pure_ (i := 1) (N := some 5) (v := ?_) (a' := ?_) #[true, true, false, false, false, false, false, false, false, false, false, false, false, false, false, false, false, false, false, false, false, false, false] rfl rfl (by kernel_rfl) (fun _ _ _ h => h) (Or.inl ⟨by rfl, ?_⟩) ?_ ?_
    rotate_left
    · intro w'
      go_simp
      with_reducible rfl
    rotate_left
    · simp only [Act.put, List.setIfInBounds_toArray, List.set_cons_zero, List.set_cons_succ, i64_w, i32_w]
      rfl
    refine pure_ (i := 2) (N := some 6) (v := ?_) (a' := ?_) #[true, true, true, false, false, false, false, false, false, false, false, false, false, false, false, false, false, false, false, false, false, false, false] rfl rfl (by kernel_rfl) (fun _ _ _ h => h) (Or.inl ⟨by rfl, ?_⟩) ?_ ?_
    rotate_left
    · intro w'
      go_simp
      with_reducible rfl
    rotate_left
    · simp only [Act.put, List.setIfInBounds_toArray, List.set_cons_zero, List.set_cons_succ, i64_w, i32_w]
      rfl
    refine pure_ (i := 3) (N := some 7) (v := ?_) (a' := ?_) #[true, true, true, true, false, false, false, false, false, false, false, false, false, false, false, false, false, false, false, false, false, false, false] rfl rfl (by kernel_rfl) (fun _ _ _ h => h) (Or.inl ⟨by rfl, ?_⟩) ?_ ?_
    rotate_left
    · intro w'
      go_simp
      with_reducible rfl
    rotate_left
    · simp only [Act.put, List.setIfInBounds_toArray, List.set_cons_zero, List.set_cons_succ, i64_w, i32_w]
      rfl
    refine pure_ (i := 4) (N := some 8) (v := ?_) (a' := ?_) #[true, true, true, true, true, false, false, false, false, false, false, false, false, false, false, false, false, false, false, false, false, false, false] rfl rfl (by kernel_rfl) (fun _ _ _ h => h) (Or.inl ⟨by rfl, ?_⟩) ?_ ?_
    rotate_left
    · intro w'
      go_simp
      with_reducible rfl
    rotate_left
    · simp only [Act.put, List.setIfInBounds_toArray, List.set_cons_zero, List.set_cons_succ, i64_w, i32_w]
      rfl
    refine pure_ (i := 9) (N := some 13) (v := ?_) (a' := ?_) #[true, true, true, true, true, false, false, false, false, true, false, false, false, false, false, false, false, false, false, false, false, false, false] rfl rfl (by kernel_rfl) (fun _ _ _ h => h) (Or.inl ⟨by rfl, ?_⟩) ?_ ?_
    rotate_left
    · intro w'
      go_simp
      with_reducible rfl
    rotate_left
    · simp only [Act.put, List.setIfInBounds_toArray, List.set_cons_zero, List.set_cons_succ, i64_w, i32_w]
      rfl
    refine pure_ (i := 10) (N := some 14) (v := ?_) (a' := ?_) #[true, true, true, true, true, false, false, false, false, true, true, false, false, false, false, false, false, false, false, false, false, false, false] rfl rfl (by kernel_rfl) (fun _ _ _ h => h) (Or.inl ⟨by rfl, ?_⟩) ?_ ?_
    rotate_left
    · intro w'
      go_simp
      with_reducible rfl
    rotate_left
    · simp only [Act.put, List.setIfInBounds_toArray, List.set_cons_zero, List.set_cons_succ, i64_w, i32_w]
      rfl
    refine pure_ (i := 11) (N := some 15) (v := ?_) (a' := ?_) #[true, true, true, true, true, false, false, false, false, true, true, true, false, false, false, false, false, false, false, false, false, false, false] rfl rfl (by kernel_rfl) (fun _ _ _ h => h) (Or.inl ⟨by rfl, ?_⟩) ?_ ?_
    rotate_left
    · intro w'
      go_simp
      with_reducible rfl
    rotate_left
    · simp only [Act.put, List.setIfInBounds_toArray, List.set_cons_zero, List.set_cons_succ, i64_w, i32_w]
      rfl
    refine take_ (i := 5) (N := some 9) (v := ?_) (a' := ?_) #[true, true, true, true, true, true, false, false, false, true, true, true, false, false, false, false, false, false, false, false, false, false, false] rfl rfl (by kernel_rfl) (fun _ _ _ h => h) (Or.inl ⟨by rfl, ?_⟩) hHeld ?_ ?_
    rotate_left
    · rintro w' ⟨s0, s1⟩
      go_simp
      with_reducible rfl
    rotate_left
    · simp only [Act.put, List.setIfInBounds_toArray, List.set_cons_zero, List.set_cons_succ, i64_w, i32_w]
      rfl
    refine pure_ (i := 6) (N := some 10) (v := ?_) (a' := ?_) #[true, true, true, true, true, true, true, false, false, true, true, true, false, false, false, false, false, false, false, false, false, false, false] rfl rfl (by kernel_rfl) (fun _ _ _ h => h) (Or.inl ⟨by rfl, ?_⟩) ?_ ?_
    rotate_left
    · intro w'
      go_simp
      with_reducible rfl
    rotate_left
    · simp only [Act.put, List.setIfInBounds_toArray, List.set_cons_zero, List.set_cons_succ, i64_w, i32_w]
      rfl
    refine pure_ (i := 7) (N := some 11) (v := undef) (a' := ?_) #[true, true, true, true, true, true, true, true, false, true, true, true, false, false, false, false, false, false, false, false, false, false, false] rfl rfl (by kernel_rfl) (fun _ _ _ h => h) (Or.inr ⟨by rfl, rfl⟩) ?_ ?_
    rotate_left
    · simp only [Act.put, List.setIfInBounds_toArray, List.set_cons_zero, List.set_cons_succ, i64_w, i32_w]
      rfl
    refine pure_ (i := 8) (N := some 12) (v := ?_) (a' := ?_) #[true, true, true, true, true, true, true, true, true, true, true, true, false, false, false, false, false, false, false, false, false, false, false] rfl rfl (by kernel_rfl) (fun _ _ _ h => h) (Or.inl ⟨by rfl, ?_⟩) ?_ ?_
    rotate_left
    · intro w'
      go_simp
      with_reducible rfl
    rotate_left
    · simp only [Act.put, List.setIfInBounds_toArray, List.set_cons_zero, List.set_cons_succ, i64_w, i32_w]
      rfl
    refine take_ (i := 12) (N := some 16) (v := ?_) (a' := ?_) #[true, true, true, true, true, true, true, true, true, true, true, true, true, false, false, false, false, false, false, false, false, false, false] rfl rfl (by kernel_rfl) (fun _ _ _ h => h) (Or.inl ⟨by rfl, ?_⟩) hHeld ?_ ?_
    rotate_left
    · rintro w' ⟨s0, s1⟩
      go_simp
      with_reducible rfl
    rotate_left
    · simp only [Act.put, List.setIfInBounds_toArray, List.set_cons_zero, List.set_cons_succ, i64_w, i32_w]
      rfl
    refine pure_ (i := 13) (N := some 17) (v := ?_) (a' := ?_) #[true, true, true, true, true, true, true, true, true, true, true, true, true, true, false, false, false, false, false, false, false, false, false] rfl rfl (by kernel_rfl) (fun _ _ _ h => h) (Or.inl ⟨by rfl, ?_⟩) ?_ ?_
    rotate_left
    · intro w'
      go_simp
      with_reducible rfl
    rotate_left
    · simp only [Act.put, List.setIfInBounds_toArray, List.set_cons_zero, List.set_cons_succ, i64_w, i32_w]
      rfl
    refine pure_ (i := 14) (N := some 18) (v := undef) (a' := ?_) #[true, true, true, true, true, true, true, true, true, true, true, true, true, true, true, false, false, false, false, false, false, false, false] rfl rfl (by kernel_rfl) (fun _ _ _ h => h) (Or.inr ⟨by rfl, rfl⟩) ?_ ?_
    rotate_left
    · simp only [Act.put, List.setIfInBounds_toArray, List.set_cons_zero, List.set_cons_succ, i64_w, i32_w]
      rfl
    refine pure_ (i := 15) (N := some 19) (v := undef) (a' := ?_) #[true, true, true, true, true, true, true, true, true, true, true, true, true, true, true, true, false, false, false, false, false, false, false] rfl rfl (by kernel_rfl) (fun _ _ _ h => h) (Or.inr ⟨by rfl, rfl⟩) ?_ ?_
    rotate_left
    · simp only [Act.put, List.setIfInBounds_toArray, List.set_cons_zero, List.set_cons_succ, i64_w, i32_w]
      rfl
    refine pure_ (i := 16) (N := some 20) (v := ?_) (a' := ?_) #[true, true, true, true, true, true, true, true, true, true, true, true, true, true, true, true, true, false, false, false, false, false, false] rfl rfl (by kernel_rfl) (fun _ _ _ h => h) (Or.inl ⟨by rfl, ?_⟩) ?_ ?_
    rotate_left
    · intro w'
      go_simp
      with_reducible rfl
    rotate_left
    · simp only [Act.put, List.setIfInBounds_toArray, List.set_cons_zero, List.set_cons_succ, i64_w, i32_w]
      rfl
    refine pure_ (i := 17) (N := some 21) (v := ?_) (a' := ?_) #[true, true, true, true, true, true, true, true, true, true, true, true, true, true, true, true, true, true, false, false, false, false, false] rfl rfl (by kernel_rfl) (fun _ _ _ h => h) (Or.inl ⟨by rfl, ?_⟩) ?_ ?_
    rotate_left
    · intro w'
      go_simp
      with_reducible rfl
    rotate_left
    · simp only [Act.put, List.setIfInBounds_toArray, List.set_cons_zero, List.set_cons_succ, i64_w, i32_w]
      rfl
    refine pure_ (i := 18) (N := some 22) (v := ?_) (a' := ?_) #[true, true, true, true, true, true, true, true, true, true, true, true, true, true, true, true, true, true, true, false, false, false, false] rfl rfl (by kernel_rfl) (fun _ _ _ h => h) (Or.inl ⟨by rfl, ?_⟩) ?_ ?_
    rotate_left
    · intro w'
      go_simp
      with_reducible rfl
    rotate_left
    · simp only [Act.put, List.setIfInBounds_toArray, List.set_cons_zero, List.set_cons_succ, i64_w, i32_w]
      rfl
    refine last_ (i := 19) (N := none) #[true, true, true, true, true, true, true, true, true, true, true, true, true, true, true, true, true, true, true, true, false, false, false] rfl rfl (by kernel_rfl) (by decide) (fun K hK => ?_)
    refine skip_ (w1 := ?_) (by rfl) rfl ?_ ?_
    rotate_left
    · go_simp
      rfl
    refine hK.out _ _ ?_
    clear hK K
    refine pure_ (i := 20) (N := some 23) (v := ?_) (a' := ?_) #[true, true, true, true, true, true, true, true, true, true, true, true, true, true, true, true, true, true, true, true, true, false, false] rfl rfl (by kernel_rfl) (fun _ _ _ h => h) (Or.inl ⟨by rfl, ?_⟩) ?_ ?_
    rotate_left
    · intro w'
      go_simp
      with_reducible rfl
    rotate_left
    · simp only [Act.put, List.setIfInBounds_toArray, List.set_cons_zero, List.set_cons_succ, i64_w, i32_w]
      rfl
    refine pure_ (i := 21) (N := some 24) (v := ?_) (a' := ?_) #[true, true, true, true, true, true, true, true, true, true, true, true, true, true, true, true, true, true, true, true, true, true, false] rfl rfl (by kernel_rfl) (fun _ _ _ h => h) (Or.inl ⟨by rfl, ?_⟩) ?_ ?_
    rotate_left
    · intro w'
      go_simp
      with_reducible rfl
    rotate_left
    · simp only [Act.put, List.setIfInBounds_toArray, List.set_cons_zero, List.set_cons_succ, i64_w, i32_w]
      rfl
    refine last_ (i := 22) (N := none) #[true, true, true, true, true, true, true, true, true, true, true, true, true, true, true, true, true, true, true, true, true, true, true] rfl rfl (by kernel_rfl) (by decide) (fun K hK => ?_)
    refine skip_ (w1 := ?_) (by rfl) rfl ?_ ?_
    rotate_left
    · go_simp
      rfl
    refine hK.out _ _ ?_
    clear hK K
    refine done_ (by kernel_rfl) ?_

    go_wp2
    go_end0
    exact ⟨rfl, fin.out _ _ (by simp [setF, hf.out]) (by simp [setF, ho.out])⟩
end Go.Proofs.YthaoedfalkebbaaGreat
namespace Go.Proofs.YthaoedfalkebbaaGreat
open Go.RowKit Go.Maps Go.Sort Go.Lib Go.Shelf Go.Proofs.YthaoedfalkebbaaGreatW.PrintWords Go.Proofs.YthaoedfalkebbaaGreatW.PrintLast Go.Proofs.YthaoedfalkebbaaGreatW.PrintMore
set_option linter.unusedVariables false
set_option linter.unusedSimpArgs false
set_option linter.unusedSectionVars false
def encQ (q : Nat) : List Value := [ptr q]
theorem encQ_one (x : Nat) : ∀ u ∈ encQ x, u.oneCell' = true := fun u hu => by simp [encQ] at hu; rw [hu]; rfl
def dQ : Kd Nat := Kd.flat encQ 1 (fun _ => rfl) encQ_one
theorem info99 : (Tryz.prog.info? 99).map (fun i => (i.zero, i.size, i.bytes)) = some (some (.pointer none), 1, 8) := by kernel_rfl
section
variable {ops : Array Oper} {o : Oper} {Q : Exit → Act → World → Prop} {rest : List Oper} {a : Act}
theorem appQ {w W : World} {z : Nat} {s x : Operand} {v : Value} {xs : List Nat} {y : Nat} {ok : Nat → Prop} (hgd : o.guard = none) (ho : o.op = .call { callee := .builtin .append, args := #[s, x], argTypes := #[111, 111] })
    (hs : a.eval s = v) (hx : a.eval x = .slice (some ⟨z, 0, none⟩) 1 1) (HO : dQ.R 99 W w.heap.size ok v xs) (HB : Below w.heap.size w W) (hl : xs.length ≤ 65536) (hz : W.heap.size = z) (hfresh : ∀ k, W.heap.size ≤ k → ok k)
    (h : ∀ v1 w1, dQ.R 99 w1 w.heap.size ok v1 (xs ++ [y]) → Below w.heap.size w w1 → W.grownBy w1 v.ownBlock → wpList Tryz.prog ops Q rest (a.put o.dst v1) w1) : wpList Tryz.prog ops Q (o :: rest) a (W.alloc (.cells #[ptr y] 99)) := by
  subst hz
  refine Kd.R_append dQ (w0 := w) w.heap.size hgd s x 111 99 _ 8 ho Tryz.underlying111 info99 rfl (by decide) (by decide) v xs y [ptr y] ok (fun _ => False) hs hx rfl (fun _ hk => hk.elim) hfresh HO HB HB.size (by omega) ?_
  intro v1 w1 h1 h2 h3 _
  exact h v1 w1 h1 h2 h3
end
/-- a closure that tells of transactions -/
def PredT (w : World) (g : Nat) (lb : Array Value) (Q : Int → Nat) (so : Tx → Bool) (xs : List Tx) : Prop :=
  ∀ (W : World) (o : Tx), o ∈ xs → Below w.heap.size w W → Calls Tryz.prog g (#[ptr (Q o.num)] ++ lb) W fun e w' => e = .returned (.bool (so o)) ∧ Below W.heap.size W w'
def selQ (Q : Int → Nat) (t : Tx) (so : Tx → Bool) (l : List Tx) : List Nat := (l.filter (fun o => concB t o && so o)).map (fun o => Q o.num)
theorem selQ_le (Q : Int → Nat) (t : Tx) (so : Tx → Bool) (l : List Tx) : (selQ Q t so l).length ≤ l.length := by unfold selQ; rw [List.length_map]; exact List.length_filter_le _ _
def OtJ (w : World) (l : Loc) (t : Tx) (so : Tx → Bool) (txs : List Tx) (v : Value) (wr : World) : Prop :=
  ∃ vis rem : List Tx, (vis ++ rem).Perm txs ∧ RngT wr l.mb w.heap.size txs.length (txL l.Q txs) (txL l.Q rem) ∧ dQ.R 99 wr w.heap.size (fun k => w.heap.size < k) v (selQ l.Q t so vis) ∧ Below w.heap.size w wr
set_option maxHeartbeats 8000000 in
set_option maxRecDepth 100000 in
theorem others_s (base : Nat) (l : Loc) (S : Sm St) (t : Tx) (so : Tx → Bool) (g : Nat) (lb : Array Value) (eg : ∀ args w, (callFunc g args).run Tryz.prog w = .ok (.enter g args) w) (w : World) (h : Pm w base l S) (ht : t ∈ S.txs) (hp : PredT w g lb l.Q so S.txs) :
    Calls Tryz.prog 44 #[ptr l.p, ptr (l.Q t.num), .func (.func g) #[] lb] w fun e w' => ∃ v vis, e = .returned v ∧ vis.Perm S.txs ∧ dQ.R 99 w' w.heap.size (fun _ => True) v (selQ l.Q t so vis) ∧ Below w.heap.size w w' := by
  obtain ⟨_, _, _, _, _, _, _, c7, _, _⟩ := h.cells
  have hfew := h.few
  have hblt : l.mb < w.heap.size := h.tab.lt
  have htx := fun t (ht : t ∈ S.txs) => h.tx t ht
  have hqq := fun o (ho : o ∈ S.txs) => h.q ht ho
  obtain ⟨w2, hrun, hRg, hg2, hs2⟩ := Tab.range (t := 86) keyN Tryz.underlying86 h.tab
  have HT : ∀ W, Below w.heap.size w W → ∀ o ∈ S.txs, ∃ v, W.heap[l.Q o.num]? = some (txCells o v) := fun W B o ho => by
    obtain ⟨v, hv, _⟩ := htx o ho
    exact ⟨v, (B.block _ (Array.getElem?_eq_some_iff.1 hv).1).trans hv⟩
  have CC : ∀ W, Below w.heap.size w W → ∀ o ∈ S.txs, Calls Tryz.prog 85 #[ptr (l.Q t.num), ptr (l.Q o.num)] W fun e w' => e = .returned (.bool (concB t o)) ∧ ∃ n, w' = W.drewN n := fun W B o ho => by
    obtain ⟨v1, h1⟩ := HT W B t ht
    obtain ⟨v2, h2⟩ := HT W B o ho
    exact concurrent_c _ _ t o v1 v2 W h1 h2 (hqq o ho)
  clear h htx hqq HT
  generalize l.Q t.num = qt at CC ⊢
  replace CC := Aside0.mk CC
  replace hp := Aside0.mk hp
  go_enter Tryz.func44, Tryz.ntmps44
  go_wp2_with fail
  go_loopw [7] (fun v wr => OtJ w l t so S.txs v wr) (fun _ wr => wr.rangeLeft l.mb w.heap.size)
  case atStart =>
    exact ⟨[], S.txs, List.Perm.refl _, hRg, Kd.R_nil _ _ _ _ _, (Below.refl _ w).grown hg2 (Nat.le_refl _) (by simp)⟩
  case round =>
    obtain ⟨vis, rem, hpm, hr, hv, hB⟩ := hrel
    have hlenp := hpm.length_eq
    rw [List.length_append] at hlenp
    rcases hr.next keyN valQ 0 with ⟨hnil, hrun1⟩ | ⟨a, sv, w3, hmem, hok, hrun1, hr3, hlt, hg3, hs3, hent⟩
    · have hrem : rem = [] := by
        cases rem with
        | nil => rfl
        | cons t rem => unfold txL at hnil; cases hnil
      subst hrem
      rw [List.append_nil] at hpm
      clear hnil
      have F : ∃ vis : List Tx, vis.Perm S.txs ∧ dQ.R 99 wr w.heap.size (fun _ => True) u7 (selQ l.Q t so vis) ∧ Below w.heap.size w wr := ⟨vis, hpm, ⟨fun _ _ => trivial, hv.2⟩, hB⟩
      replace F := Aside0.mk F
      clear hr hv hpm
      go_wp2
      go_ret
      obtain ⟨vis, f1, f2, f3⟩ := F.out
      exact ⟨_, vis, rfl, f1, f2, f3⟩
    · obtain ⟨o, ho, rfl, rfl⟩ := txL_mem hmem
      have hom : o ∈ S.txs := hpm.mem_iff.1 (List.mem_append_right _ ho)
      have hB3 : Below w.heap.size w w3 := hB.grown hg3 hB.size (fun k e => by injection e with e; omega)
      have hv3 : dQ.R 99 w3 w.heap.size (fun k => w.heap.size < k) u7 (selQ l.Q t so vis) := Kd.R_grown hv hg3 (fun k hk e => by injection e with e; omega)
      have hrl : w.heap.size < wr.heap.size := hr.lt
      have C3 := CC.out w3 hB3 o hom
      rw [txL_filter] at hr3
      have hpn := tx_next (apart_txL hr.apart) hpm ho
      have hvl := selQ_le l.Q t so vis
      have hlen : (selQ l.Q t so vis).length ≤ 65536 := by omega
      unfold mkN mvQ at hrun1 hent
      have noadd : (concB t o && so o) = false → ∀ W, Below w3.heap.size w3 W → OtJ w l t so S.txs u7 W ∧ W.rangeLeft l.mb w.heap.size < wr.rangeLeft l.mb w.heap.size := by
        intro hx W BW
        obtain ⟨hr7, el2⟩ := hr3.kept (grown_of_below BW none) (by simp) (by simp)
        refine ⟨⟨vis ++ [o], _, hpn, hr7, ?_, below_then hB3 hB3.size BW⟩, by rw [el2]; exact hlt⟩
        have : selQ l.Q t so (vis ++ [o]) = selQ l.Q t so vis := by unfold selQ; rw [List.filter_append]; simp [hx]
        rw [this]
        exact Kd.R_below hv3 BW
      have addd : (concB t o && so o) = true → ∀ W v1 w6, Below w3.heap.size w3 W → dQ.R 99 w6 w.heap.size (fun k => w.heap.size < k) v1 (selQ l.Q t so vis ++ [l.Q o.num]) → Below w.heap.size w w6 → W.grownBy w6 u7.ownBlock → OtJ w l t so S.txs v1 w6 ∧ w6.rangeLeft l.mb w.heap.size < wr.rangeLeft l.mb w.heap.size := by
        intro hx W v1 w6 BW H6 B6 G6
        obtain ⟨hr7, el2⟩ := hr3.kept (grown_of_below BW none) (by simp) (by simp)
        have hbase0 := Kd.R_base hv3
        obtain ⟨hr8, el3⟩ := hr7.kept G6 (fun e => by have := hbase0 _ e.symm; omega) (fun e => by have := hv3.1 _ e.symm; omega)
        refine ⟨⟨vis ++ [o], _, hpn, hr8, ?_, B6⟩, by rw [el3, el2]; exact hlt⟩
        have : selQ l.Q t so (vis ++ [o]) = selQ l.Q t so vis ++ [l.Q o.num] := by unfold selQ; rw [List.filter_append]; simp [hx]
        rw [this]
        exact H6
      have hws3 : w.heap.size < w3.heap.size := by omega
      clear hmem hok hr hv hpn
      replace noadd := Aside0.mk noadd
      replace addd := Aside0.mk addd
      have HP := hp.out
      go_wp2_with fail
      refine C3.mono ?_
      rintro e W ⟨rfl, n, hWn⟩
      have BW : Below w3.heap.size w3 W := by rw [hWn]; exact (Below.refl _ w3).grown (drewNG w3 n) (Nat.le_refl _) (by simp)
      have hWs : W.heap.size = w3.heap.size := by rw [hWn]; rfl
      have P := HP W o hom (below_then hB3 hB3.size BW)
      have hv4 := Kd.R_below hv3 BW
      have hB4 := below_then hB3 hB3.size BW
      clear hWn C3 HP hv3 hrun1 hent hr3
      cases hcb : concB t o with
      | false =>
        have F := noadd.out (by rw [hcb]; rfl) W BW
        clear noadd addd P hv4
        replace F := Aside0.mk F
        replace hcb := Aside0.mk hcb
        go_wp2
        exact F.out
      | true =>
        cases hso : so o with
        | false =>
          rw [hso] at P
          have F := noadd.out (by rw [hcb, hso]; rfl)
          clear noadd addd hv4
          replace F := Aside0.mk F
          replace hcb := Aside0.mk hcb
          replace hso := Aside0.mk hso
          go_wp2_with (go_at_fn g; refine P.mono ?_; rintro e W5 ⟨rfl, B5⟩)
          exact F.out W5 (below_then BW BW.size B5)
        | true =>
          rw [hso] at P
          have F := addd.out (by rw [hcb, hso]; rfl)
          clear noadd addd
          replace F := Aside0.mk F
          replace hcb := Aside0.mk hcb
          replace hso := Aside0.mk hso
          go_wp2_with fail
          go_at_fn g
          refine P.mono ?_
          rintro e W5 ⟨rfl, B5⟩
          have hv5 := Kd.R_below hv4 B5
          have hB5 := below_then hB4 hB4.size B5
          have B35 := below_then BW BW.size B5
          have hs5 := B5.size
          clear hv4 P
          go_wp2_with (at_builtin; refine appQ (v := u7) rfl rfl rfl rfl hv5 hB5 hlen rfl (fun k hk => by omega) ?_; intro v1 w6 H6 B6 G6)
          exact F.out W5 _ _ B35 H6 B6 G6
end Go.Proofs.YthaoedfalkebbaaGreat
