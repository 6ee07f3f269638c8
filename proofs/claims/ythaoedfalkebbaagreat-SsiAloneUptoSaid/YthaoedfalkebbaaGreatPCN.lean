/- Cut by a program out of the seat's texts (ZH ZJ ZK RA RB RC RD RE RF RG): what the theorem needs, one behind the other. -/
import Derived.Test.YthaoedfalkebbaaGreatPCM
import Derived.Test.YthaoedfalkebbaaGreatPCL
namespace Go.Proofs.YthaoedfalkebbaaGreat
open Go.RowKit Go.Maps Go.Sort Go.Lib Go.Shelf Go.Proofs.YthaoedfalkebbaaGreatW.PrintWords Go.Proofs.YthaoedfalkebbaaGreatW.PrintLast Go.Proofs.YthaoedfalkebbaaGreatW.PrintMore
set_option linter.unusedVariables false
set_option linter.unusedSimpArgs false
set_option linter.unusedSectionVars false
def Mgr (base : Nat) (F : Nat → Prop) (p : Nat) (S : Sm St) (W : World) : Prop := ∃ l : Loc, l.p = p ∧ l.F = F ∧ Pm W base l S
/-- what an operation of a manager leaves of the rest -/
structure Keep (base : Nat) (W W' : World) : Prop where
  below : Below base W W'
  size : W.heap.size ≤ W'.heap.size
  block : ∀ (k : Nat) (c : Array Value) (e : TypeId) (s : Nat × Nat), W.heap[k]? = some (.cells c e s) → e ≠ 90 → e ≠ 150 → e ≠ 101 → W'.heap[k]? = some (.cells c e s)
theorem StQ.keep {base : Nat} {l : Loc} {S S' : Sm St} {W W' : World} (h : StQ base l S S' W W') (P : Pm W base l S) (hb : base ≤ W.heap.size) : Keep base W W' := by
  refine ⟨h.below P hb, ?_, ?_⟩
  · obtain ⟨l', _, _, _, F, _⟩ := h
    exact F.size
  · intro k c e s hk h1 h2 h3
    obtain ⟨l', _, _, _, F, _⟩ := h
    refine F.block k _ (fun ho => ?_) hk
    rcases ho with rfl | rfl | rfl | rfl | rfl | ⟨t, ht, rfl⟩
    · rw [P.head] at hk
      unfold hdCells at hk
      injection hk with hk
      injection hk with _ hk _
      exact h1 hk.symm
    · obtain ⟨es1, c1, hmap⟩ := P.tab.isMap
      rw [hmap] at hk; cases hk
    · obtain ⟨D, ⟨es, clock, hlm, _⟩, _⟩ := P.locks.tab
      rw [hlm] at hk; cases hk
    · obtain ⟨cr, sr, hrr⟩ := P.reads.is55
      rw [hrr] at hk
      injection hk with hk
      injection hk with _ hk _
      exact h2 hk.symm
    · obtain ⟨⟨L, M, _, _⟩, _⟩ := P.reads
      obtain ⟨e3', c3', hrm⟩ := M.tab.isMap
      rw [hrm] at hk; cases hk
    · obtain ⟨v, hv, _⟩ := P.tx t ht
      rw [hv] at hk
      unfold txCells at hk
      injection hk with hk
      injection hk with _ hk _
      exact h3 hk.symm
theorem Mgr.size {base p : Nat} {F : Nat → Prop} {S : Sm St} {W : World} (h : Mgr base F p S W) : base ≤ W.heap.size := by
  obtain ⟨l, _, _, P⟩ := h
  have := P.low.1
  have := P.lts _ (.inl rfl)
  omega
theorem opn_at {W : World} {A : Option Addr} {xs : List Opn} (h : dOn.C W A xs.length xs) (k : Nat) (hk : k < xs.length) :
    ∃ ad, A = some ad ∧ W.cell? (ad.add (k * 6)) = some (.int .i64 xs[k].kind) ∧ W.cell? ⟨(ad.add (k * 6)).block, (ad.add (k * 6)).off + 1, none⟩ = some (.int .i64 xs[k].tx) ∧ W.cell? ⟨(ad.add (k * 6)).block, (ad.add (k * 6)).off + 2, none⟩ = some (.string xs[k].at_.1) ∧
      W.cell? ⟨(ad.add (k * 6)).block, (ad.add (k * 6)).off + 3, none⟩ = some (.string xs[k].at_.2) ∧ W.cell? ⟨(ad.add (k * 6)).block, (ad.add (k * 6)).off + 4, none⟩ = some (.string xs[k].to_) ∧ W.cell? ⟨(ad.add (k * 6)).block, (ad.add (k * 6)).off + 5, none⟩ = some (.int .i64 xs[k].last) := by
  obtain ⟨ad, cs, rfl, hcl, hcs, hcc⟩ := Kd.C_get h (⟨0, 0, (⟨#[]⟩, ⟨#[]⟩), ⟨#[]⟩, 0⟩ : Opn) (k : Int) (by omega) (by omega)
  have e : xs.getD (k : Int).toNat (⟨0, 0, (⟨#[]⟩, ⟨#[]⟩), ⟨#[]⟩, 0⟩ : Opn) = xs[k] := by rw [Int.toNat_natCast, List.getD_eq_getElem?_getD, List.getElem?_eq_getElem hk]; rfl
  rw [e] at hcs
  obtain rfl : cs = encOn xs[k] := hcs
  refine ⟨ad, rfl, hcc 0 _ rfl, ?_, ?_, ?_, ?_, ?_⟩ <;> rw [← add_field _ _ _ (by omega)]
  · exact hcc 1 _ rfl
  · exact hcc 2 _ rfl
  · exact hcc 3 _ rfl
  · exact hcc 4 _ rfl
  · exact hcc 5 _ rfl
abbrev boxOn (o : Opn) : Obj := .cells #[.int .i64 o.kind, .int .i64 o.tx, .string o.at_.1, .string o.at_.2, .string o.to_, .int .i64 o.last] 36 (0, 0)
theorem opn_cells {W : World} {g : Nat} {o : Opn} (h : W.heap[g]? = some (boxOn o)) :
    W.cell? ⟨g, 0, none⟩ = some (.int .i64 o.kind) ∧ W.cell? ⟨g, 1, none⟩ = some (.int .i64 o.tx) ∧ W.cell? ⟨g, 2, none⟩ = some (.string o.at_.1) ∧ W.cell? ⟨g, 3, none⟩ = some (.string o.at_.2) ∧ W.cell? ⟨g, 4, none⟩ = some (.string o.to_) ∧ W.cell? ⟨g, 5, none⟩ = some (.int .i64 o.last) :=
  ⟨cell_of_row W g 0 _ 36 (0, 0) h, cell_of_row W g 1 _ 36 (0, 0) h, cell_of_row W g 2 _ 36 (0, 0) h, cell_of_row W g 3 _ 36 (0, 0) h, cell_of_row W g 4 _ 36 (0, 0) h, cell_of_row W g 5 _ 36 (0, 0) h⟩
end Go.Proofs.YthaoedfalkebbaaGreat
namespace Go.Proofs.YthaoedfalkebbaaGreat
open Go.RowKit Go.Maps Go.Sort Go.Lib Go.Shelf Go.Proofs.YthaoedfalkebbaaGreatW.PrintWords Go.Proofs.YthaoedfalkebbaaGreatW.PrintLast Go.Proofs.YthaoedfalkebbaaGreatW.PrintMore
set_option linter.unusedVariables false
set_option linter.unusedSimpArgs false
set_option linter.unusedSectionVars false
section
variable {ρ : Type} {I : RdI ρ} {S : Sm ρ}
theorem put_caps (t : Tx) (so : Tx → Bool) (out : Bool) : (S.put I t so out).2.caps = S.caps := by
  unfold Sm.put
  split <;> rfl
theorem noteS_caps (t : Tx) (x : Rd) (f u : ByteArray) : (S.noteS I t x f u).2.caps = S.caps := by
  unfold Sm.noteS
  split
  · rfl
  · exact put_caps _ _ _
theorem read_caps (tx : Int) (a : Lk) : (S.read I tx a).2.caps = S.caps := by
  unfold Sm.read
  split
  · rfl
  · split
    · rfl
    · exact noteS_caps _ _ _ _
theorem scan_caps (tx : Int) (tb f u : ByteArray) : (S.scan I tx tb f u).2.caps = S.caps := by
  unfold Sm.scan
  split
  · rfl
  · split
    · rfl
    · exact noteS_caps _ _ _ _
theorem write_caps (tx : Int) (a : Lk) (last : Int) : (S.write I tx a last).2.caps = S.caps := by
  unfold Sm.write
  split
  · rfl
  · split
    · rfl
    · split
      · rfl
      · split
        · rfl
        · split
          · rfl
          · exact put_caps _ _ _
theorem abort_caps (tx : Int) : (S.abort I tx).2.caps = S.caps := by
  unfold Sm.abort
  split <;> rfl
theorem begin_caps : S.begin.2.caps = S.caps := by
  unfold Sm.begin
  split <;> rfl
theorem commit_caps (tx : Int) : (S.commit I tx).2.caps = S.caps := by
  unfold Sm.commit
  split
  · rfl
  · split
    · rfl
    · split
      · rfl
      · show (Sm.forget I _).caps = _
        unfold Sm.forget
        dsimp only
        split <;> rfl
end
end Go.Proofs.YthaoedfalkebbaaGreat
namespace Go.Proofs.YthaoedfalkebbaaGreat
open Go.RowKit Go.Maps Go.Sort Go.Lib Go.Shelf Go.Proofs.YthaoedfalkebbaaGreatW.PrintWords Go.Proofs.YthaoedfalkebbaaGreatW.PrintLast Go.Proofs.YthaoedfalkebbaaGreatW.PrintMore
set_option linter.unusedVariables false
set_option linter.unusedSimpArgs false
set_option linter.unusedSectionVars false
def MgrO (base : Nat) (F U : Nat → Prop) (p : Nat) (S : Sm St) (W : World) : Prop := ∃ l : Loc, l.p = p ∧ l.F = F ∧ (∀ k, l.own S.txs k → U k) ∧ Pm W base l S
def Top (U : Nat → Prop) (W : World) : Prop := ∀ k, W.heap.size ≤ k → U k
structure KeepO (U : Nat → Prop) (W W' : World) : Prop where
  fr : Fr U W W'
  block : ∀ (k : Nat) (c : Array Value) (e : TypeId) (s : Nat × Nat), W.heap[k]? = some (.cells c e s) → e ≠ 90 → e ≠ 150 → e ≠ 101 → W'.heap[k]? = some (.cells c e s)
theorem KeepO.trans {U : Nat → Prop} {a b c : World} (h : KeepO U a b) (k : KeepO U b c) : KeepO U a c := ⟨h.fr.trans k.fr (fun _ h _ => h), fun g cs e s hg h1 h2 h3 => k.block g cs e s (h.block g cs e s hg h1 h2 h3) h1 h2 h3⟩
theorem KeepO.ofBelow {U : Nat → Prop} {W W' : World} (h : Below W.heap.size W W') : KeepO U W W' := ⟨Fr.ofBelow h, fun k c e s hk _ _ _ => (h.block k (Array.getElem?_eq_some_iff.1 hk).1).trans hk⟩
theorem Top.later {U : Nat → Prop} {W W' : World} (h : Top U W) (hs : W.heap.size ≤ W'.heap.size) : Top U W' := fun k hk => h k (Nat.le_trans hs hk)
section
variable {base p : Nat} {F U : Nat → Prop} {S S' : Sm St} {W W' : World} {K N : Int}
theorem MgrO.size (h : MgrO base F U p S W) : base ≤ W.heap.size := by
  obtain ⟨l, h1, h2, _, P⟩ := h
  exact Mgr.size ⟨l, h1, h2, P⟩
theorem StQ.next {l : Loc} (h : StQ base l S S' W W') (P : Pm W base l S) (hU : ∀ k, l.own S.txs k → U k) (hT : Top U W) : MgrO base l.F U l.p S' W' ∧ KeepO U W W' := by
  have hk := h.keep P (Mgr.size ⟨l, rfl, rfl, P⟩)
  obtain ⟨l', h1, h2, P', f, own⟩ := h
  refine ⟨⟨l', h1, h2, fun k hk => ?_, P'⟩, f.mono (fun k hk _ => hU k hk), hk.block⟩
  rcases own k hk with e | e
  · exact hU k e
  · exact hT k e
theorem MgrO.below (h : MgrO base F U p S W) (b : Below W.heap.size W W') : MgrO base F U p S W' := by
  obtain ⟨l, h1, h2, h3, P⟩ := h
  exact ⟨l, h1, h2, h3, P.below b⟩
theorem MgrO.begin (h : MgrO base F U p S W) (hT : Top U W) (hC : Cap S K N) (hK : K ≤ 2305843009213693951) :
    Calls Tryz.prog 13 #[ptr p] W fun e W' => e = .returned (.tuple #[.int .i64 S.begin.1.1, .int .i64 S.begin.1.2.1, .int .i64 S.begin.1.2.2]) ∧ MgrO base F U p S.begin.2 W' ∧ KeepO U W W' := by
  obtain ⟨l, rfl, rfl, hU, P⟩ := h
  refine (Begin_s base l S W K N P hC (by omega)).mono ?_
  rintro e W' ⟨rfl, hS⟩
  exact ⟨rfl, hS.next P hU hT⟩
theorem MgrO.read (h : MgrO base F U p S W) (hT : Top U W) (hC : Cap S K N) {tx : Int} (hx : okN tx) {a : Lk} (ha : LkOK a) :
    Calls Tryz.prog 14 #[ptr p, .int .i64 tx, .agg #[.string a.1, .string a.2]] W fun e W' => e = .returned (.int .i64 (S.read (iS S.caps.reads) tx a).1) ∧ MgrO base F U p (S.read (iS S.caps.reads) tx a).2 W' ∧ KeepO U W W' := by
  obtain ⟨l, rfl, rfl, hU, P⟩ := h
  refine (Read_s base l S tx a W P hx ha hC.lck4).mono ?_
  intro e W' hQ
  obtain ⟨h1, hS⟩ := hQ.st (read_nums _ _ _)
  exact ⟨h1, hS.next P hU hT⟩
theorem MgrO.scan (h : MgrO base F U p S W) (hT : Top U W) (hC : Cap S K N) {tx : Int} (hx : okN tx) {tb f u : ByteArray} (h1 : tb.size ≤ reachBytes) (h2 : f.size ≤ reachBytes) (h3 : u.size ≤ reachBytes) :
    Calls Tryz.prog 33 #[ptr p, .int .i64 tx, .string tb, .string f, .string u] W fun e W' => e = .returned (.int .i64 (S.scan (iS S.caps.reads) tx tb f u).1) ∧ MgrO base F U p (S.scan (iS S.caps.reads) tx tb f u).2 W' ∧ KeepO U W W' := by
  obtain ⟨l, rfl, rfl, hU, P⟩ := h
  refine (Scan_s base l S tx tb f u W P hx h1 h2 h3 hC.lck4).mono ?_
  intro e W' hQ
  obtain ⟨h1, hS⟩ := hQ.st (scan_nums _ _ _ _ _)
  exact ⟨h1, hS.next P hU hT⟩
theorem MgrO.write (h : MgrO base F U p S W) (hT : Top U W) (hC : Cap S K N) {tx : Int} (hx : okN tx) {a : Lk} (ha : LkOK a) (last : Int) :
    Calls Tryz.prog 15 #[ptr p, .int .i64 tx, .agg #[.string a.1, .string a.2], .int .i64 last] W fun e W' => e = .returned (.int .i64 (S.write (iS S.caps.reads) tx a last).1) ∧ MgrO base F U p (S.write (iS S.caps.reads) tx a last).2 W' ∧ KeepO U W W' := by
  obtain ⟨l, rfl, rfl, hU, P⟩ := h
  refine (Write_s base l S tx a last W K N P hC hx ha).mono ?_
  intro e W' hQ
  obtain ⟨h1, hS⟩ := hQ.st (write_nums _ _ _ _)
  exact ⟨h1, hS.next P hU hT⟩
theorem MgrO.commit (h : MgrO base F U p S W) (hT : Top U W) (hC : Cap S K N) {tx : Int} (hx : okN tx) (hF : ∀ k, F k → k < W.heap.size) (hK : K ≤ 2305843009213693951) (hN : N ≤ 2305843009213693951) :
    Calls Tryz.prog 16 #[ptr p, .int .i64 tx] W fun e W' => e = .returned (.tuple #[.int .i64 (S.commit (iS S.caps.reads) tx).1.1, .int .i64 (S.commit (iS S.caps.reads) tx).1.2]) ∧ MgrO base F U p (S.commit (iS S.caps.reads) tx).2 W' ∧ KeepO U W W' := by
  obtain ⟨l, rfl, rfl, hU, P⟩ := h
  refine (Commit_s base l S tx W K N P hC hx hF hK hN).mono ?_
  rintro e W' ⟨h1, hS⟩
  exact ⟨h1, hS.next P hU hT⟩
theorem MgrO.abort (h : MgrO base F U p S W) (hT : Top U W) (hC : Cap S K N) {tx : Int} (hx : okN tx) :
    Calls Tryz.prog 25 #[ptr p, .int .i64 tx] W fun e W' => e = .returned (.int .i64 (S.abort (iS S.caps.reads) tx).1) ∧ MgrO base F U p (S.abort (iS S.caps.reads) tx).2 W' ∧ KeepO U W W' := by
  obtain ⟨l, rfl, rfl, hU, P⟩ := h
  refine (Abort_s base l S tx W P hx hC.lck4).mono ?_
  rintro e W' ⟨h1, h2, h3⟩
  have hS : StQ base l S (S.abort (iS S.caps.reads) tx).2 W W' := ⟨l, rfl, rfl, h2, h3.mono (fun k hk _ => own4_own k hk), own_sub (abort_nums S tx)⟩
  exact ⟨h1, hS.next P hU hT⟩
theorem MgrO.now (h : MgrO base F U p S W) : Calls Tryz.prog 34 #[ptr p] W fun e w' => e = .returned (.int .i64 S.now) ∧ W = w' := by
  obtain ⟨l, rfl, rfl, hU, P⟩ := h
  exact Now_s base l S W P
end
end Go.Proofs.YthaoedfalkebbaaGreat
namespace Go.Proofs.YthaoedfalkebbaaGreat
open Go.RowKit Go.Maps Go.Sort Go.Lib Go.Shelf Go.Proofs.YthaoedfalkebbaaGreatW.PrintWords Go.Proofs.YthaoedfalkebbaaGreatW.PrintLast Go.Proofs.YthaoedfalkebbaaGreatW.PrintMore
set_option linter.unusedVariables false
set_option linter.unusedSimpArgs false
set_option linter.unusedSectionVars false
def encV (v : Ver) : List Value := [.string v.at_.1, .string v.at_.2, .int .i64 v.num, .int .i64 v.by_, .int .i64 v.next]
def encSw (r : Sw) : List Value := [.string r.at_.1, .string r.at_.2, .int .i64 r.saw]
abbrev RowV (w : World) (base : Nat) (v : Value) (xs : List Ver) : Prop := Lo encV 5 125 w base v xs
abbrev RowS (w : World) (base : Nat) (v : Value) (xs : List Sw) : Prop := Lo encSw 3 130 w base v xs
theorem RowV.at {w : World} {base g n c : Nat} {xs : List Ver} (h : RowV w base (.slice (some ⟨g, 0, none⟩) n c) xs) (j : Nat) (x : Ver) (hj : xs[j]? = some x) :
    w.cell? ⟨g, j * 5, none⟩ = some (.string x.at_.1) ∧ w.cell? ⟨g, j * 5 + 1, none⟩ = some (.string x.at_.2) ∧ w.cell? ⟨g, j * 5 + 2, none⟩ = some (.int .i64 x.num) ∧ w.cell? ⟨g, j * 5 + 3, none⟩ = some (.int .i64 x.by_) ∧ w.cell? ⟨g, j * 5 + 4, none⟩ = some (.int .i64 x.next) := by
  have H := h.cell (fun _ => rfl) rfl j x hj
  exact ⟨by simpa using H 0 _ rfl, H 1 _ rfl, H 2 _ rfl, H 3 _ rfl, H 4 _ rfl⟩
set_option maxHeartbeats 4000000 in
set_option maxRecDepth 100000 in
theorem has_calls (base : Nat) (v : Value) (xs : List Lk) (a : Lk) (w : World) (h : RowL w base v xs) (hl : xs.length ≤ 9223372036854775806) :
    Calls Tryz.prog 22 #[v, .agg #[.string a.1, .string a.2]] w fun e w' => e = .returned (.bool (decide (a ∈ xs))) ∧ Below w.heap.size w w' := by
  obtain ⟨A, c, rfl, hlc, hA⟩ := h.slice
  obtain ⟨w1, hw1⟩ : ∃ w1, w1 = w.alloc (.cells #[.string a.1, .string a.2] 23) := ⟨_, rfl⟩
  obtain ⟨B1, hsz, b0, b1⟩ := lk_box w w1 a hw1
  have h1 := h.grown (grown_of_below B1 none) (by simp)
  have CEL : ∀ W, Below w1.heap.size w1 W → W.cell? ⟨w.heap.size, 0, none⟩ = some (.string a.1) ∧ W.cell? ⟨w.heap.size, 1, none⟩ = some (.string a.2) := fun W B => ⟨below_cell B b0, below_cell B b1⟩
  have FIN : ∀ W, Below w1.heap.size w1 W → Below w.heap.size w W := fun W B => below_then B1 B1.size B
  have EQ : ∀ (x : Lk) W, (binOp .eql 23 (.agg #[.string x.1, .string x.2]) (.agg #[.string a.1, .string a.2])).run Tryz.prog W = .ok (.bool (decide (x = a))) W := fun x W => Lck.eqLk x a W
  replace CEL := Aside0.mk CEL
  replace FIN := Aside0.mk FIN
  replace EQ := Aside0.mk EQ
  clear h hsz B1 b0 b1
  go_enter Tryz.func22, Tryz.ntmps22
  go_upto_region 1 with (fail)
  rw [← hw1]
  clear hw1
  go_wp2_with fail
  go_loopw [9] (fun iv wr => ∃ j : Nat, j ≤ xs.length ∧ iv = .int .i64 j ∧ RowL wr base (.slice A xs.length c) xs ∧ Below w1.heap.size w1 wr ∧ (∀ i (hi : i < xs.length), i < j → xs[i] ≠ a)) (fun iv _ => xs.length - (intOf iv).toNat)
  case atStart => exact ⟨0, Nat.zero_le _, rfl, h1, Below.refl _ _, fun i _ hi => by omega⟩
  case round =>
    clear h1
    obtain ⟨j, hj, rfl, h, hb, hn⟩ := hrel
    by_cases hjl : j < xs.length
    · obtain ⟨k, rfl, _⟩ := hA (by omega)
      obtain ⟨y0, y1⟩ := RowL.at h j xs[j] (List.getElem?_eq_getElem hjl)
      obtain ⟨b0, b1⟩ := CEL.out wr hb
      have EQx := EQ.out xs[j]
      have hmem := List.getElem_mem hjl
      generalize hy : xs[j] = x at y0 y1 EQx hmem
      obtain ⟨W4, hW4⟩ : ∃ W4, W4 = wr.alloc (.cells #[.string x.1, .string x.2] 23) := ⟨_, rfl⟩
      obtain ⟨B4, _, x0, x1⟩ := lk_box wr W4 x hW4
      have a0' := below_cell B4 b0
      have a1' := below_cell B4 b1
      have h4 := h.grown (grown_of_below B4 none) (by simp)
      have hb4 := below_then hb hb.size B4
      replace hy := Aside0.mk hy
      replace hn := Aside0.mk hn
      replace h4 := Aside0.mk h4
      replace hmem := Aside0.mk hmem
      clear h B4
      go_upto_region 4 with (fail)
      rw [← hW4]
      clear hW4 y0 y1 b0 b1
      by_cases hq : x = a
      · have EQ1 : ∀ W, (binOp .eql 23 (.agg #[.string x.1, .string x.2]) (.agg #[.string a.1, .string a.2])).run Tryz.prog W = .ok (.bool true) W := fun W => by rw [EQx W, decide_eq_true hq]
        have hm : decide (a ∈ xs) = true := decide_eq_true (by rw [← hq]; exact hmem.out)
        replace hm := Aside0.mk hm
        replace hq := Aside0.mk hq
        clear EQx
        go_wp2
        go_ret
        refine ⟨?_, FIN.out _ hb4⟩
        rw [hm.out]
        rfl
      · have EQ1 : ∀ W, (binOp .eql 23 (.agg #[.string x.1, .string x.2]) (.agg #[.string a.1, .string a.2])).run Tryz.prog W = .ok (.bool false) W := fun W => by rw [EQx W, decide_eq_false hq]
        replace hq := Aside0.mk hq
        clear EQx
        go_wp2
        refine ⟨⟨j + 1, hjl, by push_cast; rfl, h4.out, hb4, fun i hi hij => ?_⟩, by simp [intOf]; omega⟩
        rcases Nat.lt_or_ge i j with h1 | h1
        · exact hn.out i hi h1
        · obtain rfl : i = j := by omega
          rw [hy.out]; exact hq.out
    · obtain rfl : j = xs.length := by omega
      have hm : decide (a ∈ xs) = false := decide_eq_false (fun h => by
        obtain ⟨i, hi, e⟩ := List.getElem_of_mem h
        exact hn i hi hi e)
      replace hm := Aside0.mk hm
      replace hn := Aside0.mk hn
      go_wp2
      go_ret
      refine ⟨?_, FIN.out _ hb⟩
      rw [hm.out]
      rfl
theorem ver_cells {W : World} {g : Nat} {v : Ver} (h : W.heap[g]? = some (.cells #[.string v.at_.1, .string v.at_.2, .int .i64 v.num, .int .i64 v.by_, .int .i64 v.next] 125 (0, 0))) :
    W.cell? ⟨g, 0, none⟩ = some (.string v.at_.1) ∧ W.cell? ⟨g, 1, none⟩ = some (.string v.at_.2) ∧ W.cell? ⟨g, 2, none⟩ = some (.int .i64 v.num) ∧ W.cell? ⟨g, 3, none⟩ = some (.int .i64 v.by_) ∧ W.cell? ⟨g, 4, none⟩ = some (.int .i64 v.next) :=
  ⟨cell_of_row W g 0 _ 125 (0, 0) h, cell_of_row W g 1 _ 125 (0, 0) h, cell_of_row W g 2 _ 125 (0, 0) h, cell_of_row W g 3 _ 125 (0, 0) h, cell_of_row W g 4 _ 125 (0, 0) h⟩
theorem newestN_succ (vs : List Ver) (a : Lk) (upto : Int) (k : Nat) (v : Ver) (h : vs[k]? = some v) : newestN vs a upto (k + 1) = if hitV a upto v then (k : Int) else newestN vs a upto k := by
  show (match vs[k]? with | some v => if hitV a upto v then (k : Int) else newestN vs a upto k | none => newestN vs a upto k) = _
  rw [h]
set_option maxHeartbeats 8000000 in
set_option maxRecDepth 100000 in
theorem newest_calls (base q : Nat) (vv : Value) (vs : List Ver) (a : Lk) (upto : Int) (w : World) (hq : w.cell? ⟨q, 2, none⟩ = some vv) (h : RowV w base vv vs) (hl : vs.length ≤ 9223372036854775806) :
    Calls Tryz.prog 58 #[ptr q, .agg #[.string a.1, .string a.2], .int .i64 upto] w fun e w' => e = .returned (.int .i64 (newest vs a upto)) ∧ Below w.heap.size w w' := by
  obtain ⟨A, c, rfl, hlc, hA⟩ := h.slice
  obtain ⟨w1, hw1⟩ : ∃ w1, w1 = w.alloc (.cells #[.string a.1, .string a.2] 23) := ⟨_, rfl⟩
  obtain ⟨B1, hsz, b0, b1⟩ := lk_box w w1 a hw1
  have h1 := h.grown (grown_of_below B1 none) (by simp)
  have q1 := below_cell B1 hq
  have CEL : ∀ W, Below w1.heap.size w1 W → W.cell? ⟨w.heap.size, 0, none⟩ = some (.string a.1) ∧ W.cell? ⟨w.heap.size, 1, none⟩ = some (.string a.2) := fun W B => ⟨below_cell B b0, below_cell B b1⟩
  have FIN : ∀ W, Below w1.heap.size w1 W → Below w.heap.size w W := fun W B => below_then B1 B1.size B
  have EQ : ∀ (x : Lk) W, (binOp .eql 23 (.agg #[.string x.1, .string x.2]) (.agg #[.string a.1, .string a.2])).run Tryz.prog W = .ok (.bool (decide (x = a))) W := fun x W => Lck.eqLk x a W
  replace CEL := Aside0.mk CEL
  replace FIN := Aside0.mk FIN
  replace EQ := Aside0.mk EQ
  clear h hsz B1 b0 b1 hq
  go_enter Tryz.func58, Tryz.ntmps58
  go_upto_region 1 with (fail)
  rw [← hw1]
  clear hw1
  go_wp2_with fail
  go_loopw [7, 15] (fun bv iv wr => ∃ j : Nat, j ≤ vs.length ∧ iv = .int .i64 j ∧ bv = .int .i64 (newestN vs a upto j) ∧ RowV wr base (.slice A vs.length c) vs ∧ Below w1.heap.size w1 wr) (fun _ iv _ => vs.length - (intOf iv).toNat)
  case atStart => exact ⟨0, Nat.zero_le _, rfl, rfl, h1, Below.refl _ _⟩
  case round =>
    clear h1
    obtain ⟨j, hj, rfl, rfl, h, hb⟩ := hrel
    by_cases hjl : j < vs.length
    · obtain ⟨k, rfl, _⟩ := hA (by omega)
      obtain ⟨y0, y1, y2, y3, y4⟩ := RowV.at h j vs[j] (List.getElem?_eq_getElem hjl)
      obtain ⟨b0, b1⟩ := CEL.out wr hb
      have hs := newestN_succ vs a upto j vs[j] (List.getElem?_eq_getElem hjl)
      have EQx := EQ.out vs[j].at_
      generalize vs[j] = x at y0 y1 y2 y3 y4 EQx hs
      unfold hitV at hs
      obtain ⟨W4, hW4⟩ : ∃ W4, W4 = wr.alloc (.cells #[.string x.at_.1, .string x.at_.2, .int .i64 x.num, .int .i64 x.by_, .int .i64 x.next] 125) := ⟨_, rfl⟩
      have B4 : Below wr.heap.size wr W4 := by rw [hW4]; exact allocB wr _
      obtain ⟨x0, x1, x2, x3, x4⟩ := ver_cells (by rw [hW4]; exact heap_alloc_new wr _ : W4.heap[wr.heap.size]? = some (.cells #[.string x.at_.1, .string x.at_.2, .int .i64 x.num, .int .i64 x.by_, .int .i64 x.next] 125 (0, 0)))
      have a0' := below_cell B4 b0
      have a1' := below_cell B4 b1
      have h4 := h.grown (grown_of_below B4 none) (by simp)
      have hb4 := below_then hb hb.size B4
      generalize decide (x.at_ = a) = eb at hs EQx
      generalize hnv : newestN vs a upto j = nv at hs ⊢
      replace hnv := Aside0.mk hnv
      have NEXT : ∀ r, newestN vs a upto (j + 1) = r → (∃ j' : Nat, j' ≤ vs.length ∧ Value.int .i64 ((j : Int) + 1) = .int .i64 j' ∧ Value.int .i64 r = .int .i64 (newestN vs a upto j') ∧ RowV W4 base (.slice (some ⟨k, 0, none⟩) vs.length c) vs ∧ Below w1.heap.size w1 W4) ∧ vs.length - (intOf (.int .i64 ((j : Int) + 1))).toNat < vs.length - (intOf (.int .i64 (j : Int))).toNat := fun r hr => ⟨⟨j + 1, hjl, by push_cast; rfl, by rw [hr], h4, hb4⟩, by simp [intOf]; omega⟩
      clear h B4 h4 hb4 hb
      go_upto_region 5 with (fail)
      rw [← hW4]
      clear hW4 y0 y1 y2 y3 y4 b0 b1 x3 x4
      cases eb with
      | false =>
        replace NEXT := Aside0.mk (NEXT nv (by rw [hs]; rfl))
        clear hs
        go_wp2
        exact NEXT.out
      | true =>
        by_cases hle : x.num ≤ upto
        · replace NEXT := Aside0.mk (NEXT (j : Int) (by rw [hs]; simp [hle]))
          clear hs
          go_wp2
          exact NEXT.out
        · replace NEXT := Aside0.mk (NEXT nv (by rw [hs]; simp [hle]))
          clear hs
          go_wp2
          exact NEXT.out
    · obtain rfl : j = vs.length := by omega
      generalize hnv : newestN vs a upto vs.length = nv
      have hm : newest vs a upto = nv := hnv
      replace hm := Aside0.mk hm
      replace hnv := Aside0.mk hnv
      go_wp2
      go_ret
      refine ⟨?_, FIN.out _ hb⟩
      rw [hm.out]
      rfl
end Go.Proofs.YthaoedfalkebbaaGreat
namespace Go.Proofs.YthaoedfalkebbaaGreat
open Go.RowKit Go.Maps Go.Sort Go.Lib Go.Shelf Go.Proofs.YthaoedfalkebbaaGreatW.PrintWords Go.Proofs.YthaoedfalkebbaaGreatW.PrintLast Go.Proofs.YthaoedfalkebbaaGreatW.PrintMore
set_option linter.unusedVariables false
set_option linter.unusedSimpArgs false
set_option linter.unusedSectionVars false
theorem findIdx_hit {α : Type} {p : α → Bool} {xs : List α} {j : Nat} (hj : j < xs.length) (h : p xs[j] = true) (hn : ∀ i (hi : i < xs.length), i < j → p xs[i] = false) : xs.findIdx p = j := by
  rw [List.findIdx_eq hj]
  exact ⟨h, fun i hi => hn i (by omega) hi⟩
theorem findIdx_no {α : Type} {p : α → Bool} {xs : List α} (h : ∀ i (hi : i < xs.length), p xs[i] = false) : xs.findIdx p = xs.length := by
  rw [List.findIdx_eq_length]
  intro x hx
  obtain ⟨i, hi, rfl⟩ := List.getElem_of_mem hx
  exact h i hi
set_option maxHeartbeats 8000000 in
set_option maxRecDepth 100000 in
theorem first_calls (base q : Nat) (vv : Value) (vs : List Ver) (a : Lk) (w : World) (hq : w.cell? ⟨q, 2, none⟩ = some vv) (h : RowV w base vv vs) (hl : vs.length ≤ 9223372036854775806) :
    Calls Tryz.prog 60 #[ptr q, .agg #[.string a.1, .string a.2]] w fun e w' => e = .returned (.int .i64 (firstV vs a)) ∧ Below w.heap.size w w' := by
  obtain ⟨A, c, rfl, hlc, hA⟩ := h.slice
  obtain ⟨w1, hw1⟩ : ∃ w1, w1 = w.alloc (.cells #[.string a.1, .string a.2] 23) := ⟨_, rfl⟩
  obtain ⟨B1, hsz, b0, b1⟩ := lk_box w w1 a hw1
  have h1 := h.grown (grown_of_below B1 none) (by simp)
  have q1 := below_cell B1 hq
  have CEL : ∀ W, Below w1.heap.size w1 W → W.cell? ⟨w.heap.size, 0, none⟩ = some (.string a.1) ∧ W.cell? ⟨w.heap.size, 1, none⟩ = some (.string a.2) := fun W B => ⟨below_cell B b0, below_cell B b1⟩
  have FIN : ∀ W, Below w1.heap.size w1 W → Below w.heap.size w W := fun W B => below_then B1 B1.size B
  have EQ : ∀ (x : Lk) W, (binOp .eql 23 (.agg #[.string x.1, .string x.2]) (.agg #[.string a.1, .string a.2])).run Tryz.prog W = .ok (.bool (decide (x = a))) W := fun x W => Lck.eqLk x a W
  replace CEL := Aside0.mk CEL
  replace FIN := Aside0.mk FIN
  replace EQ := Aside0.mk EQ
  clear h hsz B1 b0 b1 hq
  go_enter Tryz.func60, Tryz.ntmps60
  go_upto_region 1 with (fail)
  rw [← hw1]
  clear hw1
  go_wp2_with fail
  go_loopw [12] (fun iv wr => ∃ j : Nat, j ≤ vs.length ∧ iv = .int .i64 j ∧ RowV wr base (.slice A vs.length c) vs ∧ Below w1.heap.size w1 wr ∧ (∀ i (hi : i < vs.length), i < j → decide (vs[i].at_ = a) = false)) (fun iv _ => vs.length - (intOf iv).toNat)
  case atStart => exact ⟨0, Nat.zero_le _, rfl, h1, Below.refl _ _, fun i _ hi => by omega⟩
  case round =>
    clear h1
    obtain ⟨j, hj, rfl, h, hb, hn⟩ := hrel
    by_cases hjl : j < vs.length
    · obtain ⟨k, rfl, _⟩ := hA (by omega)
      obtain ⟨y0, y1, y2, y3, y4⟩ := RowV.at h j vs[j] (List.getElem?_eq_getElem hjl)
      obtain ⟨b0, b1⟩ := CEL.out wr hb
      have EQx := EQ.out vs[j].at_
      generalize hy : vs[j] = x at y0 y1 y2 y3 y4 EQx
      obtain ⟨W4, hW4⟩ : ∃ W4, W4 = wr.alloc (.cells #[.string x.at_.1, .string x.at_.2, .int .i64 x.num, .int .i64 x.by_, .int .i64 x.next] 125) := ⟨_, rfl⟩
      have B4 : Below wr.heap.size wr W4 := by rw [hW4]; exact allocB wr _
      obtain ⟨x0, x1, x2, x3, x4⟩ := ver_cells (by rw [hW4]; exact heap_alloc_new wr _ : W4.heap[wr.heap.size]? = some (.cells #[.string x.at_.1, .string x.at_.2, .int .i64 x.num, .int .i64 x.by_, .int .i64 x.next] 125 (0, 0)))
      have a0' := below_cell B4 b0
      have a1' := below_cell B4 b1
      have h4 := h.grown (grown_of_below B4 none) (by simp)
      have hb4 := below_then hb hb.size B4
      have HIT : decide (x.at_ = a) = true → firstV vs a = (j : Int) := fun he => by
        have := findIdx_hit (p := fun v : Ver => decide (v.at_ = a)) hjl (by rw [hy]; exact he) hn
        unfold firstV
        rw [this, if_pos hjl]
      have NEXT : decide (x.at_ = a) = false → (∃ j' : Nat, j' ≤ vs.length ∧ Value.int .i64 ((j : Int) + 1) = .int .i64 j' ∧ RowV W4 base (.slice (some ⟨k, 0, none⟩) vs.length c) vs ∧ Below w1.heap.size w1 W4 ∧ (∀ i (hi : i < vs.length), i < j' → decide (vs[i].at_ = a) = false)) ∧ vs.length - (intOf (.int .i64 ((j : Int) + 1))).toNat < vs.length - (intOf (.int .i64 (j : Int))).toNat := fun he => ⟨⟨j + 1, hjl, by push_cast; rfl, h4, hb4, fun i hi hij => by
        rcases Nat.lt_or_ge i j with h1 | h1
        · exact hn i hi h1
        · obtain rfl : i = j := by omega
          rw [hy]; exact he⟩, by simp [intOf]; omega⟩
      have FN := Aside0.mk (FIN.out _ hb4)
      generalize decide (x.at_ = a) = eb at EQx HIT NEXT
      generalize hr : firstV vs a = r at HIT
      replace hr := Aside0.mk hr
      clear h B4 h4 hb4 hb hn hy
      go_upto_region 4 with (fail)
      rw [← hW4]
      clear hW4 y0 y1 y2 y3 y4 b0 b1 x3 x4 x2
      cases eb with
      | false =>
        replace NEXT := Aside0.mk (NEXT rfl)
        clear HIT
        go_wp2
        exact NEXT.out
      | true =>
        clear NEXT
        replace HIT := Aside0.mk (HIT rfl)
        go_wp2
        go_ret
        refine ⟨?_, FN.out⟩
        rw [hr.out, HIT.out]
        rfl
    · obtain rfl : j = vs.length := by omega
      have hm : firstV vs a = -1 := by
        have := findIdx_no (p := fun v : Ver => decide (v.at_ = a)) (xs := vs) (fun i hi => hn i hi hi)
        unfold firstV
        rw [this, if_neg (by omega)]
      have FN := Aside0.mk (FIN.out _ hb)
      replace hm := Aside0.mk hm
      replace hn := Aside0.mk hn
      go_wp2
      go_ret
      refine ⟨?_, FN.out⟩
      rw [hm.out]
      rfl
abbrev Rx := Run × Value × Value
def encX (x : Rx) : List Value := [.int .i64 x.1.tx, .int .i64 x.1.snap, .int .i64 x.1.begun, .int .i64 x.1.ended, .bool x.1.committed, .bool x.1.over, x.2.1, x.2.2]
abbrev RowX (w : World) (base : Nat) (v : Value) (xs : List Rx) : Prop := Lo encX 8 57 w base v xs
theorem RowX.at {w : World} {base g n c : Nat} {xs : List Rx} (h : RowX w base (.slice (some ⟨g, 0, none⟩) n c) xs) (j : Nat) (x : Rx) (hj : xs[j]? = some x) :
    w.cell? ⟨g, j * 8, none⟩ = some (.int .i64 x.1.tx) ∧ w.cell? ⟨g, j * 8 + 1, none⟩ = some (.int .i64 x.1.snap) ∧ w.cell? ⟨g, j * 8 + 2, none⟩ = some (.int .i64 x.1.begun) ∧ w.cell? ⟨g, j * 8 + 3, none⟩ = some (.int .i64 x.1.ended) ∧ w.cell? ⟨g, j * 8 + 4, none⟩ = some (.bool x.1.committed) ∧ w.cell? ⟨g, j * 8 + 5, none⟩ = some (.bool x.1.over) ∧ w.cell? ⟨g, j * 8 + 6, none⟩ = some x.2.1 ∧ w.cell? ⟨g, j * 8 + 7, none⟩ = some x.2.2 := by
  have H := h.cell (fun _ => rfl) rfl j x hj
  exact ⟨by simpa using H 0 _ rfl, H 1 _ rfl, H 2 _ rfl, H 3 _ rfl, H 4 _ rfl, H 5 _ rfl, H 6 _ rfl, H 7 _ rfl⟩
abbrev boxX (x : Rx) : Obj := .cells #[.int .i64 x.1.tx, .int .i64 x.1.snap, .int .i64 x.1.begun, .int .i64 x.1.ended, .bool x.1.committed, .bool x.1.over, x.2.1, x.2.2] 57 (0, 0)
theorem run_cells {W : World} {g : Nat} {x : Rx} (h : W.heap[g]? = some (boxX x)) :
    W.cell? ⟨g, 0, none⟩ = some (.int .i64 x.1.tx) ∧ W.cell? ⟨g, 1, none⟩ = some (.int .i64 x.1.snap) ∧ W.cell? ⟨g, 2, none⟩ = some (.int .i64 x.1.begun) ∧ W.cell? ⟨g, 3, none⟩ = some (.int .i64 x.1.ended) ∧ W.cell? ⟨g, 4, none⟩ = some (.bool x.1.committed) ∧ W.cell? ⟨g, 5, none⟩ = some (.bool x.1.over) ∧ W.cell? ⟨g, 6, none⟩ = some x.2.1 ∧ W.cell? ⟨g, 7, none⟩ = some x.2.2 :=
  ⟨cell_of_row W g 0 _ 57 (0, 0) h, cell_of_row W g 1 _ 57 (0, 0) h, cell_of_row W g 2 _ 57 (0, 0) h, cell_of_row W g 3 _ 57 (0, 0) h, cell_of_row W g 4 _ 57 (0, 0) h, cell_of_row W g 5 _ 57 (0, 0) h, cell_of_row W g 6 _ 57 (0, 0) h, cell_of_row W g 7 _ 57 (0, 0) h⟩
def isSl (v : Value) : Prop := ∃ A n c, v = .slice A n c
set_option maxHeartbeats 8000000 in
set_option maxRecDepth 100000 in
theorem of_calls (base q : Nat) (lv : Value) (xs : List Rx) (tx : Int) (w : World) (hq : w.cell? ⟨q, 3, none⟩ = some lv) (h : RowX w base lv xs) (hl : xs.length ≤ 9223372036854775806) (hsl : ∀ x ∈ xs, isSl x.2.1 ∧ isSl x.2.2) :
    Calls Tryz.prog 23 #[ptr q, .int .i64 tx] w fun e w' => e = .returned (.int .i64 (ofR (xs.map (·.1)) tx)) ∧ Below w.heap.size w w' := by
  obtain ⟨A, c, rfl, hlc, hA⟩ := h.slice
  replace hsl := Aside0.mk hsl
  go_enter Tryz.func23, Tryz.ntmps23
  go_wp2_with fail
  go_loopw [12] (fun iv wr => ∃ j : Nat, j ≤ xs.length ∧ iv = .int .i64 j ∧ RowX wr base (.slice A xs.length c) xs ∧ Below w.heap.size w wr ∧ (∀ i (hi : i < xs.length), i < j → (xs[i].1.tx == tx && !xs[i].1.over) = false)) (fun iv _ => xs.length - (intOf iv).toNat)
  case atStart => exact ⟨0, Nat.zero_le _, rfl, h, Below.refl _ _, fun i _ hi => by omega⟩
  case round =>
    clear h
    obtain ⟨j, hj, rfl, h, hb, hn⟩ := hrel
    by_cases hjl : j < xs.length
    · obtain ⟨k, rfl, _⟩ := hA (by omega)
      obtain ⟨y0, y1, y2, y3, y4, y5, y6, y7⟩ := RowX.at h j xs[j] (List.getElem?_eq_getElem hjl)
      obtain ⟨⟨Ar, nr, cr, er⟩, ⟨Aw, nw, cw, ew⟩⟩ := hsl.out _ (List.getElem_mem hjl)
      generalize hy : xs[j] = x at y0 y1 y2 y3 y4 y5 y6 y7 er ew
      obtain ⟨x, rv, wv⟩ := x
      dsimp only at y0 y1 y2 y3 y4 y5 y6 y7 er ew
      subst er ew
      obtain ⟨W4, hW4⟩ : ∃ W4, W4 = wr.alloc (boxX (x, .slice Ar nr cr, .slice Aw nw cw)) := ⟨_, rfl⟩
      unfold boxX at hW4
      dsimp only at hW4
      have B4 : Below wr.heap.size wr W4 := by rw [hW4]; exact allocB wr _
      obtain ⟨x0, x1, x2, x3, x4, x5, x6, x7⟩ := run_cells (x := (x, .slice Ar nr cr, .slice Aw nw cw)) (by rw [hW4]; exact heap_alloc_new wr _ : W4.heap[wr.heap.size]? = some (boxX (x, .slice Ar nr cr, .slice Aw nw cw)))
      dsimp only at x0 x1 x2 x3 x4 x5 x6 x7
      have h4 := h.grown (grown_of_below B4 none) (by simp)
      have hb4 := below_then hb hb.size B4
      have HIT : (x.tx == tx && !x.over) = true → ofR (xs.map (·.1)) tx = (j : Int) := fun he => by
        have := findIdx_hit (p := fun v : Rx => v.1.tx == tx && !v.1.over) hjl (by rw [hy]; exact he) hn
        unfold ofR
        rw [List.findIdx_map, List.length_map]
        show (if List.findIdx (fun v : Rx => v.1.tx == tx && !v.1.over) xs < _ then ((List.findIdx (fun v : Rx => v.1.tx == tx && !v.1.over) xs : Nat) : Int) else -1) = _
        rw [this, if_pos hjl]
      have NEXT : (x.tx == tx && !x.over) = false → (∃ j' : Nat, j' ≤ xs.length ∧ Value.int .i64 ((j : Int) + 1) = .int .i64 j' ∧ RowX W4 base (.slice (some ⟨k, 0, none⟩) xs.length c) xs ∧ Below w.heap.size w W4 ∧ (∀ i (hi : i < xs.length), i < j' → (xs[i].1.tx == tx && !xs[i].1.over) = false)) ∧ xs.length - (intOf (.int .i64 ((j : Int) + 1))).toNat < xs.length - (intOf (.int .i64 (j : Int))).toNat := fun he => ⟨⟨j + 1, hjl, by push_cast; rfl, h4, hb4, fun i hi hij => by
        rcases Nat.lt_or_ge i j with h1 | h1
        · exact hn i hi h1
        · obtain rfl : i = j := by omega
          rw [hy]; exact he⟩, by simp [intOf]; omega⟩
      have FN := Aside0.mk hb4
      generalize hr : ofR (xs.map (·.1)) tx = r at HIT
      replace hr := Aside0.mk hr
      clear h B4 h4 hb4 hb hn hy
      go_upto_region 4 with (fail)
      rw [← hW4]
      clear hW4 y0 y1 y2 y3 y4 y5 y6 y7 x1 x2 x3 x4 x6 x7
      by_cases e1 : x.tx = tx
      · have e2 : (x.tx == tx) = true := by simpa using e1
        rw [e2] at HIT NEXT
        cases eo : x.over with
        | false =>
          rw [eo] at x5 HIT NEXT
          clear NEXT eo
          replace HIT := Aside0.mk (HIT rfl)
          replace e1 := Aside0.mk e1
          go_wp2
          go_ret
          refine ⟨?_, FN.out⟩
          rw [hr.out, HIT.out]
          rfl
        | true =>
          rw [eo] at x5 HIT NEXT
          clear HIT eo
          replace NEXT := Aside0.mk (NEXT rfl)
          replace e1 := Aside0.mk e1
          go_wp2
          exact NEXT.out
      · have e2 : (x.tx == tx) = false := by simpa using e1
        rw [e2] at HIT NEXT
        clear HIT
        replace NEXT := Aside0.mk (NEXT rfl)
        replace e1 := Aside0.mk e1
        go_wp2
        exact NEXT.out
    · obtain rfl : j = xs.length := by omega
      have hm : ofR (xs.map (·.1)) tx = -1 := by
        have := findIdx_no (p := fun v : Rx => v.1.tx == tx && !v.1.over) (xs := xs) (fun i hi => hn i hi hi)
        unfold ofR
        rw [List.findIdx_map, List.length_map]
        show (if List.findIdx (fun v : Rx => v.1.tx == tx && !v.1.over) xs < _ then ((List.findIdx (fun v : Rx => v.1.tx == tx && !v.1.over) xs : Nat) : Int) else -1) = _
        rw [this, if_neg (by omega)]
      have FN := Aside0.mk hb
      replace hm := Aside0.mk hm
      replace hn := Aside0.mk hn
      go_wp2
      go_ret
      refine ⟨?_, FN.out⟩
      rw [hm.out]
      rfl
end Go.Proofs.YthaoedfalkebbaaGreat
namespace Go.Proofs.YthaoedfalkebbaaGreat
open Go.RowKit Go.Maps Go.Sort Go.Lib Go.Shelf Go.Proofs.YthaoedfalkebbaaGreatW.PrintWords Go.Proofs.YthaoedfalkebbaaGreatW.PrintLast Go.Proofs.YthaoedfalkebbaaGreatW.PrintMore
set_option linter.unusedVariables false
set_option linter.unusedSimpArgs false
set_option linter.unusedSectionVars false
/-- others' blocks change: rows of places among them that are not the manager's -/
theorem Pm.frF {w w' : World} {base : Nat} {l : Loc} {S : Sm St} {O : Nat → Prop} (h : Pm w base l S) (f : Fr O w w') (hO : ∀ k, O k → ∃ c e s, w.heap[k]? = some (.cells c e s) ∧ e ≠ 90 ∧ e ≠ 150 ∧ e ≠ 101 ∧ e ≠ 147 ∧ e ≠ 108 ∧ (e = 23 → l.F k)) : Pm w' base l S := by
  have kind : ∀ k c e s, w.heap[k]? = some (.cells c e s) → (e = 90 ∨ e = 150 ∨ e = 101 ∨ e = 147 ∨ e = 108) → ¬ O k := fun k c e s hk he ho => by
    obtain ⟨c', e', s', h1, h2, h3, h4, h5, h6, _⟩ := hO k ho
    rw [hk] at h1
    injection h1 with h1
    injection h1 with _ h1 _
    subst h1
    rcases he with he | he | he | he | he
    · exact h2 he
    · exact h3 he
    · exact h4 he
    · exact h5 he
    · exact h6 he
  have maps : ∀ k es c, w.heap[k]? = some (.map es c) → ¬ O k := fun k es c hk ho => by
    obtain ⟨c', e', s', h1, _⟩ := hO k ho
    rw [hk] at h1
    cases h1
  obtain ⟨cl, sl, hlk⟩ := h.lkind
  constructor
  · exact f.block _ _ (kind _ _ _ _ h.head (.inl rfl)) h.head
  · obtain ⟨es1, c1, hmap⟩ := h.tab.isMap
    exact h.tab.fr f (maps _ _ _ hmap)
  · intro t ht
    obtain ⟨v, h1, ws, h2, h3, h4, h5⟩ := h.tx t ht
    refine ⟨v, f.block _ _ (kind _ _ _ _ h1 (.inr (.inr (.inl rfl)))) h1, ws, h2.move fun g hg => ?_, h3, h4, h5⟩
    obtain ⟨_, _, cells, hc⟩ := h2.typed g hg
    refine (f.block g _ (fun ho => ?_) hc).trans hc.symm
    obtain ⟨c', e', s', k1, _, _, _, _, _, k7⟩ := hO g ho
    rw [hc] at k1
    injection k1 with k1
    injection k1 with _ k1 _
    exact h5 g hg (k7 k1.symm)
  · exact h.qinj
  · obtain ⟨D, ⟨es, clock, hlm, _⟩, _⟩ := h.locks.tab
    exact h.locks.fr f (kind _ _ _ _ hlk (.inr (.inr (.inr (.inl rfl))))) (maps _ _ _ hlm)
  · exact ⟨cl, sl, f.block _ _ (kind _ _ _ _ hlk (.inr (.inr (.inr (.inl rfl))))) hlk⟩
  · obtain ⟨cr, sr, hrr⟩ := h.reads.is55
    obtain ⟨⟨L, M, _, _⟩, _⟩ := id h.reads
    obtain ⟨e3', c3', hrm⟩ := M.tab.isMap
    exact h.reads.fr f (kind _ _ _ _ hrr (.inr (.inl rfl))) (maps _ _ _ hrm) (fun k c s hk hc => kind _ _ _ _ hc (.inr (.inr (.inr (.inr rfl)))) hk)
  · exact h.dist
  · exact h.nums
  · exact h.few
  · exact h.ne1
  · exact h.ne2
  · exact h.ne3
  · exact h.low
theorem Pm.moreF {w : World} {base : Nat} {l : Loc} {S : Sm St} (h : Pm w base l S) {F' : Nat → Prop} (hF : ∀ k, F' k → l.F k ∨ w.heap.size ≤ k) : Pm w base { l with F := F' } S := by
  refine ⟨h.head, h.tab, fun t ht => ?_, h.qinj, h.locks, h.lkind, h.reads, h.dist, h.nums, h.few, h.ne1, h.ne2, h.ne3, h.low⟩
  obtain ⟨v, h1, ws, h2, h3, h4, h5⟩ := h.tx t ht
  refine ⟨v, h1, ws, h2, h3, h4, fun b hb hbF => ?_⟩
  rcases hF b hbF with e | e
  · exact h5 b hb e
  · have := (h2.typed b hb).2.1
    omega
theorem MgrO.frF {base p : Nat} {F U : Nat → Prop} {S : Sm St} {w w' : World} {O : Nat → Prop} (h : MgrO base F U p S w) (f : Fr O w w') (hO : ∀ k, O k → ∃ c e s, w.heap[k]? = some (.cells c e s) ∧ e ≠ 90 ∧ e ≠ 150 ∧ e ≠ 101 ∧ e ≠ 147 ∧ e ≠ 108 ∧ (e = 23 → F k)) : MgrO base F U p S w' := by
  obtain ⟨l, rfl, rfl, hU, P⟩ := h
  exact ⟨l, rfl, rfl, hU, P.frF f hO⟩
theorem MgrO.moreF {base p : Nat} {F F' U : Nat → Prop} {S : Sm St} {w : World} (h : MgrO base F U p S w) (hF : ∀ k, F' k → F k ∨ w.heap.size ≤ k) : MgrO base F' U p S w := by
  obtain ⟨l, rfl, rfl, hU, P⟩ := h
  exact ⟨{ l with F := F' }, rfl, rfl, hU, P.moreF hF⟩
def wCells (p : Nat) (rv vv lv : Value) (bad : Bool) : Obj := .cells #[ptr p, rv, vv, lv, .bool bad] 50 (0, 0)
structure Wm (w : World) (base q p : Nat) (F U : Nat → Prop) (W : Wld St) (rv vv lv : Value) (xs : List Rx) : Prop where
  cells : w.heap[q]? = some (wCells p rv vv lv W.bad)
  low : base ≤ q
  m : MgrO base F U p W.m w
  rows : RowL w base rv W.rows
  vers : RowV w base vv W.vers
  list : RowX w base lv xs
  fst : xs.map (·.1) = W.list
  rd : ∀ x ∈ xs, RowS w base x.2.1 x.1.reads
  wr : ∀ x ∈ xs, RowL w base x.2.2 x.1.writes
  rdd : ∀ (i j : Nat) x y, i ≠ j → xs[i]? = some x → xs[j]? = some y → ∀ b, x.2.1.ownBlock = some b → y.2.1.ownBlock ≠ some b
  wrd : ∀ (i j : Nat) x y, i ≠ j → xs[i]? = some x → xs[j]? = some y → ∀ b, x.2.2.ownBlock = some b → y.2.2.ownBlock ≠ some b
  wF : ∀ x ∈ xs, ∀ b, x.2.2.ownBlock = some b → F b
  rF : ∀ b, rv.ownBlock = some b → ¬ F b
  Flt : ∀ k, F k → k < w.heap.size
  qU : U q
  vU : ∀ b, vv.ownBlock = some b → U b
  lU : ∀ b, lv.ownBlock = some b → U b
  rdU : ∀ x ∈ xs, ∀ b, x.2.1.ownBlock = some b → U b
  wrU : ∀ x ∈ xs, ∀ b, x.2.2.ownBlock = some b → U b
  top : Top U w
section
variable {w w' : World} {base q p : Nat} {F U : Nat → Prop} {W : Wld St} {rv vv lv : Value} {xs : List Rx}
theorem Wm.cell (h : Wm w base q p F U W rv vv lv xs) : w.cell? ⟨q, 0, none⟩ = some (ptr p) ∧ w.cell? ⟨q, 1, none⟩ = some rv ∧ w.cell? ⟨q, 2, none⟩ = some vv ∧ w.cell? ⟨q, 3, none⟩ = some lv ∧ w.cell? ⟨q, 4, none⟩ = some (.bool W.bad) :=
  ⟨cell_of_row w q 0 _ 50 (0, 0) h.cells, cell_of_row w q 1 _ 50 (0, 0) h.cells, cell_of_row w q 2 _ 50 (0, 0) h.cells, cell_of_row w q 3 _ 50 (0, 0) h.cells, cell_of_row w q 4 _ 50 (0, 0) h.cells⟩
/-- the manager has gone on -/
theorem Wm.keep (h : Wm w base q p F U W rv vv lv xs) (k : KeepO U w w') {S' : Sm St} (hM : MgrO base F U p S' w') : Wm w' base q p F U { W with m := S' } rv vv lv xs := by
  have mv : ∀ {α : Type} {enc : α → List Value} {n e : Nat} {v : Value} {l : List α}, Lo enc n e w base v l → e ≠ 90 → e ≠ 150 → e ≠ 101 → Lo enc n e w' base v l := fun hl h1 h2 h3 => hl.move fun b hb => by
    obtain ⟨_, _, c, hc⟩ := hl.typed b hb
    exact (k.block b _ _ _ hc h1 h2 h3).trans hc.symm
  exact ⟨k.block _ _ _ _ h.cells (by decide) (by decide) (by decide), h.low, hM, mv h.rows (by decide) (by decide) (by decide), mv h.vers (by decide) (by decide) (by decide), mv h.list (by decide) (by decide) (by decide), h.fst, fun x hx => mv (h.rd x hx) (by decide) (by decide) (by decide), fun x hx => mv (h.wr x hx) (by decide) (by decide) (by decide), h.rdd, h.wrd, h.wF, h.rF, fun b hb => Nat.lt_of_lt_of_le (h.Flt b hb) k.fr.size, h.qU, h.vU, h.lU, h.rdU, h.wrU, h.top.later k.fr.size⟩
theorem Wm.below (h : Wm w base q p F U W rv vv lv xs) (b : Below w.heap.size w w') : Wm w' base q p F U W rv vv lv xs :=
  h.keep (KeepO.ofBelow b) (h.m.below b)
theorem Wm.slices (h : Wm w base q p F U W rv vv lv xs) : ∀ x ∈ xs, isSl x.2.1 ∧ isSl x.2.2 := fun x hx => by
  obtain ⟨A, c, e, _⟩ := (h.rd x hx).slice
  obtain ⟨A', c', e', _⟩ := (h.wr x hx).slice
  exact ⟨⟨A, _, c, e⟩, ⟨A', _, c', e'⟩⟩
end
end Go.Proofs.YthaoedfalkebbaaGreat
namespace Go.Proofs.YthaoedfalkebbaaGreat
open Go.RowKit Go.Maps Go.Sort Go.Lib Go.Shelf Go.Proofs.YthaoedfalkebbaaGreatW.PrintWords Go.Proofs.YthaoedfalkebbaaGreatW.PrintLast Go.Proofs.YthaoedfalkebbaaGreatW.PrintMore
set_option linter.unusedVariables false
set_option linter.unusedSimpArgs false
set_option linter.unusedSectionVars false
set_option maxHeartbeats 16000000 in
set_option maxRecDepth 100000 in
theorem sees_walk (q g i n c nr cr nw cw : Nat) (Ar Aw : Option Addr) (a : Lk) (snap r : Int) (b : Bool) (w w1 : World) (hw1 : w1 = w.alloc (.cells #[.string a.1, .string a.2] 23)) (Post : World → Prop) (hi : i < n) (hnb : n ≤ 1000000000000000)
    (CEL : ∀ W, Below w1.heap.size w1 W → W.cell? ⟨q, 3, none⟩ = some (.slice (some ⟨g, 0, none⟩) n c) ∧ W.cell? ⟨g, i * 8 + 7, none⟩ = some (.slice Aw nw cw) ∧ W.cell? ⟨g, i * 8 + 6, none⟩ = some (.slice Ar nr cr) ∧ W.cell? ⟨g, i * 8 + 1, none⟩ = some (.int .i64 snap) ∧ W.cell? ⟨w.heap.size, 0, none⟩ = some (.string a.1) ∧ W.cell? ⟨w.heap.size, 1, none⟩ = some (.string a.2))
    (HAS : ∀ n, Calls Tryz.prog 22 #[.slice Aw nw cw, .agg #[.string a.1, .string a.2]] (w1.drewN n) fun e w2 => e = .returned (.bool b) ∧ Below w1.heap.size w1 w2)
    (IN : b = true → ∀ W, Below w1.heap.size w1 W → Post W)
    (NEWc : ∀ W, Below w1.heap.size w1 W → Calls Tryz.prog 58 #[ptr q, .agg #[.string a.1, .string a.2], .int .i64 snap] W fun e w3 => e = .returned (.int .i64 r) ∧ Below W.heap.size W w3)
    (APP : b = false → ∀ W, Below w1.heap.size w1 W → ∃ A5 n5 c5 w5, (Builtin.append_ #[55, 55] 55 #[.slice Ar nr cr, .slice (some ⟨W.heap.size, 0, none⟩) 1 1]).run Tryz.prog (W.alloc (.cells #[.string a.1, .string a.2, .int .i64 r] 130)) = .ok (.slice A5 n5 c5) w5 ∧ w5.cell? ⟨g, i * 8 + 6, none⟩ = some (.slice Ar nr cr) ∧ w5.cell? ⟨g, i * 8 + 1, none⟩ = some (.int .i64 snap) ∧ w5.cell? ⟨w.heap.size, 0, none⟩ = some (.string a.1) ∧ w5.cell? ⟨w.heap.size, 1, none⟩ = some (.string a.2) ∧ w5.frozen? ⟨g, i * 8 + 6, none⟩ = false ∧ Post (w5.setCell ⟨g, i * 8 + 6, none⟩ (.slice A5 n5 c5))) :
    Calls Tryz.prog 57 #[ptr q, .int .i64 i, .agg #[.string a.1, .string a.2]] w fun e w' => e = .returned (.tuple #[]) ∧ Post w' := by
  obtain ⟨c3, e7, e6, e1, b0, b1⟩ := CEL w1 (Below.refl _ _)
  replace CEL := Aside0.mk CEL
  replace IN := Aside0.mk IN
  replace NEWc := Aside0.mk NEWc
  replace APP := Aside0.mk APP
  go_enter Tryz.func57, Tryz.ntmps57
  go_upto_region 1 with (fail)
  rw [← hw1]
  clear hw1
  go_wp2_with fail
  go_region_held3 (fun V => V.cell? ⟨g, i * 8 + 7, none⟩ = some (.slice Aw nw cw) ∧ V.cell? ⟨w.heap.size, 0, none⟩ = some (.string a.1) ∧ V.cell? ⟨w.heap.size, 1, none⟩ = some (.string a.2)) (first | exact K2 | exact ⟨e7, b0, b1⟩)
    ((go_at_call 22; refine (HAS _).mono ?_; rintro e w2 ⟨rfl, B12⟩; have K2 : w2.cell? ⟨g, i * 8 + 7, none⟩ = some (.slice Aw nw cw) ∧ w2.cell? ⟨w.heap.size, 0, none⟩ = some (.string a.1) ∧ w2.cell? ⟨w.heap.size, 1, none⟩ = some (.string a.2) := ⟨(CEL.out w2 B12).2.1, (CEL.out w2 B12).2.2.2.2⟩))
  clear c3 e7 e6 e1 b0 b1 K2 HAS
  cases b with
  | true =>
    have P := Aside0.mk (IN.out rfl w2 B12)
    clear B12
    go_wp2
    go_end0
    exact ⟨rfl, P.out⟩
  | false =>
    replace APP := Aside0.mk (APP.out rfl)
    obtain ⟨c3, e7, e6, e1, b0, b1⟩ := CEL.out w2 B12
    have B12d : Below w1.heap.size w1 w2.drew := B12.grown (drewG w2) B12.size (by simp)
    have NW := NEWc.out w2.drew B12d
    clear IN
    go_wp2_with fail
    refine start_ (n := 19) (S := fun w' => w'.cell? ⟨g, i * 8 + 6, none⟩ = some (.slice Ar nr cr) ∧ w'.cell? ⟨g, i * 8 + 1, none⟩ = some (.int .i64 snap) ∧ w'.cell? ⟨w.heap.size, 0, none⟩ = some (.string a.1) ∧ w'.cell? ⟨w.heap.size, 1, none⟩ = some (.string a.2)) (ds := [18]) #[false, false, false, false, false, false, false, false, false, false, false, false, false, false, false, false, false, false, false] (by kernel_rfl) rfl rfl ⟨e6, e1, b0, b1⟩ (fun hHeld => ?_)
    refine pure_ (i := 0) (N := some 20) (v := ?_) (a' := ?_) #[true, false, false, false, false, false, false, false, false, false, false, false, false, false, false, false, false, false, false] rfl rfl (by kernel_rfl) (fun _ _ _ h => h) (Or.inl ⟨by rfl, ?_⟩) ?_ ?_
    rotate_left
    · intro w'
      go_simp
      with_reducible rfl
    rotate_left
    · simp only [Act.put, List.setIfInBounds_toArray, List.set_cons_zero, List.set_cons_succ, i64_w, i32_w]
      rfl
    refine pure_ (i := 1) (N := some 21) (v := ?_) (a' := ?_) #[true, true, false, false, false, false, false, false, false, false, false, false, false, false, false, false, false, false, false] rfl rfl (by kernel_rfl) (fun _ _ _ h => h) (Or.inl ⟨by rfl, ?_⟩) ?_ ?_
    rotate_left
    · intro w'
      go_simp
      with_reducible rfl
    rotate_left
    · simp only [Act.put, List.setIfInBounds_toArray, List.set_cons_zero, List.set_cons_succ, i64_w, i32_w]
      rfl
    refine pure_ (i := 2) (N := some 22) (v := ?_) (a' := ?_) #[true, true, true, false, false, false, false, false, false, false, false, false, false, false, false, false, false, false, false] rfl rfl (by kernel_rfl) (fun _ _ _ h => h) (Or.inl ⟨by rfl, ?_⟩) ?_ ?_
    rotate_left
    · intro w'
      go_simp
      with_reducible rfl
    rotate_left
    · simp only [Act.put, List.setIfInBounds_toArray, List.set_cons_zero, List.set_cons_succ, i64_w, i32_w]
      rfl
    refine pure_ (i := 3) (N := some 23) (v := ?_) (a' := ?_) #[true, true, true, true, false, false, false, false, false, false, false, false, false, false, false, false, false, false, false] rfl rfl (by kernel_rfl) (fun _ _ _ h => h) (Or.inl ⟨by rfl, ?_⟩) ?_ ?_
    rotate_left
    · intro w'
      go_simp
      with_reducible rfl
    rotate_left
    · simp only [Act.put, List.setIfInBounds_toArray, List.set_cons_zero, List.set_cons_succ, i64_w, i32_w]
      rfl
    refine pure_ (i := 6) (N := some 26) (v := ?_) (a' := ?_) #[true, true, true, true, false, false, true, false, false, false, false, false, false, false, false, false, false, false, false] rfl rfl (by kernel_rfl) (fun _ _ _ h => h) (Or.inl ⟨by rfl, ?_⟩) ?_ ?_
    rotate_left
    · intro w'
      go_simp
      with_reducible rfl
    rotate_left
    · simp only [Act.put, List.setIfInBounds_toArray, List.set_cons_zero, List.set_cons_succ, i64_w, i32_w]
      rfl
    refine pure_ (i := 8) (N := some 28) (v := ?_) (a' := ?_) #[true, true, true, true, false, false, true, false, true, false, false, false, false, false, false, false, false, false, false] rfl rfl (by kernel_rfl) (fun _ _ _ h => h) (Or.inl ⟨by rfl, ?_⟩) ?_ ?_
    rotate_left
    · intro w'
      go_simp
      with_reducible rfl
    rotate_left
    · simp only [Act.put, List.setIfInBounds_toArray, List.set_cons_zero, List.set_cons_succ, i64_w, i32_w]
      rfl
    refine pure_ (i := 9) (N := some 29) (v := ?_) (a' := ?_) #[true, true, true, true, false, false, true, false, true, true, false, false, false, false, false, false, false, false, false] rfl rfl (by kernel_rfl) (fun _ _ _ h => h) (Or.inl ⟨by rfl, ?_⟩) ?_ ?_
    rotate_left
    · intro w'
      go_simp
      with_reducible rfl
    rotate_left
    · simp only [Act.put, List.setIfInBounds_toArray, List.set_cons_zero, List.set_cons_succ, i64_w, i32_w]
      rfl
    refine pure_ (i := 10) (N := some 30) (v := ?_) (a' := ?_) #[true, true, true, true, false, false, true, false, true, true, true, false, false, false, false, false, false, false, false] rfl rfl (by kernel_rfl) (fun _ _ _ h => h) (Or.inl ⟨by rfl, ?_⟩) ?_ ?_
    rotate_left
    · intro w'
      go_simp
      with_reducible rfl
    rotate_left
    · simp only [Act.put, List.setIfInBounds_toArray, List.set_cons_zero, List.set_cons_succ, i64_w, i32_w]
      rfl
    refine take_ (i := 4) (N := some 24) (v := ?_) (a' := ?_) #[true, true, true, true, true, false, true, false, true, true, true, false, false, false, false, false, false, false, false] rfl rfl (by kernel_rfl) (fun _ _ _ h => h) (Or.inl ⟨by rfl, ?_⟩) hHeld ?_ ?_
    rotate_left
    · rintro w' ⟨s0, s1, s2, s3⟩
      go_simp
      with_reducible rfl
    rotate_left
    · simp only [Act.put, List.setIfInBounds_toArray, List.set_cons_zero, List.set_cons_succ, i64_w, i32_w]
      rfl
    refine take_ (i := 5) (N := some 25) (v := ?_) (a' := ?_) #[true, true, true, true, true, true, true, false, true, true, true, false, false, false, false, false, false, false, false] rfl rfl (by kernel_rfl) (fun _ _ _ h => h) (Or.inl ⟨by rfl, ?_⟩) hHeld ?_ ?_
    rotate_left
    · rintro w' ⟨s0, s1, s2, s3⟩
      go_simp
      with_reducible rfl
    rotate_left
    · simp only [Act.put, List.setIfInBounds_toArray, List.set_cons_zero, List.set_cons_succ, i64_w, i32_w]
      rfl
    refine take_ (i := 7) (N := some 27) (v := ?_) (a' := ?_) #[true, true, true, true, true, true, true, true, true, true, true, false, false, false, false, false, false, false, false] rfl rfl (by kernel_rfl) (fun _ _ _ h => h) (Or.inl ⟨by rfl, ?_⟩) hHeld ?_ ?_
    rotate_left
    · rintro w' ⟨s0, s1, s2, s3⟩
      go_simp
      with_reducible rfl
    rotate_left
    · simp only [Act.put, List.setIfInBounds_toArray, List.set_cons_zero, List.set_cons_succ, i64_w, i32_w]
      rfl
    refine take_ (i := 11) (N := some 31) (v := ?_) (a' := ?_) #[true, true, true, true, true, true, true, true, true, true, true, true, false, false, false, false, false, false, false] rfl rfl (by kernel_rfl) (fun _ _ _ h => h) (Or.inl ⟨by rfl, ?_⟩) hHeld ?_ ?_
    rotate_left
    · rintro w' ⟨s0, s1, s2, s3⟩
      go_simp
      with_reducible rfl
    rotate_left
    · simp only [Act.put, List.setIfInBounds_toArray, List.set_cons_zero, List.set_cons_succ, i64_w, i32_w]
      rfl
    refine one_ (i := 12) (N := some 32) #[true, true, true, true, true, true, true, true, true, true, true, true, true, false, false, false, false, false, false] rfl rfl (by kernel_rfl) (by decide) (fun K hK => ?_)
    refine goes_ Tryz.func58 (by kernel_rfl) rfl #[ptr q, .agg #[.string a.1, .string a.2], .int .i64 snap] (by rfl) rfl rfl (by simp only [List.map_toArray, List.map_cons, List.map_nil]; rfl) ?_
    with_reducible refine (NW).mono ?_
    rintro e w3 ⟨rfl, B3⟩
    refine ⟨_, rfl, ?_⟩
    have B13 := below_then B12d B12d.size B3
    obtain ⟨A5, n5, c5, w5, hrun, f6, f1, g0, g1, fz, HP⟩ := APP.out w3 B13
    refine hK.out _ _ ⟨below_cell B3 e6, below_cell B3 e1, below_cell B3 b0, below_cell B3 b1⟩ (fun hHeld => ?_)
    clear hK K
    refine norm_ (a' := ?_) ?_ ?_
    rotate_left
    · show Act.put _ (some 32) _ = _
      simp only [Act.put, List.setIfInBounds_toArray, List.set_cons_zero, List.set_cons_succ, i64_w, i32_w]
      rfl
    refine pure_ (i := 13) (N := some 33) (v := ?_) (a' := ?_) #[true, true, true, true, true, true, true, true, true, true, true, true, true, true, false, false, false, false, false] rfl rfl (by kernel_rfl) (fun _ _ _ h => h) (Or.inl ⟨by rfl, ?_⟩) ?_ ?_
    rotate_left
    · intro w'
      go_simp
      with_reducible rfl
    rotate_left
    · simp only [Act.put, List.setIfInBounds_toArray, List.set_cons_zero, List.set_cons_succ, i64_w, i32_w]
      rfl
    refine one_ (i := 14) (N := some 34) #[true, true, true, true, true, true, true, true, true, true, true, true, true, true, true, false, false, false, false] rfl rfl (by kernel_rfl) (by decide) (fun K hK => ?_)
    refine value_ (w1 := ?_) (v := ?_) (by rfl) rfl ?_ ?_
    rotate_left 2
    · go_simp
      constructor
      · rfl
      · rfl
    refine hK.out _ _ ⟨below_cell (allocB w3 _) (below_cell B3 e6), below_cell (allocB w3 _) (below_cell B3 e1), below_cell (allocB w3 _) (below_cell B3 b0), below_cell (allocB w3 _) (below_cell B3 b1)⟩ (fun hHeld => ?_)
    clear hK K
    refine norm_ (a' := ?_) ?_ ?_
    rotate_left
    · show Act.put _ (some 34) _ = _
      simp only [Act.put, List.setIfInBounds_toArray, List.set_cons_zero, List.set_cons_succ, i64_w, i32_w]
      rfl
    refine one_ (i := 15) (N := some 35) #[true, true, true, true, true, true, true, true, true, true, true, true, true, true, true, true, false, false, false] rfl rfl (by kernel_rfl) (by decide) (fun K hK => ?_)
    refine app_step (by rfl) (by rfl) (by rfl) (by rfl) hrun ?_
    refine hK.out _ _ ⟨f6, f1, g0, g1⟩ (fun hHeld => ?_)
    clear hK K
    refine norm_ (a' := ?_) ?_ ?_
    rotate_left
    · show Act.put _ (some 35) _ = _
      simp only [Act.put, List.setIfInBounds_toArray, List.set_cons_zero, List.set_cons_succ, i64_w, i32_w]
      rfl
    refine pure_ (i := 16) (N := some 36) (v := ?_) (a' := ?_) #[true, true, true, true, true, true, true, true, true, true, true, true, true, true, true, true, true, false, false] rfl rfl (by kernel_rfl) (fun _ _ _ h => h) (Or.inl ⟨by rfl, ?_⟩) ?_ ?_
    rotate_left
    · intro w'
      go_simp
      with_reducible rfl
    rotate_left
    · simp only [Act.put, List.setIfInBounds_toArray, List.set_cons_zero, List.set_cons_succ, i64_w, i32_w]
      rfl
    refine pure_ (i := 17) (N := some 37) (v := ?_) (a' := ?_) #[true, true, true, true, true, true, true, true, true, true, true, true, true, true, true, true, true, true, false] rfl rfl (by kernel_rfl) (fun _ _ _ h => h) (Or.inl ⟨by rfl, ?_⟩) ?_ ?_
    rotate_left
    · intro w'
      go_simp
      with_reducible rfl
    rotate_left
    · simp only [Act.put, List.setIfInBounds_toArray, List.set_cons_zero, List.set_cons_succ, i64_w, i32_w]
      rfl
    refine last_ (i := 18) (N := none) #[true, true, true, true, true, true, true, true, true, true, true, true, true, true, true, true, true, true, true] rfl rfl (by kernel_rfl) (by decide) (fun K hK => ?_)
    refine skip_ (w1 := ?_) (by rfl) rfl ?_ ?_
    rotate_left
    · go_simp
      rfl
    refine hK.out _ _ ?_
    clear hK K
    refine done_ (by kernel_rfl) ?_

    replace HP := Aside0.mk HP
    clear e7 e6 e1 b0 b1 c3 NW hrun f6 f1 g0 g1 fz
    go_wp2
    go_end0
    exact ⟨rfl, HP.out⟩
end Go.Proofs.YthaoedfalkebbaaGreat
namespace Go.Proofs.YthaoedfalkebbaaGreat
open Go.RowKit Go.Maps Go.Sort Go.Lib Go.Shelf Go.Proofs.YthaoedfalkebbaaGreatW.PrintWords Go.Proofs.YthaoedfalkebbaaGreatW.PrintLast Go.Proofs.YthaoedfalkebbaaGreatW.PrintMore
set_option linter.unusedVariables false
set_option linter.unusedSimpArgs false
set_option linter.unusedSectionVars false
theorem reps_set1 {α : Type} {enc : α → List Value} {k : Nat} {xs : List α} {inner : List Value} (h : Reps (fun x cs => cs = enc x) k xs inner) (i j : Nat) (hi : i < xs.length) (hj : j < k) (x : α) (u : Value) (hx : enc x = (enc xs[i]).set j u) : Reps (fun x cs => cs = enc x) k (xs.set i x) (inner.set (i * k + j) u) := by
  refine ⟨by rw [List.length_set, List.length_set]; exact h.1, fun m y hy => ?_⟩
  rw [List.getElem?_set] at hy
  by_cases e : i = m
  · subst e
    rw [if_pos rfl, if_pos hi] at hy
    injection hy with hy
    subst hy
    have h2 : (inner.drop (i * k)).take k = enc xs[i] := h.2 i _ (List.getElem?_eq_getElem hi)
    show ((inner.set (i * k + j) u).drop (i * k)).take k = enc x
    rw [List.drop_set, if_neg (by omega), List.take_set, h2, hx]
    congr 1
    omega
  · rw [if_neg e] at hy
    have h2 : (inner.drop (m * k)).take k = enc y := h.2 m y hy
    show ((inner.set (i * k + j) u).drop (m * k)).take k = enc y
    rw [← h2, List.drop_set]
    rcases Nat.lt_or_ge i m with hl | hl
    · have : (i + 1) * k ≤ m * k := Nat.mul_le_mul_right _ hl
      rw [Nat.add_mul, Nat.one_mul] at this
      rw [if_pos (by omega)]
    · have : (m + 1) * k ≤ i * k := Nat.mul_le_mul_right _ (by omega)
      rw [Nat.add_mul, Nat.one_mul] at this
      rw [if_neg (by omega), List.take_set, List.set_eq_of_length_le]
      rw [List.length_take]
      omega
theorem Lo.setf {α : Type} {enc : α → List Value} {k e base g n c : Nat} {w : World} {xs : List α} (h : Lo enc k e w base (.slice (some ⟨g, 0, none⟩) n c) xs) (i j : Nat) (hi : i < xs.length) (hj : j < k) (x : α) (u : Value) (hx : enc x = (enc xs[i]).set j u) : Lo enc k e (w.setCell ⟨g, i * k + j, none⟩ u) base (.slice (some ⟨g, 0, none⟩) n c) (xs.set i x) := by
  obtain ⟨inner, ⟨hl, hr⟩, hp⟩ := h
  refine ⟨inner.set (i * k + j) u, ⟨by rw [List.length_set, List.length_set]; exact hl, ?_⟩, reps_set1 hp i j hi hj x u hx⟩
  rcases hr with ⟨h1, _⟩ | ⟨g', cap, cur, hv, hb, hh, hnc, hcm, hcs, ht⟩
  · cases h1
  · injection hv with e1 e2 e3
    injection e1 with e1
    injection e1 with e1
    subst e1
    subst e3
    refine .inr ⟨g, c, _, by rw [List.length_set, e2], hb, blk_set hh _ _, by rw [List.length_set]; exact hnc, hcm, by simpa using hcs, ?_⟩
    rw [← ht, List.length_set]
    simp only [Array.toList_setIfInBounds, List.take_set]
theorem Lo.blk {α : Type} {enc : α → List Value} {k e base g n c : Nat} {w : World} {xs : List α} (h : Lo enc k e w base (.slice (some ⟨g, 0, none⟩) n c) xs) : ∃ cs, w.heap[g]? = some (.cells cs e (0, 0)) := by
  obtain ⟨_, _, cs, hc⟩ := h.typed g rfl
  exact ⟨cs, hc⟩
section
variable {w w' : World} {base q p : Nat} {F U : Nat → Prop} {W : Wld St} {rv vv lv : Value} {xs : List Rx}
/-- kinds that neither a manager nor the law's world writes -/
def othK (e : TypeId) : Bool := e != 50 && e != 57 && e != 125 && e != 130 && e != 23 && e != 90 && e != 150 && e != 101
theorem oth_ne {e : TypeId} (h : othK e = true) : e ≠ 90 ∧ e ≠ 150 ∧ e ≠ 101 := by
  unfold othK at h
  simp only [Bool.and_eq_true, bne_iff_ne, ne_eq] at h
  exact ⟨h.1.1.2, h.1.2, h.2⟩
/-- what is not of U stays, and what is of other kinds -/
structure KeepW (U : Nat → Prop) (w w' : World) : Prop where
  fr : Fr U w w'
  block : ∀ (k : Nat) (c : Array Value) (e : TypeId) (s : Nat × Nat), w.heap[k]? = some (.cells c e s) → othK e = true → w'.heap[k]? = some (.cells c e s)
theorem KeepW.trans {U : Nat → Prop} {a b c : World} (h : KeepW U a b) (k : KeepW U b c) : KeepW U a c := ⟨h.fr.trans k.fr (fun _ h _ => h), fun g cs e s hg h1 => k.block g cs e s (h.block g cs e s hg h1) h1⟩
theorem KeepO.toW {U : Nat → Prop} {a b : World} (h : KeepO U a b) : KeepW U a b := ⟨h.fr, fun k c e s hk he => h.block k c e s hk (oth_ne he).1 (oth_ne he).2.1 (oth_ne he).2.2⟩
theorem KeepW.ofBelow {U : Nat → Prop} {base : Nat} {W W' : World} (h : Below W.heap.size W W') (hb : base ≤ W.heap.size) : KeepW U W W' := (KeepO.ofBelow h).toW
theorem KeepW.ofFr {O : Nat → Prop} (f : Fr O w w') (hO : ∀ k, O k → U k ∧ ∃ c e s, w.heap[k]? = some (.cells c e s) ∧ othK e = false) : KeepW U w w' :=
  ⟨f.mono (fun k hk _ => (hO k hk).1), fun k c e s hk he => f.block k _ (fun ho => by
    obtain ⟨_, c', e', s', h1, h2⟩ := hO k ho
    rw [hk] at h1
    injection h1 with h1
    injection h1 with _ h1 _
    subst h1
    rw [he] at h2
    cases h2) hk⟩
/-- a run's reads are another row now; k1: what lies behind the append, k2: behind the store -/
theorem Wm.setRd (h : Wm w base q p F U W rv vv lv xs) {i : Nat} {x : Rx} (hx : xs[i]? = some x) {g n c : Nat} (hlv : lv = .slice (some ⟨g, 0, none⟩) n c) {w5 : World} {v5 : Value} {rs : List Sw} {x' : Run} (h5 : RowS w5 base v5 rs) (hx' : x' = { x.1 with reads := rs })
    (F5 : Fr (fun k => x.2.1.ownBlock = some k) w w5) (hv5 : ∀ b, v5.ownBlock = some b → x.2.1.ownBlock = some b ∨ w.heap.size ≤ b) :
    Wm (w5.setCell ⟨g, i * 8 + 6, none⟩ v5) base q p F U { W with list := W.list.set i x' } rv vv lv (xs.set i (x', v5, x.2.2)) ∧ KeepW U w (w5.setCell ⟨g, i * 8 + 6, none⟩ v5) := by
  subst hlv
  have hi := (List.getElem?_eq_some_iff.1 hx).1
  have hxe : xs[i] = x := (List.getElem?_eq_some_iff.1 hx).2
  have hmem : x ∈ xs := List.mem_of_getElem? hx
  obtain ⟨gc, hg⟩ := h.list.blk
  have glt := (Array.getElem?_eq_some_iff.1 hg).1
  have G6 := grown_set w5 g (i * 8 + 6) v5
  have F6 : Fr (fun k => x.2.1.ownBlock = some k ∨ k = g) w (w5.setCell ⟨g, i * 8 + 6, none⟩ v5) := (F5.mono (fun k hk _ => .inl hk)).trans (Fr.grown G6) (fun k hk _ => by injection hk with hk; exact .inr hk.symm)
  have kindR : ∀ k, x.2.1.ownBlock = some k → ∃ cs, w.heap[k]? = some (.cells cs 130 (0, 0)) := fun k hk => by
    obtain ⟨_, _, cs, hc⟩ := (h.rd x hmem).typed k hk
    exact ⟨cs, hc⟩
  have hOk : ∀ k, (x.2.1.ownBlock = some k ∨ k = g) → ∃ cs e, w.heap[k]? = some (.cells cs e (0, 0)) ∧ (e = 130 ∨ e = 57) := fun k hk => by
    rcases hk with hk | rfl
    · obtain ⟨cs, hc⟩ := kindR k hk
      exact ⟨cs, 130, hc, .inl rfl⟩
    · exact ⟨gc, 57, hg, .inr rfl⟩
  have hno : ∀ k cs e s, w.heap[k]? = some (.cells cs e s) → e ≠ 130 → e ≠ 57 → ¬ (x.2.1.ownBlock = some k ∨ k = g) := fun k cs e s hk h1 h2 ho => by
    obtain ⟨cs', e', hc, he⟩ := hOk k ho
    rw [hk] at hc
    injection hc with hc
    injection hc with _ hc _
    subst hc
    rcases he with he | he
    · exact h1 he
    · exact h2 he
  have mv : ∀ {α : Type} {enc : α → List Value} {m e : Nat} {v : Value} {l : List α}, Lo enc m e w base v l → e ≠ 130 → e ≠ 57 → Lo enc m e (w5.setCell ⟨g, i * 8 + 6, none⟩ v5) base v l := fun hl h1 h2 => hl.move fun b hb => by
    obtain ⟨_, _, cs, hc⟩ := hl.typed b hb
    exact (F6.block b _ (hno b cs _ _ hc h1 h2) hc).trans hc.symm
  have hgR : x.2.1.ownBlock ≠ some g := fun e => by
    obtain ⟨cs, hc⟩ := kindR g e
    rw [hg] at hc
    injection hc with hc
    injection hc with _ hc _
    cases hc
  have hl5 : RowX w5 base (.slice (some ⟨g, 0, none⟩) n c) xs := h.list.move fun b hb => by
    injection hb with hb
    subst hb
    exact (F5.block g _ hgR hg).trans hg.symm
  have hg5 : w5.heap[g]? = some (.cells gc 57 (0, 0)) := F5.block g _ hgR hg
  have hv5g : v5.ownBlock ≠ some g := fun e => by
    rcases hv5 g e with h1 | h1
    · exact hgR h1
    · omega
  have low : base ≤ w.heap.size := h.m.size
  have hF5 : ∀ b, v5.ownBlock = some b → ∀ j y, j ≠ i → xs[j]? = some y → y.2.1.ownBlock ≠ some b := fun b hb j y hj hy hyb => by
    rcases hv5 b hb with h1 | h1
    · exact h.rdd j i y x hj hy hx b hyb h1
    · have := ((h.rd y (List.mem_of_getElem? hy)).typed b hyb).2.1
      omega
  have cases_ : ∀ (j : Nat) y, (xs.set i (x', v5, x.2.2))[j]? = some y → (j = i ∧ y = (x', v5, x.2.2)) ∨ (j ≠ i ∧ xs[j]? = some y) := fun j y hy => by
    rw [List.getElem?_set] at hy
    by_cases e : i = j
    · rw [if_pos e] at hy
      subst e
      rw [if_pos hi] at hy
      injection hy with hy
      exact .inl ⟨rfl, hy.symm⟩
    · rw [if_neg e] at hy
      exact .inr ⟨fun e2 => e e2.symm, hy⟩
  have rdo : ∀ (j : Nat) y, j ≠ i → xs[j]? = some y → RowS (w5.setCell ⟨g, i * 8 + 6, none⟩ v5) base y.2.1 y.1.reads := fun j y hj hy => (h.rd y (List.mem_of_getElem? hy)).move fun b hb => by
    obtain ⟨_, _, cs, hc⟩ := (h.rd y (List.mem_of_getElem? hy)).typed b hb
    refine (F6.block b _ (fun ho => ?_) hc).trans hc.symm
    rcases ho with ho | ho
    · exact h.rdd j i y x hj hy hx b hb ho
    · rw [ho, hg] at hc
      injection hc with hc
      injection hc with _ hc _
      cases hc
  have rdn : RowS (w5.setCell ⟨g, i * 8 + 6, none⟩ v5) base v5 rs := h5.grown G6 (fun b hb => by injection hb with hb; subst hb; exact hv5g)
  refine ⟨⟨?_, h.low, ?_, mv h.rows (by decide) (by decide), mv h.vers (by decide) (by decide), ?_, ?_, ?_, ?_, ?_, ?_, ?_, h.rF, fun b hb => Nat.lt_of_lt_of_le (h.Flt b hb) F6.size, h.qU, h.vU, h.lU, ?_, ?_, h.top.later F6.size⟩, ?_⟩
  · exact F6.block q _ (hno q _ _ _ h.cells (by decide) (by decide)) h.cells
  · refine h.m.frF F6 (fun k hk => ?_)
    obtain ⟨cs, e, hc, he⟩ := hOk k hk
    refine ⟨cs, e, _, hc, ?_⟩
    rcases he with rfl | rfl <;> exact ⟨by decide, by decide, by decide, by decide, by decide, fun h => by cases h⟩
  · refine hl5.setf i 6 hi (by decide) (x', v5, x.2.2) v5 ?_
    rw [hxe, hx']
    rfl
  · rw [List.map_set, h.fst]
  · intro y hy
    obtain ⟨j, hj⟩ := List.mem_iff_getElem?.1 hy
    rcases cases_ j y hj with ⟨_, rfl⟩ | ⟨e, hj2⟩
    · rw [hx']
      exact rdn
    · exact rdo j y e hj2
  · intro y hy
    obtain ⟨j, hj⟩ := List.mem_iff_getElem?.1 hy
    rcases cases_ j y hj with ⟨_, rfl⟩ | ⟨e, hj2⟩
    · rw [hx']
      exact mv (h.wr x hmem) (by decide) (by decide)
    · exact mv (h.wr y (List.mem_of_getElem? hj2)) (by decide) (by decide)
  · intro j k y z hjk hy hz b hb
    rcases cases_ j y hy with ⟨e1, rfl⟩ | ⟨e1, hy2⟩ <;> rcases cases_ k z hz with ⟨e2, rfl⟩ | ⟨e2, hz2⟩
    · omega
    · exact hF5 b hb k z e2 hz2
    · exact fun hb2 => hF5 b hb2 j y e1 hy2 hb
    · exact h.rdd j k y z hjk hy2 hz2 b hb
  · intro j k y z hjk hy hz b hb
    rcases cases_ j y hy with ⟨e1, rfl⟩ | ⟨e1, hy2⟩ <;> rcases cases_ k z hz with ⟨e2, rfl⟩ | ⟨e2, hz2⟩
    · omega
    · subst e1
      exact h.wrd j k x z hjk hx hz2 b hb
    · subst e2
      exact h.wrd j k y x hjk hy2 hx b hb
    · exact h.wrd j k y z hjk hy2 hz2 b hb
  · intro y hy b hb
    obtain ⟨j, hj⟩ := List.mem_iff_getElem?.1 hy
    rcases cases_ j y hj with ⟨_, rfl⟩ | ⟨e, hj2⟩
    · exact h.wF x hmem b hb
    · exact h.wF y (List.mem_of_getElem? hj2) b hb
  · intro y hy b hb
    obtain ⟨j, hj⟩ := List.mem_iff_getElem?.1 hy
    rcases cases_ j y hj with ⟨_, rfl⟩ | ⟨e, hj2⟩
    · rcases hv5 b hb with e | e
      · exact h.rdU x hmem b e
      · exact h.top b e
    · exact h.rdU y (List.mem_of_getElem? hj2) b hb
  · intro y hy b hb
    obtain ⟨j, hj⟩ := List.mem_iff_getElem?.1 hy
    rcases cases_ j y hj with ⟨_, rfl⟩ | ⟨e, hj2⟩
    · exact h.wrU x hmem b hb
    · exact h.wrU y (List.mem_of_getElem? hj2) b hb
  · refine KeepW.ofFr F6 (fun k hk => ?_)
    obtain ⟨cs, e, hc, he⟩ := hOk k hk
    refine ⟨?_, cs, e, _, hc, ?_⟩
    · rcases hk with hk | rfl
      · exact h.rdU x hmem k hk
      · exact h.lU k rfl
    · rcases he with rfl | rfl <;> rfl
end
end Go.Proofs.YthaoedfalkebbaaGreat
namespace Go.Proofs.YthaoedfalkebbaaGreat
open Go.RowKit Go.Maps Go.Sort Go.Lib Go.Shelf Go.Proofs.YthaoedfalkebbaaGreatW.PrintWords Go.Proofs.YthaoedfalkebbaaGreatW.PrintLast Go.Proofs.YthaoedfalkebbaaGreatW.PrintMore
set_option linter.unusedVariables false
set_option linter.unusedSimpArgs false
set_option linter.unusedSectionVars false
theorem l_append2 {P : Program} (w : World) (base : Nat) (t ty e : TypeId) (i : TypeInfo) (z : Value) (size bytes : Nat) (ht : P.underlying t = some (.slice e)) (hi : P.info? e = some i) (hz : i.zero = some z)
    (hsize : i.size = size) (hby : i.bytes = bytes) (hzs : z.cells.size = size) (hsz : 0 < size)
    (v : Value) (n : Nat) (xs : List Value) (hown : LRow w base e size v n xs)
    (a : Addr) (m c : Nat) (news : List Value) (hl : news.length = m * size) (hnews : ∀ j u, news[j]? = some u → w.cell? (a.add j) = some u) (h1 : ∀ u ∈ news, u.oneCell' = true) (hm : 0 < m)
    (h63 : n + m ≤ maxLen) (hbytes : (n + m) * bytes ≤ 140737488355328) (hbase : base ≤ w.heap.size) :
    ∃ v' w', (Builtin.append_ #[t, t] ty #[v, .slice (some a) m c]).run P w = .ok v' w' ∧ LRow w' base e size v' (n + m) (xs ++ news) ∧ w.grownBy w' v.ownBlock ∧ ∀ b, v'.ownBlock = some b → v.ownBlock = some b ∨ w.heap.size ≤ b := by
  rcases hown.2 with ⟨rfl, rfl⟩ | ⟨g, cap, cur, rfl, hbg, hg, hnc, hcm, hcs, htake⟩
  · have ho : w.ownsRow w.heap.size e size (.slice none 0 0) 0 xs := ⟨hown.1, .inl ⟨rfl, rfl⟩⟩
    obtain ⟨v', w', hr, ho', hg, _⟩ := run_append_own_at (P := P) w w.heap.size t ty e i z size bytes ht hi hz hsize hby hzs hsz _ 0 xs ho a m c news hl hnews h1 h63 hbytes (Nat.le_refl _)
    exact ⟨v', w', hr, l_lower (l_of_own ho') hbase, hg, fun b hb => .inr (l_typed (l_of_own ho') b hb).1⟩
  · by_cases hroom : n + m ≤ cap
    · have hfit : 0 + n * size + news.length ≤ cur.size := by
        have := Nat.mul_le_mul_right size hroom
        rw [Nat.add_mul] at this
        rw [hl]
        omega
      subst hsize
      have hr := run_append_room_cells (P := P) (w := w) t ty e i ht hi g 0 n cap a m c news hl hnews h1 hroom
        (fun j hj => by rw [cell_of_row w g _ cur e (0, 0) hg]; simp; omega) (fun j _ => blk_frozen hg _)
      obtain ⟨cur', h3, h4, h5⟩ := setCells_row news (0 + n * i.size) w cur hg hfit
      obtain ⟨s1, s2, s3, s4⟩ := setCells_same g news (0 + n * i.size) w
      refine ⟨_, _, hr, ⟨by rw [List.length_append, hown.1, hl, Nat.add_mul], .inr ⟨g, cap, cur', rfl, hbg, h3, hroom, hcm, by omega, ?_⟩⟩,
        ⟨s1, s2, s3, by rw [s4]; exact Nat.le_refl _, fun k _ hk => setCells_far news _ k (fun he => hk (by rw [he]; simp [Value.ownBlock]))⟩, fun b hb => .inl hb⟩
      rw [h5, Nat.zero_add, htake]
      exact List.take_left' (by rw [List.length_append, hown.1, hl, Nat.add_mul])
    · obtain ⟨v', w', hr, ho, hg'⟩ := run_append_arg_grows (P := P) (w := w) t ty e i z size bytes ht hi hz hsize hby hzs hsz ⟨g, 0, none⟩ n cap xs hown.1 (fun j u hu => by rw [add_plain]; exact l_cells hown j u hu) a m c news hl hnews (by omega) h63 hbytes
      exact ⟨v', w', hr, l_lower (l_of_own ho) hbase, ⟨hg'.os, hg'.tape, hg'.output, hg'.size, fun k hk _ => hg'.block k hk (by simp)⟩, fun b hb => .inr (l_typed (l_of_own ho) b hb).1⟩
theorem Lo.append2 {P : Program} {α : Type} {enc : α → List Value} {k e base : Nat} {w : World} {v : Value} {xs : List α} (h : Lo enc k e w base v xs) (hn : ∀ x, (enc x).length = k) (h1c : ∀ x, ∀ u ∈ enc x, u.oneCell' = true) (t ty : TypeId) (z : Value) (bytes : Nat) (ht : P.underlying t = some (.slice e)) (hinfo : (P.info? e).map (fun i => (i.zero, i.size, i.bytes)) = some (some z, k, bytes)) (hzs : z.cells.size = k) (hk : 0 < k) (hb0 : 0 < bytes)
    (x : α) (hbytes : (xs.length + 1) * bytes ≤ 140737488355328) (hbase : base ≤ w.heap.size) :
    ∃ v' w', (Builtin.append_ #[t, t] ty #[v, .slice (some ⟨w.heap.size, 0, none⟩) 1 1]).run P (w.alloc (.cells (enc x).toArray e)) = .ok v' w' ∧ Lo enc k e w' base v' (xs ++ [x]) ∧ w.grownBy w' v.ownBlock ∧ ∀ b, v'.ownBlock = some b → v.ownBlock = some b ∨ w.heap.size ≤ b := by
  have hw := h.grown (World.grownBy_alloc w (.cells (enc x).toArray e) none) (fun b e => by cases e)
  obtain ⟨inner, h1, h2⟩ := hw
  obtain ⟨i0, hi0, hzz⟩ := Option.map_eq_some_iff.1 hinfo
  simp only [Prod.mk.injEq] at hzz
  obtain ⟨hz0, hz1, hz2⟩ := hzz
  have hlen : xs.length + 1 ≤ 140737488355328 := Nat.le_trans (Nat.le_mul_of_pos_right _ hb0) hbytes
  obtain ⟨v', w', hr, ho, hg, hb⟩ := l_append2 (P := P) (w.alloc (.cells (enc x).toArray e)) base t ty e i0 z k bytes ht hi0 hz0 hz1 hz2 hzs hk v xs.length inner h1 ⟨w.heap.size, 0, none⟩ 1 1 (enc x) (by rw [hn, Nat.one_mul])
    (by simpa using World.news_of_block (cs := (enc x).toArray) (t := e) (fr := (0, 0)) (heap_alloc_new w (.cells (enc x).toArray e))) (h1c x) (by omega) (by simp only [maxLen]; omega) hbytes (by simp; omega)
  refine ⟨v', w', hr, ⟨_, by rw [List.length_append]; exact ho, h2.snoc rfl (hn x)⟩, trans_grown (World.grownBy_alloc w _ _) hg, fun b h => by rcases hb b h with h1 | h1; exact .inl h1; exact .inr (by simp at h1; omega)⟩
theorem info130 : (Tryz.prog.info? 130).map (fun i => (i.zero, i.size, i.bytes)) = some (some (.agg #[.string ByteArray.empty, .string ByteArray.empty, .int .i64 0]), 3, 40) := by kernel_rfl
theorem encSw_one : ∀ x, ∀ u ∈ encSw x, u.oneCell' = true := fun x u hu => by
  simp only [encSw, List.mem_cons, List.not_mem_nil, or_false] at hu
  rcases hu with rfl | rfl | rfl <;> rfl
theorem set_same {α : Type} {l : List α} {i : Nat} {x : α} (h : l[i]? = some x) : l.set i x = l := by
  apply List.ext_getElem?
  intro j
  rw [List.getElem?_set]
  by_cases e : i = j
  · subst e
    rw [if_pos rfl, if_pos (List.getElem?_eq_some_iff.1 h).1, h]
  · rw [if_neg e]
theorem sees_calls {w : World} {base q p : Nat} {F U : Nat → Prop} {W : Wld St} {rv vv lv : Value} {xs : List Rx} (h : Wm w base q p F U W rv vv lv xs) {i : Nat} {x : Rx} (hx : xs[i]? = some x) (a : Lk) (hr : x.1.reads.length ≤ 2000000000000) (hwl : x.1.writes.length ≤ 2000000000000) (hvs : W.vers.length ≤ 2000000000000) (hxs : xs.length ≤ 2000000000000) :
    Calls Tryz.prog 57 #[ptr q, .int .i64 i, .agg #[.string a.1, .string a.2]] w fun e w' => e = .returned (.tuple #[]) ∧ ∃ v5, Wm w' base q p F U { W with list := W.list.set i (sees W.vers x.1 a) } rv vv lv (xs.set i (sees W.vers x.1 a, v5, x.2.2)) ∧ KeepW U w w' := by
  have hi := (List.getElem?_eq_some_iff.1 hx).1
  have hmem : x ∈ xs := List.mem_of_getElem? hx
  have low : base ≤ w.heap.size := h.m.size
  obtain ⟨A, c, hlv, hlc, hA⟩ := h.list.slice
  obtain ⟨g, rfl, _⟩ := hA (by omega)
  obtain ⟨Ar, cr, hrv, _⟩ := (h.rd x hmem).slice
  obtain ⟨Aw, cw, hwv, _⟩ := (h.wr x hmem).slice
  obtain ⟨w1, hw1⟩ : ∃ w1, w1 = w.alloc (.cells #[.string a.1, .string a.2] 23) := ⟨_, rfl⟩
  obtain ⟨B1, hsz, b0, b1⟩ := lk_box w w1 a hw1
  have hW := fun W' (B : Below w1.heap.size w1 W') => h.below (below_then B1 B1.size B)
  refine sees_walk q g i xs.length c x.1.reads.length cr x.1.writes.length cw Ar Aw a x.1.snap (newest W.vers a x.1.snap) (decide (a ∈ x.1.writes)) w w1 hw1 _ hi (by omega) ?_ ?_ ?_ ?_ ?_
  · intro W' B
    have H := hW W' B
    have hl := H.list
    rw [hlv] at hl
    obtain ⟨_, y1, _, _, _, _, y6, y7⟩ := RowX.at hl i x hx
    rw [hrv] at y6
    rw [hwv] at y7
    have c3 := H.cell.2.2.2.1
    rw [hlv] at c3
    exact ⟨c3, y7, y6, y1, below_cell B b0, below_cell B b1⟩
  · intro n
    have H := (hW w1 (Below.refl _ _)).below (drewB2 w1 n)
    have hw2 := H.wr x hmem
    rw [hwv] at hw2
    refine (has_calls base _ x.1.writes a _ hw2 (by omega)).mono ?_
    rintro e w2 ⟨rfl, B2⟩
    exact ⟨rfl, below_then (drewB2 w1 n) (by simp) B2⟩
  · intro hb W' B
    have hm : a ∈ x.1.writes := of_decide_eq_true hb
    have e : sees W.vers x.1 a = x.1 := by unfold sees; rw [if_pos hm]
    have H := hW W' B
    refine ⟨x.2.1, ?_, KeepW.ofBelow (below_then B1 B1.size B) low⟩
    rw [e, show (x.1, x.2.1, x.2.2) = x from rfl, set_same hx]
    have hl : W.list[i]? = some x.1 := by rw [← h.fst, List.getElem?_map, hx]; rfl
    rw [set_same hl]
    exact H
  · intro W' B
    have H := hW W' B
    exact newest_calls base q vv W.vers a x.1.snap W' H.cell.2.2.1 H.vers (by omega)
  · intro hb W' B
    have hm : a ∉ x.1.writes := of_decide_eq_false hb
    have e : sees W.vers x.1 a = { x.1 with reads := x.1.reads ++ [⟨a, newest W.vers a x.1.snap⟩] } := by unfold sees; rw [if_neg hm]
    have H := hW W' B
    have BW := below_then B1 B1.size B
    obtain ⟨v5, w5, hrun, L5, g5, hown⟩ := Lo.append2 (P := Tryz.prog) (H.rd x hmem) (fun _ => rfl) encSw_one 55 55 _ 40 Tryz.underlying55 info130 rfl (by decide) (by decide) ⟨a, newest W.vers a x.1.snap⟩ (by omega) H.m.size
    have L5k := L5
    obtain ⟨A5, c5, rfl, _⟩ := L5.slice
    rw [hrv] at hrun
    have hl := H.list
    rw [hlv] at hl
    obtain ⟨gc, hg⟩ := hl.blk
    obtain ⟨_, y1, _, _, _, _, y6, y7⟩ := RowX.at hl i x hx
    rw [hrv] at y6
    have kindR : ∀ k, x.2.1.ownBlock = some k → ∃ cs, W'.heap[k]? = some (.cells cs 130 (0, 0)) := fun k hk => by
      obtain ⟨_, _, cs, hc⟩ := (H.rd x hmem).typed k hk
      exact ⟨cs, hc⟩
    have hgR : x.2.1.ownBlock ≠ some g := fun e => by
      obtain ⟨cs, hc⟩ := kindR g e
      rw [hg] at hc
      injection hc with hc
      injection hc with _ hc _
      cases hc
    have hbR : x.2.1.ownBlock ≠ some w.heap.size := fun e => by
      have := ((h.rd x hmem).typed _ e).2.1
      omega
    have F5 : Fr (fun k => x.2.1.ownBlock = some k) W' w5 := Fr.grown g5
    have hg5 : w5.heap[g]? = some (.cells gc 57 (0, 0)) := F5.block g _ hgR hg
    refine ⟨A5, _, c5, w5, hrun, F5.cell y6 hgR, F5.cell y1 hgR, F5.cell (below_cell B b0) hbR, F5.cell (below_cell B b1) hbR, blk_frozen hg5 _, ?_⟩
    rw [e]
    obtain ⟨H6, K6⟩ := H.setRd hx hlv L5k rfl F5 hown
    exact ⟨_, H6, (KeepW.ofBelow BW low).trans K6⟩
end Go.Proofs.YthaoedfalkebbaaGreat
namespace Go.Proofs.YthaoedfalkebbaaGreat
open Go.RowKit Go.Maps Go.Sort Go.Lib Go.Shelf Go.Proofs.YthaoedfalkebbaaGreatW.PrintWords Go.Proofs.YthaoedfalkebbaaGreatW.PrintLast Go.Proofs.YthaoedfalkebbaaGreatW.PrintMore
set_option linter.unusedVariables false
set_option linter.unusedSimpArgs false
set_option linter.unusedSectionVars false
section
variable {w w' : World} {base q p : Nat} {F U : Nat → Prop} {W : Wld St} {rv vv lv : Value} {xs : List Rx}
theorem kind_eq {w : World} {k : Nat} {c c' : Array Value} {e e' : TypeId} {s s' : Nat × Nat} (h : w.heap[k]? = some (.cells c e s)) (h' : w.heap[k]? = some (.cells c' e' s')) : e = e' := by
  rw [h] at h'
  injection h' with h'
  injection h' with _ h' _
/-- the blocks O change alone, each of the world's own kinds -/
theorem Wm.next (h : Wm w base q p F U W rv vv lv xs) {O : Nat → Prop} (f : Fr O w w') (hO : ∀ k, O k → U k ∧ ∃ cs e, w.heap[k]? = some (.cells cs e (0, 0)) ∧ (e = 50 ∨ e = 57 ∨ e = 125 ∨ e = 130 ∨ (e = 23 ∧ F k))) : MgrO base F U p W.m w' ∧ RowL w' base rv W.rows ∧ KeepW U w w' := by
  refine ⟨h.m.frF f (fun k hk => ?_), h.rows.move fun b hb => ?_, KeepW.ofFr f (fun k hk => ?_)⟩
  · obtain ⟨_, cs, e, hc, he⟩ := hO k hk
    refine ⟨cs, e, _, hc, ?_⟩
    rcases he with rfl | rfl | rfl | rfl | ⟨rfl, hF⟩ <;> first | exact ⟨by decide, by decide, by decide, by decide, by decide, fun _ => hF⟩ | exact ⟨by decide, by decide, by decide, by decide, by decide, fun h => by cases h⟩
  · obtain ⟨_, _, cs, hc⟩ := h.rows.typed b hb
    refine (f.block b _ (fun ho => ?_) hc).trans hc.symm
    obtain ⟨_, cs', e, hc', he⟩ := hO b ho
    have := kind_eq hc hc'
    rcases he with he | he | he | he | ⟨_, hF⟩
    · rw [← this] at he; cases he
    · rw [← this] at he; cases he
    · rw [← this] at he; cases he
    · rw [← this] at he; cases he
    · exact h.rF b hb hF
  · obtain ⟨h1, cs, e, hc, he⟩ := hO k hk
    refine ⟨h1, cs, e, _, hc, ?_⟩
    rcases he with rfl | rfl | rfl | rfl | ⟨rfl, hF⟩ <;> rfl
theorem lo_mv {α : Type} {enc : α → List Value} {m e base : Nat} {w w' : World} {v : Value} {l : List α} {O : Nat → Prop} (hl : Lo enc m e w base v l) (f : Fr O w w') (hO : ∀ k, O k → v.ownBlock = some k → False) : Lo enc m e w' base v l := hl.move fun b hb => by
  obtain ⟨_, _, cs, hc⟩ := hl.typed b hb
  exact (f.block b _ (fun ho => hO b ho hb) hc).trans hc.symm
theorem lo_kind {α : Type} {enc : α → List Value} {m e base : Nat} {w : World} {v : Value} {l : List α} (hl : Lo enc m e w base v l) {k : Nat} {cs : Array Value} {e' : TypeId} {s : Nat × Nat} (hk : w.heap[k]? = some (.cells cs e' s)) (hne : e ≠ e') : v.ownBlock ≠ some k := fun hb => by
  obtain ⟨_, _, cs', hc⟩ := hl.typed k hb
  exact hne (kind_eq hc hk)
theorem xs_cases {α : Type} {xs : List α} {i j : Nat} {x' y : α} (hi : i < xs.length) (hy : (xs.set i x')[j]? = some y) : (j = i ∧ y = x') ∨ (j ≠ i ∧ xs[j]? = some y) := by
  rw [List.getElem?_set] at hy
  by_cases e : i = j
  · rw [if_pos e] at hy
    subst e
    rw [if_pos hi] at hy
    injection hy with hy
    exact .inl ⟨rfl, hy.symm⟩
  · rw [if_neg e] at hy
    exact .inr ⟨fun e2 => e e2.symm, hy⟩
/-- a run's number or mark is another one -/
theorem Wm.setX (h : Wm w base q p F U W rv vv lv xs) {i : Nat} {x : Rx} (hx : xs[i]? = some x) {g n c : Nat} (hlv : lv = .slice (some ⟨g, 0, none⟩) n c) {j : Nat} (hj : j < 8) {u : Value} {x' : Run} (he : encX (x', x.2.1, x.2.2) = (encX x).set j u) (hr : x'.reads = x.1.reads) (hw : x'.writes = x.1.writes) :
    Wm (w.setCell ⟨g, i * 8 + j, none⟩ u) base q p F U { W with list := W.list.set i x' } rv vv lv (xs.set i (x', x.2.1, x.2.2)) ∧ KeepW U w (w.setCell ⟨g, i * 8 + j, none⟩ u) := by
  have hi := (List.getElem?_eq_some_iff.1 hx).1
  have hxe : xs[i] = x := (List.getElem?_eq_some_iff.1 hx).2
  have hmem : x ∈ xs := List.mem_of_getElem? hx
  have hl := h.list
  rw [hlv] at hl
  obtain ⟨gc, hg⟩ := hl.blk
  have G := grown_set w g (i * 8 + j) u
  have f : Fr (fun k => k = g) w (w.setCell ⟨g, i * 8 + j, none⟩ u) := (Fr.grown G).mono (fun k hk _ => by injection hk with hk; exact hk.symm)
  obtain ⟨h1, h2, h3⟩ := h.next f (fun k hk => by
    have hk : k = g := hk
    subst hk
    exact ⟨h.lU k (by rw [hlv]; rfl), gc, 57, hg, .inr (.inl rfl)⟩)
  have mv : ∀ {α : Type} {enc : α → List Value} {m e : Nat} {v : Value} {l : List α}, Lo enc m e w base v l → e ≠ 57 → Lo enc m e (w.setCell ⟨g, i * 8 + j, none⟩ u) base v l := fun hlo hne => lo_mv hlo f (fun k hk hb => by
    have hk : k = g := hk
    rw [hk] at hb
    exact lo_kind hlo hg hne hb)
  refine ⟨⟨f.block q _ (fun e => ?_) h.cells, h.low, h1, h2, mv h.vers (by decide), ?_, ?_, ?_, ?_, ?_, ?_, ?_, h.rF, fun b hb => Nat.lt_of_lt_of_le (h.Flt b hb) f.size, h.qU, h.vU, h.lU, ?_, ?_, h.top.later f.size⟩, h3⟩
  · have e : q = g := e
    have := h.cells
    rw [e] at this
    exact absurd (kind_eq this hg) (by decide)
  · rw [hlv]
    exact hl.setf i j hi hj (x', x.2.1, x.2.2) u (by rw [hxe]; exact he)
  · rw [List.map_set, h.fst]
  · intro y hy
    obtain ⟨k, hk⟩ := List.mem_iff_getElem?.1 hy
    rcases xs_cases hi hk with ⟨_, rfl⟩ | ⟨_, hk2⟩
    · show RowS _ base x.2.1 x'.reads
      rw [hr]
      exact mv (h.rd x hmem) (by decide)
    · exact mv (h.rd y (List.mem_of_getElem? hk2)) (by decide)
  · intro y hy
    obtain ⟨k, hk⟩ := List.mem_iff_getElem?.1 hy
    rcases xs_cases hi hk with ⟨_, rfl⟩ | ⟨_, hk2⟩
    · show RowL _ base x.2.2 x'.writes
      rw [hw]
      exact mv (h.wr x hmem) (by decide)
    · exact mv (h.wr y (List.mem_of_getElem? hk2)) (by decide)
  · intro a b y z hab hy hz
    rcases xs_cases hi hy with ⟨e1, rfl⟩ | ⟨_, hy2⟩ <;> rcases xs_cases hi hz with ⟨e2, rfl⟩ | ⟨_, hz2⟩
    · omega
    · subst e1; exact h.rdd a b x z hab hx hz2
    · subst e2; exact h.rdd a b y x hab hy2 hx
    · exact h.rdd a b y z hab hy2 hz2
  · intro a b y z hab hy hz
    rcases xs_cases hi hy with ⟨e1, rfl⟩ | ⟨_, hy2⟩ <;> rcases xs_cases hi hz with ⟨e2, rfl⟩ | ⟨_, hz2⟩
    · omega
    · subst e1; exact h.wrd a b x z hab hx hz2
    · subst e2; exact h.wrd a b y x hab hy2 hx
    · exact h.wrd a b y z hab hy2 hz2
  · intro y hy b hb
    obtain ⟨k, hk⟩ := List.mem_iff_getElem?.1 hy
    rcases xs_cases hi hk with ⟨_, rfl⟩ | ⟨_, hk2⟩
    · exact h.wF x hmem b hb
    · exact h.wF y (List.mem_of_getElem? hk2) b hb
  · intro y hy b hb
    obtain ⟨k, hk⟩ := List.mem_iff_getElem?.1 hy
    rcases xs_cases hi hk with ⟨_, rfl⟩ | ⟨_, hk2⟩
    · exact h.rdU x hmem b hb
    · exact h.rdU y (List.mem_of_getElem? hk2) b hb
  · intro y hy b hb
    obtain ⟨k, hk⟩ := List.mem_iff_getElem?.1 hy
    rcases xs_cases hi hk with ⟨_, rfl⟩ | ⟨_, hk2⟩
    · exact h.wrU x hmem b hb
    · exact h.wrU y (List.mem_of_getElem? hk2) b hb
/-- the mark 'bad' -/
theorem Wm.setBad (h : Wm w base q p F U W rv vv lv xs) (b : Bool) : Wm (w.setCell ⟨q, 4, none⟩ (.bool b)) base q p F U { W with bad := b } rv vv lv xs ∧ KeepW U w (w.setCell ⟨q, 4, none⟩ (.bool b)) := by
  have G := grown_set w q 4 (.bool b)
  have f : Fr (fun k => k = q) w (w.setCell ⟨q, 4, none⟩ (.bool b)) := (Fr.grown G).mono (fun k hk _ => by injection hk with hk; exact hk.symm)
  obtain ⟨h1, h2, h3⟩ := h.next f (fun k hk => by
    have hk : k = q := hk
    subst hk
    exact ⟨h.qU, _, 50, h.cells, .inl rfl⟩)
  have mv : ∀ {α : Type} {enc : α → List Value} {m e : Nat} {v : Value} {l : List α}, Lo enc m e w base v l → e ≠ 50 → Lo enc m e (w.setCell ⟨q, 4, none⟩ (.bool b)) base v l := fun hlo hne => lo_mv hlo f (fun k hk hb => by
    have hk : k = q := hk
    rw [hk] at hb
    exact lo_kind hlo h.cells hne hb)
  exact ⟨⟨by rw [blk_set h.cells 4 _]; rfl, h.low, h1, h2, mv h.vers (by decide), mv h.list (by decide), h.fst, fun x hx => mv (h.rd x hx) (by decide), fun x hx => mv (h.wr x hx) (by decide), h.rdd, h.wrd, h.wF, h.rF, fun b hb => Nat.lt_of_lt_of_le (h.Flt b hb) f.size, h.qU, h.vU, h.lU, h.rdU, h.wrU, h.top.later f.size⟩, h3⟩
/-- a version has a next one -/
theorem Wm.setNext (h : Wm w base q p F U W rv vv lv xs) {m : Nat} (hm : m < W.vers.length) {g n c : Nat} (hvv : vv = .slice (some ⟨g, 0, none⟩) n c) (k : Int) :
    Wm (w.setCell ⟨g, m * 5 + 4, none⟩ (.int .i64 k)) base q p F U { W with vers := W.vers.modify m (fun v => { v with next := k }) } rv vv lv xs ∧ KeepW U w (w.setCell ⟨g, m * 5 + 4, none⟩ (.int .i64 k)) := by
  have hl := h.vers
  rw [hvv] at hl
  obtain ⟨gc, hg⟩ := hl.blk
  have G := grown_set w g (m * 5 + 4) (.int .i64 k)
  have f : Fr (fun k => k = g) w (w.setCell ⟨g, m * 5 + 4, none⟩ (.int .i64 k)) := (Fr.grown G).mono (fun k hk _ => by injection hk with hk; exact hk.symm)
  obtain ⟨h1, h2, h3⟩ := h.next f (fun k hk => by
    have hk : k = g := hk
    subst hk
    exact ⟨h.vU k (by rw [hvv]; rfl), gc, 125, hg, .inr (.inr (.inl rfl))⟩)
  have mv : ∀ {α : Type} {enc : α → List Value} {m' e : Nat} {v : Value} {l : List α}, Lo enc m' e w base v l → e ≠ 125 → Lo enc m' e (w.setCell ⟨g, m * 5 + 4, none⟩ (.int .i64 k)) base v l := fun hlo hne => lo_mv hlo f (fun k hk hb => by
    have hk : k = g := hk
    rw [hk] at hb
    exact lo_kind hlo hg hne hb)
  refine ⟨⟨f.block q _ (fun e => ?_) h.cells, h.low, h1, h2, ?_, mv h.list (by decide), h.fst, fun x hx => mv (h.rd x hx) (by decide), fun x hx => mv (h.wr x hx) (by decide), h.rdd, h.wrd, h.wF, h.rF, fun b hb => Nat.lt_of_lt_of_le (h.Flt b hb) f.size, h.qU, h.vU, h.lU, h.rdU, h.wrU, h.top.later f.size⟩, h3⟩
  · have e : q = g := e
    have := h.cells
    rw [e] at this
    exact absurd (kind_eq this hg) (by decide)
  · rw [hvv]
    show RowV _ base _ (W.vers.modify m (fun v => { v with next := k }))
    rw [modify_set (List.getElem?_eq_getElem hm)]
    exact hl.setf m 4 hm (by decide) { W.vers[m] with next := k } (.int .i64 k) rfl
end
end Go.Proofs.YthaoedfalkebbaaGreat
