import Derived.Test.YtedcnpaomphffaaMF
namespace Go.Proofs.Ytedcnpaomphffaa
open Go.RowKit Go.Maps Go.Sort Go.Lib Go.Shelf Go.Proofs.YtedcnpaomphffaaW.PrintWords Go.Proofs.YtedcnpaomphffaaW.PrintLast Go.Proofs.YtedcnpaomphffaaW.PrintMore
set_option linter.unusedVariables false
set_option linter.unusedSimpArgs false
set_option linter.unusedSectionVars false
/-! ### read -/
structure RdS (w wr : World) (base pv hb b1 b2 b3 : Nat) (L1 : List (Int × Int)) (L2 : List (ByteArray × Sv)) (L3 : List (Pl × Int)) (R : ByteArray → List Int) : Prop where
  below : Below w.heap.size w wr
  cpv : wr.heap[pv]? = some (.cells #[.pointer (some ⟨hb, 0, none⟩)] 50 (0, 0))
  chb : wr.heap[hb]? = some (.cells #[.map (some b1), .map (some b2), .map (some b3)] 81 (0, 0))
  t1 : TabP wr b1 L1.length L1
  vs : Vs wr base b2 L2 R
  t3 : TabO wr b3 L3.length L3
  o1 : w.heap.size ≤ b1
  o2 : b1 < b2
  o3 : b2 < b3
  o4 : b3 < hb
  o5 : hb < pv
  o6 : pv < base
  o7 : base ≤ wr.heap.size
section
variable {w wr w2 : World} {base pv hb b1 b2 b3 : Nat} {L1 : List (Int × Int)} {L2 : List (ByteArray × Sv)} {L3 : List (Pl × Int)} {R : ByteArray → List Int}
theorem RdS.kept (h : RdS w wr base pv hb b1 b2 b3 L1 L2 L3 R) (hg : wr.grownBy w2 none) : RdS w w2 base pv hb b1 b2 b3 L1 L2 L3 R where
  below := h.below.grown hg h.below.size (by simp)
  cpv := (hg.block pv (Array.getElem?_eq_some_iff.1 h.cpv).1 (by simp)).trans h.cpv
  chb := (hg.block hb (Array.getElem?_eq_some_iff.1 h.chb).1 (by simp)).trans h.chb
  t1 := h.t1.kept hg (by simp)
  vs := h.vs.kept hg
  t3 := h.t3.kept hg (by simp)
  o1 := h.o1
  o2 := h.o2
  o3 := h.o3
  o4 := h.o4
  o5 := h.o5
  o6 := h.o6
  o7 := Nat.le_trans h.o7 hg.size
theorem RdS.put1 {n : Nat} {c i : Int} (h : RdS w wr base pv hb b1 b2 b3 L1 L2 L3 R) (hT : TabP w2 b1 n (upd L1 c i)) (hm : wr.mapTurned w2 b1) : RdS w w2 base pv hb b1 b2 b3 (upd L1 c i) L2 L3 R where
  below := h.below.grown (turned_grown hm) h.below.size (fun k hk => by injection hk with hk; have := h.o1; omega)
  cpv := ((turned_grown hm).block pv (Array.getElem?_eq_some_iff.1 h.cpv).1 (fun e => by injection e with e; have := h.o2; have := h.o3; have := h.o4; have := h.o5; omega)).trans h.cpv
  chb := ((turned_grown hm).block hb (Array.getElem?_eq_some_iff.1 h.chb).1 (fun e => by injection e with e; have := h.o2; have := h.o3; have := h.o4; omega)).trans h.chb
  t1 := hT.exact
  vs := h.vs.low (by have := h.o2; have := h.o3; have := h.o4; have := h.o5; have := h.o6; omega) (turned_grown hm) (by have := h.o2; omega)
  t3 := h.t3.kept (turned_grown hm) (fun e => by injection e with e; have := h.o2; have := h.o3; omega)
  o1 := h.o1
  o2 := h.o2
  o3 := h.o3
  o4 := h.o4
  o5 := h.o5
  o6 := h.o6
  o7 := Nat.le_trans h.o7 (turned_grown hm).size
theorem RdS.put3 {n : Nat} {q : Pl} {i : Int} (h : RdS w wr base pv hb b1 b2 b3 L1 L2 L3 R) (hT : TabO w2 b3 n (upd L3 q i)) (hm : wr.mapTurned w2 b3) : RdS w w2 base pv hb b1 b2 b3 L1 L2 (upd L3 q i) R where
  below := h.below.grown (turned_grown hm) h.below.size (fun k hk => by injection hk with hk; have := h.o1; have := h.o2; have := h.o3; omega)
  cpv := ((turned_grown hm).block pv (Array.getElem?_eq_some_iff.1 h.cpv).1 (fun e => by injection e with e; have := h.o4; have := h.o5; omega)).trans h.cpv
  chb := ((turned_grown hm).block hb (Array.getElem?_eq_some_iff.1 h.chb).1 (fun e => by injection e with e; have := h.o4; omega)).trans h.chb
  t1 := h.t1.kept (turned_grown hm) (fun e => by injection e with e; have := h.o2; have := h.o3; omega)
  vs := h.vs.low (by have := h.o4; have := h.o5; have := h.o6; omega) (turned_grown hm) (by have := h.o3; omega)
  t3 := hT.exact
  o1 := h.o1
  o2 := h.o2
  o3 := h.o3
  o4 := h.o4
  o5 := h.o5
  o6 := h.o6
  o7 := Nat.le_trans h.o7 (turned_grown hm).size
/-- a row turned or lengthened, and put in -/
theorem RdS.put2 {w1 : World} {item : ByteArray} {s : Sv} {l : List Int} {n : Nat} (h : RdS w wr base pv hb b1 b2 b3 L1 L2 L3 R) (hg : wr.grownBy w1 (mvS ((got L2 item).getD none)).ownBlock) (hrow : dI.R 3 w1 base (fun _ => True) (mvS s) l)
    (hown : (mvS s).ownBlock = (mvS ((got L2 item).getD none)).ownBlock ∨ ∃ k, (mvS s).ownBlock = some k ∧ wr.heap.size ≤ k) (hT : TabV w2 b2 n (upd L2 item s)) (hm : w1.mapTurned w2 b2) : RdS w w2 base pv hb b1 b2 b3 L1 (upd L2 item s) L3 (fun t => if t = item then l else R t) := by
  have o1 := h.o1
  have o2 := h.o2
  have o3 := h.o3
  have o4 := h.o4
  have o5 := h.o5
  have o6 := h.o6
  have lo : ∀ k, (mvS ((got L2 item).getD none)).ownBlock = some k → base ≤ k := fun k hk => (flat_typed (h.vs.row item) _ hk).1
  have B1 : Below w.heap.size w w1 := h.below.grown hg h.below.size (fun k hk => by have := lo k hk; omega)
  exact {
    below := B1.grown (turned_grown hm) B1.size (fun k hk => by injection hk with hk; omega)
    cpv := ((turned_grown hm).block pv (Nat.lt_of_lt_of_le (Array.getElem?_eq_some_iff.1 h.cpv).1 hg.size) (fun e => by injection e with e; omega)).trans ((hg.block pv (Array.getElem?_eq_some_iff.1 h.cpv).1 (fun e => by have := lo _ e.symm; omega)).trans h.cpv)
    chb := ((turned_grown hm).block hb (Nat.lt_of_lt_of_le (Array.getElem?_eq_some_iff.1 h.chb).1 hg.size) (fun e => by injection e with e; omega)).trans ((hg.block hb (Array.getElem?_eq_some_iff.1 h.chb).1 (fun e => by have := lo _ e.symm; omega)).trans h.chb)
    t1 := (h.t1.kept hg (fun e => by have := lo _ e.symm; omega)).kept (turned_grown hm) (fun e => by injection e with e; omega)
    vs := h.vs.put hg (by omega) hrow hown hT hm
    t3 := (h.t3.kept hg (fun e => by have := lo _ e.symm; omega)).kept (turned_grown hm) (fun e => by injection e with e; omega)
    o1 := o1
    o2 := o2
    o3 := o3
    o4 := o4
    o5 := o5
    o6 := o6
    o7 := Nat.le_trans h.o7 (Nat.le_trans hg.size (turned_grown hm).size) }
theorem RdS.turn {item : ByteArray} {s : Sv} {l : List Int} (h : RdS w wr base pv hb b1 b2 b3 L1 L2 L3 R) (hs : (item, s) ∈ L2) (hg : wr.grownBy w2 (mvS s).ownBlock) (hrow : dI.R 3 w2 base (fun _ => True) (mvS s) l) : RdS w w2 base pv hb b1 b2 b3 L1 L2 L3 (fun t => if t = item then l else R t) := by
  have o1 := h.o1
  have o2 := h.o2
  have o3 := h.o3
  have o4 := h.o4
  have o5 := h.o5
  have o6 := h.o6
  have lo : ∀ k, (mvS s).ownBlock = some k → base ≤ k := fun k hk => (h.vs.typed hs hk).1
  exact {
    below := h.below.grown hg h.below.size (fun k hk => by have := lo k hk; omega)
    cpv := (hg.block pv (Array.getElem?_eq_some_iff.1 h.cpv).1 (fun e => by have := lo _ e.symm; omega)).trans h.cpv
    chb := (hg.block hb (Array.getElem?_eq_some_iff.1 h.chb).1 (fun e => by have := lo _ e.symm; omega)).trans h.chb
    t1 := h.t1.kept hg (fun e => by have := lo _ e.symm; omega)
    vs := h.vs.turn hs hg (by omega) hrow
    t3 := h.t3.kept hg (fun e => by have := lo _ e.symm; omega)
    o1 := o1
    o2 := o2
    o3 := o3
    o4 := o4
    o5 := o5
    o6 := o6
    o7 := Nat.le_trans h.o7 hg.size }
theorem RdS.cells (h : RdS w wr base pv hb b1 b2 b3 L1 L2 L3 R) : wr.cell? ⟨pv, 0, none⟩ = some (.pointer (some ⟨hb, 0, none⟩)) ∧ wr.cell? ⟨hb, 0, none⟩ = some (.map (some b1)) ∧ wr.cell? ⟨hb, 1, none⟩ = some (.map (some b2)) ∧ wr.cell? ⟨hb, 2, none⟩ = some (.map (some b3)) :=
  ⟨cell_of_row wr _ 0 _ 50 (0, 0) h.cpv, cell_of_row wr _ 0 _ 81 (0, 0) h.chb, cell_of_row wr _ 1 _ 81 (0, 0) h.chb, cell_of_row wr _ 2 _ 81 (0, 0) h.chb⟩
end
/-- what stands after read: the versions, and the version behind each -/
structure Hist (w : World) (base hb : Nat) (h : Hs) (b2 b3 : Nat) (L2 : List (ByteArray × Sv)) (L3 : List (Pl × Int)) : Prop where
  c2 : w.cell? ⟨hb, 1, none⟩ = some (.map (some b2))
  c3 : w.cell? ⟨hb, 2, none⟩ = some (.map (some b3))
  vs : Vs w base b2 L2 (vers h)
  t3 : TabO w b3 L3.length L3
  len : L2.length ≤ h.A.length
  got3 : ∀ c item, got L3 (c, item) = if c ∈ vers h item then some (((vers h item).idxOf c : Int) + 1) else none
  pl : ∃ (b1 : Nat) (L1 : List (Int × Int)), w.cell? ⟨hb, 0, none⟩ = some (.map (some b1)) ∧ TabP w b1 L1.length L1 ∧ ∀ c, got L1 c = if c ∈ h.C then some (plc h.C c) else none
def RdPost (w : World) (h : Hs) (e : Ending) (w' : World) : Prop :=
  (¬ OkH h ∧ e = .returned (.tuple #[.pointer none, .bool false]) ∧ Below w.heap.size w w') ∨
  (OkH h ∧ ∃ base hb b2 b3 L2 L3, e = .returned (.tuple #[.pointer (some ⟨hb, 0, none⟩), .bool true]) ∧ Hist w' base hb h b2 b3 L2 L3 ∧ Below w.heap.size w w' ∧ w.heap.size ≤ base ∧ w.heap.size ≤ hb ∧ w.heap.size ≤ b2 ∧ w.heap.size ≤ b3)
/-- within the first loop -/
def R1J (w : World) (base pv hb b1 b2 b3 : Nat) (C : List Int) (v : Value) (wr : World) : Prop :=
  ∃ (k : Nat) (L1 : List (Int × Int)), v = .int .i64 (k : Int) ∧ k ≤ C.length ∧ RdS w wr base pv hb b1 b2 b3 L1 [] [] (fun _ => []) ∧ L1.length ≤ k ∧ (∀ c ∈ C.take k, 1 ≤ c) ∧ (C.take k).Nodup ∧ (∀ c, got L1 c = if c ∈ C.take k then some (plc C c) else none)
def rdMade (w : World) : World := ((((w.alloc (.map #[] 0)).alloc (.map #[] 0)).alloc (.map #[] 0)).alloc (.cells #[.map (some w.heap.size), .map (some (w.heap.size + 1)), .map (some (w.heap.size + 1 + 1))] 81)).alloc (.cells #[.pointer (some ⟨w.heap.size + 1 + 1 + 1, 0, none⟩)] 50)
theorem RdS.start {w w1 : World} (B1 : Below w.heap.size w w1) : RdS w (rdMade w1) (w1.heap.size + 1 + 1 + 1 + 1 + 1) (w1.heap.size + 1 + 1 + 1 + 1) (w1.heap.size + 1 + 1 + 1) w1.heap.size (w1.heap.size + 1) (w1.heap.size + 1 + 1) [] [] [] (fun _ => []) := by
  obtain ⟨m1, hm1⟩ : ∃ m1, m1 = w1.alloc (.map #[] 0) := ⟨_, rfl⟩
  obtain ⟨m2, hm2⟩ : ∃ m2, m2 = m1.alloc (.map #[] 0) := ⟨_, rfl⟩
  obtain ⟨m3, hm3⟩ : ∃ m3, m3 = m2.alloc (.map #[] 0) := ⟨_, rfl⟩
  obtain ⟨m4, hm4⟩ : ∃ m4, m4 = m3.alloc (.cells #[.map (some w1.heap.size), .map (some (w1.heap.size + 1)), .map (some (w1.heap.size + 1 + 1))] 81) := ⟨_, rfl⟩
  obtain ⟨m5, hm5⟩ : ∃ m5, m5 = m4.alloc (.cells #[.pointer (some ⟨w1.heap.size + 1 + 1 + 1, 0, none⟩)] 50) := ⟨_, rfl⟩
  have s1 : m1.heap.size = w1.heap.size + 1 := by rw [hm1]; simp
  have s2 : m2.heap.size = w1.heap.size + 1 + 1 := by rw [hm2]; simp [s1]
  have s3 : m3.heap.size = w1.heap.size + 1 + 1 + 1 := by rw [hm3]; simp [s2]
  have s4 : m4.heap.size = w1.heap.size + 1 + 1 + 1 + 1 := by rw [hm4]; simp [s3]
  have s5 : m5.heap.size = w1.heap.size + 1 + 1 + 1 + 1 + 1 := by rw [hm5]; simp [s4]
  have g1 : w1.grownBy m1 none := by rw [hm1]; exact World.grownBy_alloc _ _ _
  have g2 : m1.grownBy m2 none := by rw [hm2]; exact World.grownBy_alloc _ _ _
  have g3 : m2.grownBy m3 none := by rw [hm3]; exact World.grownBy_alloc _ _ _
  have g4 : m3.grownBy m4 none := by rw [hm4]; exact World.grownBy_alloc _ _ _
  have g5 : m4.grownBy m5 none := by rw [hm5]; exact World.grownBy_alloc _ _ _
  have t1 : TabP m1 w1.heap.size 0 [] := by rw [hm1]; exact Tab.made w1
  have t2 : TabV m2 (w1.heap.size + 1) 0 [] := by
    have := Tab.made (P := Try.prog) (k := 9) (mk := mkT) (ok := okT) (R := rS) (cd := cdS) m1
    rw [s1] at this
    rw [hm2]
    exact this
  have t3 : TabO m3 (w1.heap.size + 1 + 1) 0 [] := by
    have := Tab.made (P := Try.prog) (k := 84) (mk := mkP) (ok := okP) (R := rI) (cd := cdI) m2
    rw [s2] at this
    rw [hm3]
    exact this
  have e : rdMade w1 = m5 := by rw [hm5, hm4, hm3, hm2, hm1]; rfl
  rw [e]
  have n3 : m3.grownBy m5 none := trans_grown g4 g5
  have n2 : m2.grownBy m5 none := trans_grown g3 n3
  have n1 : m1.grownBy m5 none := trans_grown g2 n2
  have h4 : m4.heap[w1.heap.size + 1 + 1 + 1]? = some (.cells #[.map (some w1.heap.size), .map (some (w1.heap.size + 1)), .map (some (w1.heap.size + 1 + 1))] 81 (0, 0)) := by
    have := heap_alloc_new m3 (.cells #[.map (some w1.heap.size), .map (some (w1.heap.size + 1)), .map (some (w1.heap.size + 1 + 1))] 81)
    rw [s3] at this
    rw [hm4]
    exact this
  have h5 : m5.heap[w1.heap.size + 1 + 1 + 1 + 1]? = some (.cells #[.pointer (some ⟨w1.heap.size + 1 + 1 + 1, 0, none⟩)] 50 (0, 0)) := by
    have := heap_alloc_new m4 (.cells #[.pointer (some ⟨w1.heap.size + 1 + 1 + 1, 0, none⟩)] 50)
    rw [s4] at this
    rw [hm5]
    exact this
  exact {
    below := B1.grown (trans_grown g1 n1) B1.size (by simp)
    cpv := h5
    chb := (g5.block _ (by omega) (by simp)).trans h4
    t1 := t1.kept n1 (by simp)
    vs := ⟨t2.kept n2 (by simp), fun e he => by (cases he), fun e he => by (cases he), fun _ _ => rfl⟩
    t3 := t3.kept n3 (by simp)
    o1 := B1.size
    o2 := by omega
    o3 := by omega
    o4 := by omega
    o5 := by omega
    o6 := by omega
    o7 := by omega }
/-- within the second loop -/
def R2J (w : World) (base pv hb b1 b2 b3 : Nat) (L1 : List (Int × Int)) (h : Hs) (v : Value) (wr : World) : Prop :=
  ∃ (k : Nat) (L2 : List (ByteArray × Sv)) (L3 : List (Pl × Int)), v = .int .i64 (k : Int) ∧ k ≤ h.A.length ∧ RdS w wr base pv hb b1 b2 b3 L1 L2 L3 (wts (h.A.take k)) ∧ L2.length ≤ k ∧ L3.length ≤ k ∧ Seen h.C (h.A.take k) ∧ (∀ q : Pl, got L3 q = if wrs (h.A.take k) q.1 q.2 = true then some 0 else none)
theorem R1J.next {w wr w3 : World} {base pv hb b1 b2 b3 k n : Nat} {C : List Int} {L1 : List (Int × Int)} (hlt : k < C.length) (S : RdS w wr base pv hb b1 b2 b3 L1 [] [] (fun _ => [])) (hl1 : L1.length ≤ k) (hpos : ∀ c ∈ C.take k, 1 ≤ c) (hnd : (C.take k).Nodup) (hgot : ∀ c, got L1 c = if c ∈ C.take k then some (plc C c) else none)
    (hx : C[k] ∉ C.take k) (h1 : 1 ≤ C[k]) (hT : TabP w3 b1 n (upd L1 C[k] (k : Int))) (hm : wr.mapTurned w3 b1) : R1J w base pv hb b1 b2 b3 C (.int .i64 ((k : Int) + 1)) w3 := by
  have htk : C.take (k + 1) = C.take k ++ [C[k]] := List.take_succ_eq_append_getElem hlt
  refine ⟨k + 1, upd L1 C[k] (k : Int), by simp, by omega, S.put1 hT hm, ?_, ?_, ?_, ?_⟩
  · have := upd_length L1 C[k] (k : Int)
    rw [this]
    split <;> omega
  · intro c hc
    rw [htk] at hc
    rcases List.mem_append.1 hc with hc | hc
    · exact hpos c hc
    · rw [List.mem_singleton.1 hc]; exact h1
  · rw [htk, List.nodup_append]
    refine ⟨hnd, by simp, fun a ha b hb e => ?_⟩
    rw [List.mem_singleton.1 hb] at e
    exact hx (e ▸ ha)
  · intro c
    rw [got_upd S.t1.tidy, hgot, htk]
    by_cases hc : c = C[k]
    · rw [if_pos hc, hc, if_pos (List.mem_append.2 (.inr List.mem_cons_self))]
      congr 1
      refine (plc_first hlt rfl fun i hi hik e => hx ?_).symm
      rw [← e]
      rw [List.mem_take_iff_getElem]
      exact ⟨i, by omega, rfl⟩
    · rw [if_neg hc]
      have : (c ∈ C.take k ++ [C[k]]) ↔ c ∈ C.take k := by rw [List.mem_append, List.mem_singleton]; exact ⟨fun e => e.resolve_right hc, .inl⟩
      simp only [this]
/-- one write, taken up: the entry of the table of successors -/
theorem take3 {w wr : World} {base pv hb b1 b2 b3 : Nat} {L1 : List (Int × Int)} {L2 : List (ByteArray × Sv)} {L3 : List (Pl × Int)} {R : ByteArray → List Int} (S : RdS w wr base pv hb b1 b2 b3 L1 L2 L3 R) (q : Pl) (hq : okP q) (i : Int) (hl : L3.length ≤ 65536) :
    ∃ w', (Instr.mapUpdate 79 (.map (some b3)) (.agg #[.int .i64 q.1, .string q.2]) (.int .i64 i)).run Try.prog wr = .ok () w' ∧ RdS w w' base pv hb b1 b2 b3 L1 L2 (upd L3 q i) R ∧ wr.grownBy w' (some b3) := by
  obtain ⟨w3, hst, hT, hm⟩ := Tab.store (t := 79) keyP valI Try.underlying79 S.t3 (by simp only [maxLen]; omega) hq i
  exact ⟨w3, hst, S.put3 hT hm, turned_grown hm⟩
/-- .. and the row -/
theorem take2 {w wr : World} {base pv hb b1 b2 b3 : Nat} {L1 : List (Int × Int)} {L2 : List (ByteArray × Sv)} {L3 : List (Pl × Int)} {R : ByteArray → List Int} (S : RdS w wr base pv hb b1 b2 b3 L1 L2 L3 R) (item : ByteArray) (hi : okT item) (x : Int) (hl : L2.length ≤ 65536) (hR : (R item).length ≤ 65536) :
    ∃ lv v' w1 w2 s, (∃ A n c, lv = .slice A n c) ∧ (Instr.lookup 78 (.map (some b2)) (.string item) false).run Try.prog wr = .ok lv wr ∧ (Instr.lookup 78 (.map (some b2)) (.string item) false).run Try.prog (wr.alloc (.cells #[.int .i64 x] 3)) = .ok lv (wr.alloc (.cells #[.int .i64 x] 3)) ∧
      (Builtin.append_ #[22, 22] 22 #[lv, .slice (some ⟨wr.heap.size, 0, none⟩) 1 1]).run Try.prog (wr.alloc (.cells #[.int .i64 x] 3)) = .ok v' w1 ∧ wr.grownBy w1 lv.ownBlock ∧ (∀ k, lv.ownBlock = some k → base ≤ k ∧ ∃ cells, wr.heap[k]? = some (.cells cells 3 (0, 0))) ∧
      (Instr.mapUpdate 78 (.map (some b2)) (.string item) v').run Try.prog w1 = .ok () w2 ∧ w1.grownBy w2 (some b2) ∧ RdS w w2 base pv hb b1 b2 b3 L1 (upd L2 item s) L3 (fun t => if t = item then R item ++ [x] else R t) := by
  have hrow := S.vs.row item
  obtain ⟨v', w1, hrun, hr1, hg, hown⟩ := row_app hrow x hR S.o7
  obtain ⟨s, rfl, _, _⟩ := row_sv hr1
  have o1 := S.o1
  have o2 := S.o2
  have o3 := S.o3
  have o4 := S.o4
  have o5 := S.o5
  have o6 := S.o6
  have lo : ∀ k, (mvS ((got L2 item).getD none)).ownBlock = some k → base ≤ k ∧ ∃ cells, wr.heap[k]? = some (.cells cells 3 (0, 0)) := fun k hk => ⟨(flat_typed hrow _ hk).1, (flat_typed hrow _ hk).2.2⟩
  have T1 : TabV w1 b2 L2.length L2 := S.vs.tab.kept hg (fun e => by have := (lo _ e.symm).1; omega)
  obtain ⟨w2, hst, hT, hm⟩ := Tab.store (t := 78) keyT valS Try.underlying78 T1 (by simp only [maxLen]; omega) hi s
  have TA : TabV (wr.alloc (.cells #[.int .i64 x] 3)) b2 L2.length L2 := S.vs.tab.kept (World.grownBy_alloc _ _ none) (by simp)
  have hsl : ∃ A n c, mvS ((got L2 item).getD none) = .slice A n c := by
    rcases (got L2 item).getD none with _ | ⟨g, n, c⟩
    · exact ⟨_, _, _, rfl⟩
    · exact ⟨_, _, _, rfl⟩
  exact ⟨_, _, w1, w2, s, hsl, Tab.look1 (t := 78) keyT valS Try.underlying78 S.vs.tab (zero22 _) hi, Tab.look1 (t := 78) keyT valS Try.underlying78 TA (zero22 _) hi, hrun, hg, lo, hst, turned_grown hm, S.put2 hg hr1 hown hT hm⟩
/-! the range over the versions -/
theorem Rng.walk {α β : Type} [DecidableEq α] {P : Program} {k : TypeId} {mk : α → Value} {ok : α → Prop} {R : Value → Option (DataW Unit × List MemPlace)} {cd : β → DataW Unit} {w : World} {b r n : Nat} {L rem : List (α × β)} (h : Rng P k mk ok R cd w b r n L rem) : ∃ o : Obj, w.heap[r]? = some o ∧ ∀ c e s, o ≠ .cells c e s := by
  obtain ⟨D, left, ⟨_, _, _, _, _, _, _, _, _, h1, _⟩, _⟩ := h
  exact ⟨_, h1, fun _ _ _ e => by cases e⟩
theorem RdS.turned {w wr w2 : World} {base pv hb b1 b2 b3 r : Nat} {L1 : List (Int × Int)} {L2 : List (ByteArray × Sv)} {L3 : List (Pl × Int)} {R : ByteArray → List Int} (h : RdS w wr base pv hb b1 b2 b3 L1 L2 L3 R) (hr : base ≤ r) (hw : ∃ o : Obj, wr.heap[r]? = some o ∧ ∀ c e s, o ≠ .cells c e s) (hg : wr.grownBy w2 (some r)) : RdS w w2 base pv hb b1 b2 b3 L1 L2 L3 R := by
  have o1 := h.o1
  have o2 := h.o2
  have o3 := h.o3
  have o4 := h.o4
  have o5 := h.o5
  have o6 := h.o6
  exact {
    below := h.below.grown hg h.below.size (fun k hk => by injection hk with hk; omega)
    cpv := (hg.block pv (Array.getElem?_eq_some_iff.1 h.cpv).1 (fun e => by injection e with e; omega)).trans h.cpv
    chb := (hg.block hb (Array.getElem?_eq_some_iff.1 h.chb).1 (fun e => by injection e with e; omega)).trans h.chb
    t1 := h.t1.kept hg (fun e => by injection e with e; omega)
    vs := h.vs.beside hg (fun e => by injection e with e; omega) (fun e he k hk e2 => by
      obtain ⟨_, _, cells, hc⟩ := h.vs.typed he hk
      obtain ⟨o, ho, hw⟩ := hw
      injection e2 with e2
      rw [e2, hc] at ho
      injection ho with ho
      exact hw _ _ _ ho.symm)
    t3 := h.t3.kept hg (fun e => by injection e with e; omega)
    o1 := o1
    o2 := o2
    o3 := o3
    o4 := o4
    o5 := o5
    o6 := o6
    o7 := Nat.le_trans h.o7 hg.size }
/-- the writers of an item, sorted by their places, are its versions -/
theorem wts_vers {h : Hs} (hn : h.C.Nodup) (hs : Seen h.C h.A) (item : ByteArray) : ∃ xs : List (InC h.C), xs.map (·.1) = wts h.A item ∧ (srtC (cmpC h.C) xs).map (·.1) = vers h item := by
  have hin : ∀ x ∈ wts h.A item, x ∈ h.C := fun x hx => by
    obtain ⟨a, ha, _, e, _⟩ := wrs_iff.1 (mem_wts.1 hx)
    rw [← e]
    exact hs.inC a ha
  have e : ((wts h.A item).attachWith (· ∈ h.C) hin).map (·.1) = wts h.A item := List.attachWith_map_subtype_val hin
  refine ⟨_, e, ?_⟩
  unfold vers
  refine vers_sorted hn (fun c => ?_) (by rw [e]; exact wts_nodup hs.once item)
  rw [e]
  exact ⟨fun hc => ⟨hin c hc, mem_wts.1 hc⟩, fun hc => mem_wts.2 hc.2⟩
open Classical in
/-- within the range over the versions -/
def R3J (w : World) (base pv hb b1 b2 b3 r : Nat) (L1 : List (Int × Int)) (L2 : List (ByteArray × Sv)) (h : Hs) (wr : World) : Prop :=
  ∃ (vis rem : List (ByteArray × Sv)) (L3 : List (Pl × Int)), (vis ++ rem).Perm L2 ∧ RngV wr b2 r L2.length L2 rem ∧ RdS w wr base pv hb b1 b2 b3 L1 L2 L3 (fun t => if t ∈ vis.map Prod.fst then vers h t else wts h.A t) ∧ L3.length ≤ 4096 ∧
    (∀ q : Pl, got L3 q = if wrs h.A q.1 q.2 = true then some (if q.2 ∈ vis.map Prod.fst then ((vers h q.2).idxOf q.1 : Int) + 1 else 0) else none)
/-- within the loop over one row -/
def R4J (w : World) (base pv hb b1 b2 b3 r : Nat) (L1 : List (Int × Int)) (L2 rem : List (ByteArray × Sv)) (R : ByteArray → List Int) (L3 : List (Pl × Int)) (item : ByteArray) (xs : List Int) (m : Nat) (v : Value) (wr : World) : Prop :=
  ∃ (i : Nat) (L3' : List (Pl × Int)), v = .int .i64 (i : Int) ∧ i ≤ xs.length ∧ RngV wr b2 r L2.length L2 rem ∧ wr.rangeLeft b2 r = m ∧ RdS w wr base pv hb b1 b2 b3 L1 L2 L3' R ∧ L3'.length ≤ 4096 ∧
    (∀ q : Pl, got L3' q = if q.2 = item ∧ q.1 ∈ xs.take i then some ((xs.idxOf q.1 : Int) + 1) else got L3 q)
/-- within the last loop -/
def R5J (w : World) (base pv hb b1 b2 b3 : Nat) (L1 : List (Int × Int)) (L2 : List (ByteArray × Sv)) (L3 : List (Pl × Int)) (h : Hs) (v : Value) (wr : World) : Prop :=
  ∃ k : Nat, v = .int .i64 (k : Int) ∧ k ≤ h.A.length ∧ RdS w wr base pv hb b1 b2 b3 L1 L2 L3 (vers h) ∧ (∀ a ∈ h.A.take k, a.wr = false → a.v = 0 ∨ (a.v ∈ h.C ∧ wrs h.A a.v a.item = true))
end Go.Proofs.Ytedcnpaomphffaa
namespace Go.Proofs.Ytedcnpaomphffaa
open Go.RowKit Go.Maps Go.Sort Go.Lib Go.Shelf Go.Proofs.YtedcnpaomphffaaW.PrintWords Go.Proofs.YtedcnpaomphffaaW.PrintLast Go.Proofs.YtedcnpaomphffaaW.PrintMore
set_option linter.unusedVariables false
set_option linter.unusedSimpArgs false
set_option linter.unusedSectionVars false
/-! ### read: the range over the versions, the last loop: plain -/
theorem row_cell {W : World} {base : Nat} {ok : Nat → Prop} {A : Option Addr} {n c : Nat} {xs : List Int} (h : dI.R 3 W base ok (.slice A n c) xs) (j : Nat) (hj : j < xs.length) : ∃ ad, A = some ad ∧ W.cell? (ad.add j) = some (.int .i64 xs[j]) := by
  obtain ⟨rfl, _, hC⟩ := Kd.R_reads' h
  exact CI_at hC j hj
theorem mvS_slice (s : Sv) : ∃ A n c, mvS s = .slice A n c := by
  rcases s with _ | ⟨g, n, c⟩
  · exact ⟨_, _, _, rfl⟩
  · exact ⟨_, _, _, rfl⟩
theorem key_fresh {L vis rem : List (ByteArray × Sv)} {item : ByteArray} {sv : Sv} (ht : L.Pairwise (fun p p' => p.1 ≠ p'.1)) (hp : (vis ++ rem).Perm L) (hm : (item, sv) ∈ rem) : item ∉ vis.map Prod.fst := by
  have h := (hp.pairwise_iff (fun {a b} h e => h e.symm)).2 ht
  rw [List.pairwise_append] at h
  intro hv
  obtain ⟨e, he, e1⟩ := List.mem_map.1 hv
  exact h.2.2 e he _ hm e1
theorem keys_of {w : World} {base b : Nat} {L : List (ByteArray × Sv)} {R : ByteArray → List Int} (h : Vs w base b L R) {vis : List (ByteArray × Sv)} (hp : vis.Perm L) {t : ByteArray} (ht : t ∉ vis.map Prod.fst) : R t = [] := by
  refine h.off t ?_
  cases hg : got L t with
  | none => rfl
  | some s => exact absurd (List.mem_map.2 ⟨(t, s), hp.mem_iff.2 (got_mem hg), rfl⟩) ht
theorem vers_none {h : Hs} {item : ByteArray} (hw : wts h.A item = []) : vers h item = [] := by
  unfold vers
  rw [List.filter_eq_nil_iff]
  intro c _ hc
  have := mem_wts.2 hc
  rw [hw] at this
  cases this
open Classical in
/-- what the range over the versions has done, when it is done -/
theorem R3J.done {w wr : World} {base pv hb b1 b2 b3 r : Nat} {L1 : List (Int × Int)} {L2 vis : List (ByteArray × Sv)} {L3 : List (Pl × Int)} {h : Hs} (seen : Seen h.C h.A) (hp : vis.Perm L2)
    (S : RdS w wr base pv hb b1 b2 b3 L1 L2 L3 (fun t => if t ∈ vis.map Prod.fst then vers h t else wts h.A t))
    (hg : ∀ q : Pl, got L3 q = if wrs h.A q.1 q.2 = true then some (if q.2 ∈ vis.map Prod.fst then ((vers h q.2).idxOf q.1 : Int) + 1 else 0) else none) :
    RdS w wr base pv hb b1 b2 b3 L1 L2 L3 (vers h) ∧ ∀ c item, got L3 (c, item) = if c ∈ vers h item then some (((vers h item).idxOf c : Int) + 1) else none := by
  have key : ∀ t, t ∉ vis.map Prod.fst → wts h.A t = [] := fun t ht => by
    have := keys_of S.vs hp ht
    rw [if_neg ht] at this
    exact this
  refine ⟨?_, fun c item => ?_⟩
  · have e : vers h = fun t => if t ∈ vis.map Prod.fst then vers h t else wts h.A t := by
      funext t
      by_cases ht : t ∈ vis.map Prod.fst
      · rw [if_pos ht]
      · rw [if_neg ht, key t ht, vers_none (key t ht)]
    rw [e]
    exact S
  · rw [hg]
    by_cases hw : wrs h.A c item = true
    · have hm := mem_wts.2 hw
      have hc : c ∈ vers h item := mem_vers.2 ⟨by
        obtain ⟨a, ha, _, e, _⟩ := wrs_iff.1 hw
        rw [← e]
        exact seen.inC a ha, hw⟩
      rw [if_pos hw, if_pos hc, if_pos]
      refine Classical.byContradiction fun hn => ?_
      rw [key item hn] at hm
      cases hm
    · rw [if_neg hw, if_neg (fun hc => hw (mem_vers.1 hc).2)]
theorem R4J.next {w wr w' : World} {base pv hb b1 b2 b3 r m i : Nat} {L1 : List (Int × Int)} {L2 rem : List (ByteArray × Sv)} {R : ByteArray → List Int} {L3 L3' : List (Pl × Int)} {item : ByteArray} {xs : List Int} (hnd : xs.Nodup) (hi : i < xs.length) (h23 : b2 < b3) (hr3 : b3 < r)
    (hr : RngV wr b2 r L2.length L2 rem) (hm : wr.rangeLeft b2 r = m) (S : RdS w wr base pv hb b1 b2 b3 L1 L2 L3' R) (S' : RdS w w' base pv hb b1 b2 b3 L1 L2 (upd L3' (xs[i], item) ((i : Int) + 1)) R) (hg : wr.grownBy w' (some b3)) (hl : L3'.length ≤ 4096) (hk : (got L3 (xs[i], item)).isSome = true)
    (hgot : ∀ q : Pl, got L3' q = if q.2 = item ∧ q.1 ∈ xs.take i then some ((xs.idxOf q.1 : Int) + 1) else got L3 q) : R4J w base pv hb b1 b2 b3 r L1 L2 rem R L3 item xs m (.int .i64 ((i : Int) + 1)) w' := by
  obtain ⟨h1, h2⟩ := hr.kept hg (fun e => by injection e with e; omega) (fun e => by injection e with e; omega)
  have htk : xs.take (i + 1) = xs.take i ++ [xs[i]] := List.take_succ_eq_append_getElem hi
  refine ⟨i + 1, _, by simp, by omega, h1, h2.trans hm, S', ?_, fun q => ?_⟩
  · have hx : (got L3' (xs[i], item)).isSome = true := by
      rw [hgot]
      split
      · rfl
      · exact hk
    rw [upd_length, if_pos hx]
    exact hl
  · rw [got_upd S.t3.tidy, hgot, htk]
    by_cases hq : q = (xs[i], item)
    · subst hq
      rw [if_pos rfl, if_pos ⟨rfl, by show xs[i] ∈ _; rw [List.mem_append]; exact .inr List.mem_cons_self⟩]
      show some _ = some ((xs.idxOf xs[i] : Int) + 1)
      rw [hnd.idxOf_getElem i hi]
    · rw [if_neg hq]
      have : (q.2 = item ∧ q.1 ∈ xs.take i ++ [xs[i]]) ↔ (q.2 = item ∧ q.1 ∈ xs.take i) := by
        rw [List.mem_append, List.mem_singleton]
        constructor
        · rintro ⟨h1, h2 | h2⟩
          · exact ⟨h1, h2⟩
          · exact absurd (Prod.ext h2 h1) hq
        · rintro ⟨h1, h2⟩
          exact ⟨h1, .inl h2⟩
      simp only [this]
open Classical in
theorem R4J.done {w wr : World} {base pv hb b1 b2 b3 r m : Nat} {L1 : List (Int × Int)} {L2 vis rem : List (ByteArray × Sv)} {L3 L3' : List (Pl × Int)} {item : ByteArray} {sv : Sv} {h : Hs} (hf : item ∉ vis.map Prod.fst) (seen : Seen h.C h.A) (hp : ((vis ++ [(item, sv)]) ++ rem).Perm L2)
    (hr : RngV wr b2 r L2.length L2 rem) (hl : L3'.length ≤ 4096)
    (S : RdS w wr base pv hb b1 b2 b3 L1 L2 L3' (fun t => if t = item then vers h item else if t ∈ vis.map Prod.fst then vers h t else wts h.A t))
    (hg3 : ∀ q : Pl, got L3 q = if wrs h.A q.1 q.2 = true then some (if q.2 ∈ vis.map Prod.fst then ((vers h q.2).idxOf q.1 : Int) + 1 else 0) else none)
    (hgot : ∀ q : Pl, got L3' q = if q.2 = item ∧ q.1 ∈ vers h item then some (((vers h item).idxOf q.1 : Int) + 1) else got L3 q) : R3J w base pv hb b1 b2 b3 r L1 L2 h wr := by
  have hmem : ∀ t, t ∈ (vis ++ [(item, sv)]).map Prod.fst ↔ t = item ∨ t ∈ vis.map Prod.fst := fun t => by
    rw [List.map_append, List.mem_append]
    simp [or_comm]
  refine ⟨vis ++ [(item, sv)], rem, L3', hp, hr, ?_, hl, fun q => ?_⟩
  · have e : (fun t => if t ∈ (vis ++ [(item, sv)]).map Prod.fst then vers h t else wts h.A t) = (fun t => if t = item then vers h item else if t ∈ vis.map Prod.fst then vers h t else wts h.A t) := by
      funext t
      by_cases ht : t = item
      · rw [if_pos ((hmem t).2 (.inl ht)), if_pos ht, ht]
      · rw [if_neg ht]
        by_cases hv : t ∈ vis.map Prod.fst
        · rw [if_pos ((hmem t).2 (.inr hv)), if_pos hv]
        · rw [if_neg (fun e => (hmem t).1 e |>.elim ht hv), if_neg hv]
    rw [e]
    exact S
  · rw [hgot, hg3]
    by_cases hq : q.2 = item
    · by_cases hw : wrs h.A q.1 q.2 = true
      · have hc : q.1 ∈ vers h item := mem_vers.2 ⟨by
          obtain ⟨a, ha, _, e, _⟩ := wrs_iff.1 hw
          rw [← e]
          exact seen.inC a ha, by rw [← hq]; exact hw⟩
        rw [if_pos ⟨hq, hc⟩, if_pos hw, if_pos ((hmem _).2 (.inl hq)), hq]
      · have hc : ¬ (q.2 = item ∧ q.1 ∈ vers h item) := fun e => hw (by rw [hq]; exact (mem_vers.1 e.2).2)
        rw [if_neg hc, if_neg hw, if_neg hw]
    · rw [if_neg (fun e => hq e.1)]
      have : (q.2 ∈ (vis ++ [(item, sv)]).map Prod.fst) ↔ q.2 ∈ vis.map Prod.fst := by
        rw [hmem]
        exact ⟨fun e => e.resolve_left hq, .inr⟩
      simp only [this]
theorem okH_of {h : Hs} (la : h.A.length ≤ 4096) (lc : h.C.length ≤ 4096) (pos : ∀ c ∈ h.C, 1 ≤ c) (nd : h.C.Nodup) (s : Seen h.C h.A) (rd : ∀ a ∈ h.A, a.wr = false → a.v = 0 ∨ (a.v ∈ h.C ∧ wrs h.A a.v a.item = true)) : OkH h := ⟨la, lc, pos, nd, s.inC, s.wv, s.once, rd⟩
end Go.Proofs.Ytedcnpaomphffaa
namespace Go.Proofs.Ytedcnpaomphffaa
open Go.RowKit Go.Maps Go.Sort Go.Lib Go.Shelf Go.Proofs.YtedcnpaomphffaaW.PrintWords Go.Proofs.YtedcnpaomphffaaW.PrintLast Go.Proofs.YtedcnpaomphffaaW.PrintMore
set_option linter.unusedVariables false
set_option linter.unusedSimpArgs false
set_option linter.unusedSectionVars false
open Classical in
set_option maxHeartbeats 4000000 in
set_option maxRecDepth 100000 in
theorem read_calls (z : HV) (w : World) (hz : z.OK w) : Calls Try.prog 23 #[mkH z] w (RdPost w z.h) := by
  obtain ⟨w1, hw1, B1, hz1, b0, b1⟩ := hv_box z w hz
  obtain ⟨bx, hbx⟩ : ∃ bx, bx = w.heap.size := ⟨_, rfl⟩
  have hlc := hz.lc
  have hla := hz.la
  have hcw := hz.cw
  have haw := hz.aw
  clear hz
  obtain ⟨A1, c1, A2, c2, h⟩ := z
  dsimp only [mkH] at *
  have NO : ∀ wr, ¬ OkH h → Below w.heap.size w wr → RdPost w h (.returned (.tuple #[.pointer none, .bool false])) wr := fun wr k B => .inl ⟨k, rfl, B⟩
  by_cases hA : h.A.length ≤ 4096
  · by_cases hC : h.C.length ≤ 4096
    · obtain ⟨w2, hw2⟩ : ∃ w2, w2 = rdMade w1 := ⟨_, rfl⟩
      obtain ⟨b1', hb1⟩ : ∃ b, b = w1.heap.size := ⟨_, rfl⟩
      obtain ⟨b2, hb2⟩ : ∃ b, b = w1.heap.size + 1 := ⟨_, rfl⟩
      obtain ⟨b3, hb3⟩ : ∃ b, b = w1.heap.size + 1 + 1 := ⟨_, rfl⟩
      obtain ⟨hb, hhb⟩ : ∃ b, b = w1.heap.size + 1 + 1 + 1 := ⟨_, rfl⟩
      obtain ⟨pv, hpv⟩ : ∃ b, b = w1.heap.size + 1 + 1 + 1 + 1 := ⟨_, rfl⟩
      obtain ⟨base, hbs⟩ : ∃ b, b = w1.heap.size + 1 + 1 + 1 + 1 + 1 := ⟨_, rfl⟩
      have st : RdS w1 w2 base pv hb b1' b2 b3 [] [] [] (fun _ => []) := by
        rw [hw2, hb1, hb2, hb3, hhb, hpv, hbs]
        exact RdS.start (Below.refl _ w1)
      have hz2 := hz1.below st.below
      have d0 := (st.below.cell (World.block_lt_of_cell? _ _ b0)).trans b0
      have d1 := (st.below.cell (World.block_lt_of_cell? _ _ b1)).trans b1
      unfold rdMade at hw2
      replace hw2 := Aside0.mk hw2
      have hA' : ¬ (4096 : Int) < (h.A.length : Int) := by omega
      have hC' : ¬ (4096 : Int) < (h.C.length : Int) := by omega
      have J0 : R1J w1 base pv hb b1' b2 b3 h.C (.int .i64 0) w2 := ⟨0, [], rfl, Nat.zero_le _, st, Nat.zero_le _, fun c hc => (by simp at hc), by simp, fun c => by simp [got]⟩
      replace hb1 := Aside0.mk hb1
      replace hb2 := Aside0.mk hb2
      replace hb3 := Aside0.mk hb3
      replace hhb := Aside0.mk hhb
      replace hpv := Aside0.mk hpv
      replace hbs := Aside0.mk hbs
      go_enter Try.func23, Try.ntmps23
      go_upto_region 1 with (fail)
      rw [← hw1, ← hbx]
      rw [← hbx] at b0 b1 d0 d1
      clear hw1
      replace hbx := Aside0.mk hbx
      have hmm := @run_makeMap Try.prog
      go_upto_region 4 with (fail)
      rw [← hw2.out, ← hpv.out, ← hhb.out, ← hb3.out, ← hb2.out, ← hb1.out]
      clear hw2 hmm
      go_wp2_with fail
      go_loopw [42] (fun v wr => R1J w1 base pv hb b1' b2 b3 h.C v wr) (fun v _ => h.C.length - (intOf v).toNat)
      case atStart => exact J0
      case round =>
        clear J0 d0 d1 hz2 st
        obtain ⟨k, L1, rfl, hk, S, hl1, hpos, hnd, hgot⟩ := hrel
        have hzr := hz1.below S.below
        by_cases hlt : k < h.C.length
        · obtain ⟨ad, e1, q0⟩ := CI_at hzr.c k hlt
          dsimp only at e1 q0
          have hok : okN h.C[k] := hcw _ (List.getElem_mem hlt)
          obtain ⟨p0, p1, p2, p3⟩ := S.cells
          have hlook := Tab.look (w := wr) (t := 60) keyN valI Try.underlying60 S.t1 (zero3 _) hok
          obtain ⟨w3, hst, hT, hm⟩ := Tab.store (t := 60) keyN valI Try.underlying60 S.t1 (by simp only [maxLen]; omega) hok (k : Int)
          have BW := below_then B1 B1.size S.below
          unfold mkN at hlook hst
          by_cases hx : h.C[k] ∈ h.C.take k
          · have K := NO wr (fun ok => by
              have := ok.nd
              obtain ⟨i, hi, e⟩ := List.mem_take_iff_getElem.1 hx
              exact absurd ((List.getElem_inj this).1 e) (by omega)) BW
            rw [hgot, if_pos hx] at hlook
            replace K := Aside0.mk K
            generalize h.C[k] = x at q0 hlook
            clear NO hcw haw hz1 hzr hgot hpos hnd hT hm hst hx S hok
            go_wp2
            go_ret2
            exact K.out
          · by_cases h1 : 1 ≤ h.C[k]
            · have N := R1J.next hlt S hl1 hpos hnd hgot hx h1 hT hm
              rw [hgot, if_neg hx] at hlook
              have h1' : ¬ h.C[k] < 1 := by omega
              generalize h.C[k] = x at q0 hlook hst h1'
              clear NO hcw haw hz1 hzr hgot hpos hnd hT hm hx S hok
              replace N := Aside0.mk N
              go_wp2
              refine ⟨N.out, ?_⟩
              simp [intOf]
              omega
            · have K := NO wr (fun ok => h1 (ok.pos _ (List.getElem_mem hlt))) BW
              rw [hgot, if_neg hx] at hlook
              have h1' : h.C[k] < 1 := by omega
              generalize h.C[k] = x at q0 hlook h1'
              clear NO hcw haw hz1 hzr hgot hpos hnd hT hm hst hx S hok
              replace K := Aside0.mk K
              go_wp2
              go_ret2
              exact K.out
        · obtain rfl : k = h.C.length := by omega
          rw [List.take_length] at hpos hnd
          have hgot' : ∀ c, got L1 c = if c ∈ h.C then some (plc h.C c) else none := fun c => by rw [hgot, List.take_length]
          have J2 : R2J w1 base pv hb b1' b2 b3 L1 h (.int .i64 0) wr := ⟨0, [], [], rfl, Nat.zero_le _, S, Nat.zero_le _, Nat.zero_le _, ⟨fun a ha => (by simp at ha), fun a ha => (by simp at ha), by simp⟩, fun q => by simp [got, wrs]⟩
          have d0 := (S.below.cell (World.block_lt_of_cell? _ _ b0)).trans b0
          have d1 := (S.below.cell (World.block_lt_of_cell? _ _ b1)).trans b1
          clear S hl1 hgot hk hzr
          go_wp2_with fail
          go_loopw [71] (fun v wr => R2J w1 base pv hb b1' b2 b3 L1 h v wr) (fun v _ => h.A.length - (intOf v).toNat)
          case atStart => exact J2
          case round =>
            clear J2 d0 d1
            obtain ⟨k, L2, L3, rfl, hk, S, hl2, hl3, seen, hgot3⟩ := hrel
            have hzr := hz1.below S.below
            have hB := below_then B1 B1.size S.below
            by_cases hlt' : k < h.A.length
            · obtain ⟨ad, e1, q0, q1, q2, q3⟩ := CA_at hzr.a k hlt'
              dsimp only at e1 q0 q1 q2 q3
              have hm := List.getElem_mem hlt'
              have htk : h.A.take (k + 1) = h.A.take k ++ [h.A[k]] := List.take_succ_eq_append_getElem hlt'
              obtain ⟨hok1, hok2, hok3⟩ := haw _ hm
              generalize h.A[k] = a at *
              obtain ⟨W3, hW3⟩ : ∃ W3, W3 = wr.alloc (.cells #[.int .i64 a.t, .bool a.wr, .string a.item, .int .i64 a.v] 40) := ⟨_, rfl⟩
              have g3 : wr.grownBy W3 none := by rw [hW3]; exact World.grownBy_alloc _ _ _
              have S3 := S.kept g3
              have ob : W3.heap[wr.heap.size]? = some (.cells #[.int .i64 a.t, .bool a.wr, .string a.item, .int .i64 a.v] 40 (0, 0)) := by rw [hW3]; exact heap_alloc_new wr _
              have S4 := S3.kept (drewG W3)
              have hlook := Tab.look (w := W3.drew) (t := 60) keyN valI Try.underlying60 S4.t1 (zero3 _) hok1
              rw [hgot'] at hlook
              have t0 := cell_of_row W3 _ 0 _ 40 (0, 0) ob
              have t1 := cell_of_row W3 _ 1 _ 40 (0, 0) ob
              have t2 := cell_of_row W3 _ 2 _ 40 (0, 0) ob
              have t3 := cell_of_row W3 _ 3 _ 40 (0, 0) ob
              obtain ⟨p0, p1, p2, p3⟩ := S3.cells
              have hsz : W3.heap.size = wr.heap.size + 1 := by rw [hW3]; simp
              obtain ⟨bt, hbt⟩ : ∃ bt, bt = wr.heap.size := ⟨_, rfl⟩
              rw [← hbt] at t0 t1 t2 t3 ob hsz
              unfold mkN at hlook
              by_cases hx : a.t ∈ h.C
              · cases kw : a.wr with
                | false =>
                  have N : R2J w1 base pv hb b1' b2 b3 L1 h (.int .i64 ((k : Int) + 1)) W3.drew := by
                    refine ⟨k + 1, L2, L3, by simp, by omega, ?_, by omega, by omega, ?_, ?_⟩
                    · have e : wts (h.A.take (k + 1)) = wts (h.A.take k) := by
                        funext t
                        rw [htk, wts_snoc, if_neg (fun e => by rw [kw] at e; exact absurd e.1 (by simp))]
                      rw [e]
                      exact S4
                    · rw [htk]
                      exact seen.snoc hx (fun e => by rw [kw] at e; cases e) (fun e => by rw [kw] at e; cases e)
                    · intro q
                      rw [hgot3, htk, wrs_snoc]
                      have : isW q.1 q.2 a = false := by unfold isW; rw [kw]; rfl
                      rw [this, Bool.or_false]
                  rw [if_pos hx] at hlook
                  rw [kw] at t1
                  clear NO hcw haw hz1 hgot3 hgot' hzr S S3 S4 seen hpos hnd g3 ob hsz htk hm
                  replace kw := Aside0.mk kw
                  replace N := Aside0.mk N
                  go_upto_region 15 with (fail)
                  rw [← hW3, ← hbt]
                  replace e1 := Aside0.mk e1
                  clear hW3
                  replace hbt := Aside0.mk hbt
                  go_wp2_with fail
                  go_region_held3 (fun V => V.cell? ⟨bt, 0, none⟩ = some (.int .i64 a.t) ∧ V.cell? ⟨pv, 0, none⟩ = some (.pointer (some ⟨hb, 0, none⟩)) ∧ V.cell? ⟨hb, 0, none⟩ = some (.map (some b1'))) (exact ⟨t0, p0, p1⟩) (fail)
                  all_goals
                    go_wp2
                    go_roundw
                    case rel => exact N.out
                    case measure =>
                      simp [intOf]
                      omega
                | true =>
                  by_cases hv : a.v = 0
                  · have okq : okP (a.t, a.item) := ⟨hok1, Nat.le_trans hok3 (by decide)⟩
                    obtain ⟨W5, hW5⟩ : ∃ W5, W5 = (W3.alloc (.cells #[.int .i64 a.t, .string a.item] 84)).drew := ⟨_, rfl⟩
                    obtain ⟨bq, hbq⟩ : ∃ bq, bq = W3.heap.size := ⟨_, rfl⟩
                    have g5 : W3.grownBy W5 none := by rw [hW5]; exact trans_grown (World.grownBy_alloc _ _ _) (drewG _)
                    have S5 := S3.kept g5
                    have S6 := S5.kept (drewG W5)
                    have oq : W5.heap[bq]? = some (.cells #[.int .i64 a.t, .string a.item] 84 (0, 0)) := by rw [hW5, hbq]; exact heap_alloc_new _ _
                    have ob5 : W5.heap[bt]? = some (.cells #[.int .i64 a.t, .bool a.wr, .string a.item, .int .i64 a.v] 40 (0, 0)) := (g5.block bt (show bt < W3.heap.size by omega) (by simp)).trans ob
                    have hlook3 := Tab.look (w := W5.drew) (t := 79) keyP valI Try.underlying79 S6.t3 (zero3 _) okq
                    have n0 : W5.cell? ⟨bq, 0, none⟩ = some (.int .i64 a.t) := cell_of_row W5 _ 0 _ 84 (0, 0) oq
                    have n1 : W5.cell? ⟨bq, 1, none⟩ = some (.string a.item) := cell_of_row W5 _ 1 _ 84 (0, 0) oq
                    obtain ⟨r0, r1, r2, r3⟩ := S5.cells
                    rw [hgot3] at hlook3
                    rw [if_pos hx] at hlook
                    rw [kw] at t1
                    rw [hv] at t3
                    unfold mkP mkN at hlook3
                    dsimp only at hlook3
                    by_cases hd : wrs (h.A.take k) a.t a.item = true
                    · have K := NO W5.drew (fun ok => by
                        obtain ⟨y, hy, y1, y2, y3⟩ := wrs_iff.1 hd
                        have on := ok.once
                        rw [← List.take_append_drop (k + 1) h.A, htk, List.append_assoc] at on
                        have := (List.pairwise_append.1 on).2.2 y hy a (by simp)
                        exact this ⟨y1, kw, y2, y3⟩) (below_then B1 B1.size S6.below)
                      rw [if_pos hd] at hlook3
                      clear NO hcw haw hz1 hgot3 hgot' hzr S S3 S4 S5 S6 seen hpos hnd g3 g5 ob oq ob5 hsz htk hm hd okq
                      replace kw := Aside0.mk kw
                      replace hv := Aside0.mk hv
                      replace K := Aside0.mk K
                      replace hbq := Aside0.mk hbq
                      replace hW5 := Aside0.mk hW5
                      go_upto_region 15 with (fail)
                      rw [← hW3, ← hbt]
                      replace e1 := Aside0.mk e1
                      clear hW3
                      replace hbt := Aside0.mk hbt
                      go_wp2_with fail
                      go_region_held3 (fun V => V.cell? ⟨bt, 0, none⟩ = some (.int .i64 a.t) ∧ V.cell? ⟨pv, 0, none⟩ = some (.pointer (some ⟨hb, 0, none⟩)) ∧ V.cell? ⟨hb, 0, none⟩ = some (.map (some b1'))) (exact ⟨t0, p0, p1⟩) (fail)
                      all_goals
                        go_upto_region 20 with (fail)
                        rw [← hW5.out, ← hbq.out]
                        go_region_held3 (fun V => V.cell? ⟨pv, 0, none⟩ = some (.pointer (some ⟨hb, 0, none⟩)) ∧ V.cell? ⟨hb, 2, none⟩ = some (.map (some b3)) ∧ V.cell? ⟨bq, 0, none⟩ = some (.int .i64 a.t) ∧ V.cell? ⟨bq, 1, none⟩ = some (.string a.item)) (exact ⟨r0, r3, n0, n1⟩) (fail)
                        all_goals
                          go_wp2
                          go_ret2
                          exact K.out
                    · obtain ⟨w8, hst3, S8, g8⟩ := take3 (S6.kept (drewG W5.drew)) (a.t, a.item) okq 0 (by omega)
                      obtain ⟨lv, v', w10, w11, s, hsl, hl1, hl2', hap, g10, lo, hst2, g11, S11⟩ := take2 (S8.kept (drewG w8)) a.item (Nat.le_trans hok3 (by decide)) a.t (by omega) (Nat.le_trans (wts_len _ _) (by rw [List.length_take]; omega))
                      have o1 := S.o1
                      have o2 := S.o2
                      have o3 := S.o3
                      have o4 := S.o4
                      have o5 := S.o5
                      have o6 := S.o6
                      have o7 := S.o7
                      have nlo : ∀ k, lv.ownBlock = some k → k ≠ bt ∧ k ≠ pv ∧ k ≠ hb := fun k hk => by
                        have h1 := lo k hk
                        refine ⟨fun e => ?_, by omega, by omega⟩
                        obtain ⟨_, cells, hc⟩ := h1
                        have : w8.heap[bt]? = some (.cells #[.int .i64 a.t, .bool a.wr, .string a.item, .int .i64 a.v] 40 (0, 0)) := (g8.block bt (show bt < W5.heap.size from (Array.getElem?_eq_some_iff.1 ob5).1) (fun e => by injection e with e; omega)).trans ob5
                        rw [e] at hc
                        rw [show w8.drew.heap[bt]? = w8.heap[bt]? from rfl, this] at hc
                        cases hc
                      have hs5 : W5.heap.size = W3.heap.size + 1 := by rw [hW5]; simp [World.drew]
                      have up8 : ∀ {p : Addr} {v : Value}, p.block ≠ b3 → W5.cell? p = some v → w8.cell? p = some v := fun {p v} hp hc => g8.cell (show W5.drew.drew.cell? p = some v from hc) (fun e => hp (by injection e))
                      have upA : ∀ {p : Addr} {v : Value}, p.block ≠ b3 → W5.cell? p = some v → (w8.drew.alloc (.cells #[.int .i64 a.t] 3)).cell? p = some v := fun {p v} hp hc => (World.grownBy_alloc w8.drew _ none).cell (show w8.drew.cell? p = some v from up8 hp hc) (by simp)
                      have up10 : ∀ {p : Addr} {v : Value}, p.block ≠ b3 → some p.block ≠ lv.ownBlock → W5.cell? p = some v → w10.cell? p = some v := fun {p v} hp hp' hc => g10.cell (show w8.drew.cell? p = some v from up8 hp hc) hp'
                      have c0 : W5.cell? ⟨bt, 0, none⟩ = some (.int .i64 a.t) := cell_of_row W5 _ 0 _ 40 (0, 0) ob5
                      have c2' : W5.cell? ⟨bt, 2, none⟩ = some (.string a.item) := cell_of_row W5 _ 2 _ 40 (0, 0) ob5
                      have ntb : bt ≠ b3 := fun e => by omega
                      have nbq : bq ≠ b3 := fun e => by omega
                      have x1 := up8 (p := ⟨pv, 0, none⟩) (show pv ≠ b3 by omega) r0
                      have x2 := up8 (p := ⟨hb, 2, none⟩) (show hb ≠ b3 by omega) r3
                      have x3 := up8 (p := ⟨bq, 0, none⟩) nbq n0
                      have x4 := up8 (p := ⟨bq, 1, none⟩) nbq n1
                      have y2 := up8 (p := ⟨hb, 1, none⟩) (show hb ≠ b3 by omega) r2
                      have y3 := up8 (p := ⟨bt, 0, none⟩) ntb c0
                      have y4 := up8 (p := ⟨bt, 2, none⟩) ntb c2'
                      have z1 := upA (p := ⟨pv, 0, none⟩) (show pv ≠ b3 by omega) r0
                      have z2 := upA (p := ⟨hb, 1, none⟩) (show hb ≠ b3 by omega) r2
                      have z3 := upA (p := ⟨bt, 0, none⟩) ntb c0
                      have z4 := upA (p := ⟨bt, 2, none⟩) ntb c2'
                      have v1 := up10 (p := ⟨pv, 0, none⟩) (show pv ≠ b3 by omega) (fun e => (nlo _ e.symm).2.1 rfl) r0
                      have v2 := up10 (p := ⟨hb, 1, none⟩) (show hb ≠ b3 by omega) (fun e => (nlo _ e.symm).2.2 rfl) r2
                      have v3 := up10 (p := ⟨bt, 0, none⟩) ntb (fun e => (nlo _ e.symm).1 rfl) c0
                      have v4 := up10 (p := ⟨bt, 2, none⟩) ntb (fun e => (nlo _ e.symm).1 rfl) c2'
                      have q1' := g11.cell v1 (fun e => (show pv ≠ b2 by omega) (Option.some.inj e))
                      have q2' := g11.cell v2 (fun e => (show hb ≠ b2 by omega) (Option.some.inj e))
                      have q3' := g11.cell v3 (fun e => (show bt ≠ b2 by omega) (Option.some.inj e))
                      have q4' := g11.cell v4 (fun e => (show bt ≠ b2 by omega) (Option.some.inj e))
                      have N : R2J w1 base pv hb b1' b2 b3 L1 h (.int .i64 ((k : Int) + 1)) w11 := by
                        refine ⟨k + 1, upd L2 a.item s, upd L3 (a.t, a.item) 0, by simp, by omega, ?_, ?_, ?_, ?_, ?_⟩
                        · have e : wts (h.A.take (k + 1)) = fun t => if t = a.item then wts (h.A.take k) a.item ++ [a.t] else wts (h.A.take k) t := by
                            funext t
                            rw [htk, wts_snoc]
                            by_cases ht : t = a.item
                            · rw [if_pos ⟨kw, ht⟩, if_pos ht, ht]
                            · rw [if_neg (fun e => ht e.2), if_neg ht]
                          rw [e]
                          exact S11
                        · rw [upd_length]; split <;> omega
                        · rw [upd_length]; split <;> omega
                        · rw [htk]
                          exact seen.snoc hx (fun _ => hv) (fun _ => by simpa using hd)
                        · intro q
                          rw [got_upd S.t3.tidy, hgot3, htk, wrs_snoc]
                          by_cases hq : q = (a.t, a.item)
                          · rw [if_pos hq, hq]
                            have : isW a.t a.item a = true := isW_iff.2 ⟨kw, rfl, rfl⟩
                            rw [this, Bool.or_true, if_pos rfl]
                          · rw [if_neg hq]
                            have : isW q.1 q.2 a = false := by
                              cases hw : isW q.1 q.2 a with
                              | false => rfl
                              | true =>
                                obtain ⟨_, h1, h2⟩ := isW_iff.1 hw
                                exact absurd (Prod.ext h1.symm (toList_inj h2).symm) hq
                            rw [this, Bool.or_false]
                      rw [if_neg hd] at hlook3
                      obtain ⟨A', n', c', rfl⟩ := hsl
                      rw [show w8.drew.alloc (.cells #[.int .i64 a.t] 3) = (w8.alloc (.cells #[.int .i64 a.t] 3)).drew from rfl] at hl2' hap z1 z2 z3 z4
                      rw [show w8.drew.heap.size = w8.heap.size from rfl] at hap
                      clear NO hcw haw hz1 hgot3 hgot' hzr S S3 S4 S5 S6 S8 S11 seen hpos hnd g3 g5 ob oq ob5 hsz htk hm hd okq up8 upA up10 nlo lo g8 g10 g11 o1 o2 o3 o4 o5 o6 o7 hs5 ntb nbq
                      replace kw := Aside0.mk kw
                      replace hv := Aside0.mk hv
                      replace N := Aside0.mk N
                      replace hbq := Aside0.mk hbq
                      replace hW5 := Aside0.mk hW5
                      go_upto_region 15 with (fail)
                      rw [← hW3, ← hbt]
                      replace e1 := Aside0.mk e1
                      clear hW3
                      replace hbt := Aside0.mk hbt
                      go_wp2_with fail
                      go_region_held3 (fun V => V.cell? ⟨bt, 0, none⟩ = some (.int .i64 a.t) ∧ V.cell? ⟨pv, 0, none⟩ = some (.pointer (some ⟨hb, 0, none⟩)) ∧ V.cell? ⟨hb, 0, none⟩ = some (.map (some b1'))) (exact ⟨t0, p0, p1⟩) (fail)
                      all_goals
                        go_upto_region 20 with (fail)
                        rw [← hW5.out, ← hbq.out]
                        go_region_held3 (fun V => V.cell? ⟨pv, 0, none⟩ = some (.pointer (some ⟨hb, 0, none⟩)) ∧ V.cell? ⟨hb, 2, none⟩ = some (.map (some b3)) ∧ V.cell? ⟨bq, 0, none⟩ = some (.int .i64 a.t) ∧ V.cell? ⟨bq, 1, none⟩ = some (.string a.item)) (exact ⟨r0, r3, n0, n1⟩) (fail)
                        go_wp2_with fail
                        go_region_held3 (fun V => V.cell? ⟨pv, 0, none⟩ = some (.pointer (some ⟨hb, 0, none⟩)) ∧ V.cell? ⟨hb, 2, none⟩ = some (.map (some b3)) ∧ V.cell? ⟨bq, 0, none⟩ = some (.int .i64 a.t) ∧ V.cell? ⟨bq, 1, none⟩ = some (.string a.item)) (first | exact ⟨r0, r3, n0, n1⟩ | exact ⟨x1, x2, x3, x4⟩) (fail)
                        go_wp2_with fail
                        go_region_held3 (fun V => V.cell? ⟨pv, 0, none⟩ = some (.pointer (some ⟨hb, 0, none⟩)) ∧ V.cell? ⟨hb, 1, none⟩ = some (.map (some b2)) ∧ V.cell? ⟨bt, 0, none⟩ = some (.int .i64 a.t) ∧ V.cell? ⟨bt, 2, none⟩ = some (.string a.item)) (first | exact ⟨x1, y2, y3, y4⟩ | exact ⟨z1, z2, z3, z4⟩ | exact ⟨v1, v2, v3, v4⟩ | exact ⟨q1', q2', q3', q4'⟩) (refine app_step (by rfl) (by rfl) (by rfl) (by rfl) hap ?_)
                        all_goals
                          go_wp2
                          go_roundw
                          case rel => exact N.out
                          case measure =>
                            simp [intOf]
                            omega
                  · have K := NO W3.drew (fun ok => hv (ok.wv _ hm kw)) (below_then B1 B1.size S4.below)
                    have hv' : (a.v != 0) = true := by simpa using hv
                    rw [if_pos hx] at hlook
                    rw [kw] at t1
                    clear NO hcw haw hz1 hgot3 hgot' hzr S S3 S4 seen hpos hnd g3 ob hsz htk hm
                    replace kw := Aside0.mk kw
                    replace K := Aside0.mk K
                    go_upto_region 15 with (fail)
                    rw [← hW3, ← hbt]
                    replace e1 := Aside0.mk e1
                    clear hW3
                    replace hbt := Aside0.mk hbt
                    go_wp2_with fail
                    go_region_held3 (fun V => V.cell? ⟨bt, 0, none⟩ = some (.int .i64 a.t) ∧ V.cell? ⟨pv, 0, none⟩ = some (.pointer (some ⟨hb, 0, none⟩)) ∧ V.cell? ⟨hb, 0, none⟩ = some (.map (some b1'))) (exact ⟨t0, p0, p1⟩) (fail)
                    all_goals
                      go_wp2
                      go_ret2
                      exact K.out
              · have K := NO W3.drew (fun ok => hx (ok.inC _ hm)) (below_then B1 B1.size S4.below)
                rw [if_neg hx] at hlook
                clear NO hcw haw hz1 hgot3 hgot' hzr S S3 S4 seen hpos hnd g3 ob hsz
                replace K := Aside0.mk K
                go_upto_region 15 with (fail)
                rw [← hW3, ← hbt]
                replace e1 := Aside0.mk e1
                clear hW3
                replace hbt := Aside0.mk hbt
                go_wp2_with fail
                go_region_held3 (fun V => V.cell? ⟨bt, 0, none⟩ = some (.int .i64 a.t) ∧ V.cell? ⟨pv, 0, none⟩ = some (.pointer (some ⟨hb, 0, none⟩)) ∧ V.cell? ⟨hb, 0, none⟩ = some (.map (some b1'))) (exact ⟨t0, p0, p1⟩) (fail)
                all_goals
                  go_wp2
                  go_ret2
                  exact K.out
            · obtain rfl : k = h.A.length := by omega
              rw [List.take_length] at S seen
              have hg3 : ∀ q : Pl, got L3 q = if wrs h.A q.1 q.2 = true then some 0 else none := fun q => by rw [hgot3, List.take_length]
              obtain ⟨wR, hrng, hR0, gR, sR⟩ := Tab.range (t := 78) keyT Try.underlying78 S.vs.tab
              obtain ⟨p0, p1, p2, p3⟩ := S.cells
              have hrb : base ≤ wr.heap.size := S.o7
              have J3 : R3J w1 base pv hb b1' b2 b3 wr.heap.size L1 L2 h wR := ⟨[], L2, L3, List.Perm.refl _, hR0, by simpa using S.kept gR, by omega, fun q => by rw [hg3]; simp⟩
              have o2 := S.o2
              have o3 := S.o3
              have o4 := S.o4
              have o5 := S.o5
              have o6 := S.o6
              obtain ⟨r, hr⟩ : ∃ r, r = wr.heap.size := ⟨_, rfl⟩
              rw [← hr] at hrng J3 hrb
              clear S hgot3 hg3 hR0 gR sR hk hzr hB hl3
              replace hr := Aside0.mk hr
              replace J3 := Aside0.mk J3
              go_wp2_with fail
              go_loopw [] (fun wr => R3J w1 base pv hb b1' b2 b3 r L1 L2 h wr) (fun wr => wr.rangeLeft b2 r)
              case atStart => exact J3.out
              case round =>
                clear J3 hrng p0 p1 p2 p3
                obtain ⟨vis, rem, L3', hp, hrg, S, hl3', hgot3'⟩ := hrel
                obtain ⟨p0, p1, p2, p3⟩ := S.cells
                rcases hrg.next keyT valS 0 with ⟨hnil, hrun1⟩ | ⟨item, sv, w3, hmem, hok, hrun1, hr3, hlt3, hg3, hs3, hent⟩
                · subst hnil
                  rw [List.append_nil] at hp
                  obtain ⟨S5, hh5⟩ := R3J.done (r := r) seen hp S hgot3'
                  have d0 := (S5.below.cell (World.block_lt_of_cell? _ _ b0)).trans b0
                  have d1 := (S5.below.cell (World.block_lt_of_cell? _ _ b1)).trans b1
                  have J5 : R5J w1 base pv hb b1' b2 b3 L1 L2 L3' h (.int .i64 0) wr := ⟨0, rfl, Nat.zero_le _, S5, fun a ha => by simp at ha⟩
                  replace J5 := Aside0.mk J5
                  clear S S5 hrg hgot3'
                  go_wp2_with fail
                  go_loopw [170] (fun v wr => R5J w1 base pv hb b1' b2 b3 L1 L2 L3' h v wr) (fun v _ => h.A.length - (intOf v).toNat)
                  case atStart => exact J5.out
                  case round =>
                    clear J5 d0 d1 p0 p1 p2 p3 hrun1
                    obtain ⟨k, rfl, hk, S, hrd⟩ := hrel
                    have hzr := hz1.below S.below
                    have hB := below_then B1 B1.size S.below
                    obtain ⟨p0, p1, p2, p3⟩ := S.cells
                    by_cases hlt5 : k < h.A.length
                    · obtain ⟨ad, e1, q0, q1, q2, q3⟩ := CA_at hzr.a k hlt5
                      dsimp only at e1 q0 q1 q2 q3
                      have hm := List.getElem_mem hlt5
                      have htk : h.A.take (k + 1) = h.A.take k ++ [h.A[k]] := List.take_succ_eq_append_getElem hlt5
                      obtain ⟨hok1, hok2, hok3⟩ := haw _ hm
                      generalize h.A[k] = a at *
                      obtain ⟨W3, hW3⟩ : ∃ W3, W3 = wr.alloc (.cells #[.int .i64 a.t, .bool a.wr, .string a.item, .int .i64 a.v] 40) := ⟨_, rfl⟩
                      have g3 : wr.grownBy W3 none := by rw [hW3]; exact World.grownBy_alloc _ _ _
                      have S3 := S.kept g3
                      have S4 := S3.kept (drewG W3)
                      have ob : W3.heap[wr.heap.size]? = some (.cells #[.int .i64 a.t, .bool a.wr, .string a.item, .int .i64 a.v] 40 (0, 0)) := by rw [hW3]; exact heap_alloc_new wr _
                      have okq : okP (a.v, a.item) := ⟨hok2, Nat.le_trans hok3 (by decide)⟩
                      have hlook := Tab.look (w := W3.drew) (t := 79) keyP valI Try.underlying79 S4.t3 (zero3 _) okq
                      rw [hh5] at hlook
                      unfold mkP mkN at hlook
                      dsimp only at hlook
                      have t1 := cell_of_row W3 _ 1 _ 40 (0, 0) ob
                      have t2 := cell_of_row W3 _ 2 _ 40 (0, 0) ob
                      have t3 := cell_of_row W3 _ 3 _ 40 (0, 0) ob
                      obtain ⟨r0, r1, r2, r3⟩ := S3.cells
                      obtain ⟨bt, hbt⟩ : ∃ bt, bt = wr.heap.size := ⟨_, rfl⟩
                      rw [← hbt] at t1 t2 t3
                      have N : (a.wr = false → a.v = 0 ∨ (a.v ∈ h.C ∧ wrs h.A a.v a.item = true)) → R5J w1 base pv hb b1' b2 b3 L1 L2 L3' h (.int .i64 ((k : Int) + 1)) W3.drew := fun hx => ⟨k + 1, by simp, by omega, S4, fun y hy => by
                        rw [htk, List.mem_append, List.mem_singleton] at hy
                        rcases hy with hy | rfl
                        · exact hrd y hy
                        · exact hx⟩
                      have KO5 := fun hx : ¬ (a.v = 0 ∨ (a.v ∈ h.C ∧ wrs h.A a.v a.item = true)) => fun hw : a.wr = false => NO W3.drew (fun ok => hx (ok.rd _ hm hw)) (below_then B1 B1.size S4.below)
                      have hmv5 : a.v ∈ vers h a.item ↔ (a.v ∈ h.C ∧ wrs h.A a.v a.item = true) := mem_vers
                      clear NO hcw haw hz1 hzr S S3 S4 seen hpos hnd hrd htk hgot' hh5 g3 ob okq p0 p1 p2 p3 hm hB hp
                      cases kw : a.wr with
                      | true =>
                        have N5 := N (fun e => by rw [kw] at e; cases e)
                        rw [kw] at t1
                        clear N KO5 hmv5
                        replace kw := Aside0.mk kw
                        replace N5 := Aside0.mk N5
                        replace hlook := Aside0.mk hlook
                        go_upto_region 38 with (fail)
                        rw [← hW3, ← hbt]
                        replace e1 := Aside0.mk e1
                        clear hW3
                        replace hbt := Aside0.mk hbt
                        have hlook := hlook.out
                        go_region_held3 (fun V => V.cell? ⟨pv, 0, none⟩ = some (.pointer (some ⟨hb, 0, none⟩)) ∧ V.cell? ⟨hb, 2, none⟩ = some (.map (some b3)) ∧ V.cell? ⟨bt, 3, none⟩ = some (.int .i64 a.v) ∧ V.cell? ⟨bt, 2, none⟩ = some (.string a.item)) (exact ⟨r0, r3, t3, t2⟩) (fail)
                        all_goals
                          go_wp2
                          refine ⟨N5.out, ?_⟩
                          simp [intOf]
                          omega
                      | false =>
                        rw [kw] at t1
                        by_cases hv : a.v = 0
                        · have N5 := N (fun _ => .inl hv)
                          have hv' : (a.v != 0) = false := by simpa using hv
                          clear N KO5 hmv5
                          replace kw := Aside0.mk kw
                          replace hv := Aside0.mk hv
                          replace N5 := Aside0.mk N5
                          replace hlook := Aside0.mk hlook
                          go_upto_region 38 with (fail)
                          rw [← hW3, ← hbt]
                          replace e1 := Aside0.mk e1
                          clear hW3
                          replace hbt := Aside0.mk hbt
                          have hlook := hlook.out
                          go_region_held3 (fun V => V.cell? ⟨pv, 0, none⟩ = some (.pointer (some ⟨hb, 0, none⟩)) ∧ V.cell? ⟨hb, 2, none⟩ = some (.map (some b3)) ∧ V.cell? ⟨bt, 3, none⟩ = some (.int .i64 a.v) ∧ V.cell? ⟨bt, 2, none⟩ = some (.string a.item)) (exact ⟨r0, r3, t3, t2⟩) (fail)
                          all_goals
                            go_wp2
                            refine ⟨N5.out, ?_⟩
                            simp [intOf]
                            omega
                        · have hv' : (a.v != 0) = true := by simpa using hv
                          by_cases hx : a.v ∈ vers h a.item
                          · have N5 := N (fun _ => .inr (hmv5.1 hx))
                            rw [if_pos hx] at hlook
                            dsimp only [Option.getD_some, Option.isSome_some] at hlook
                            clear N KO5 hmv5
                            replace kw := Aside0.mk kw
                            replace hv := Aside0.mk hv
                            replace N5 := Aside0.mk N5
                            replace hlook := Aside0.mk hlook
                            go_upto_region 38 with (fail)
                            rw [← hW3, ← hbt]
                            replace e1 := Aside0.mk e1
                            clear hW3
                            replace hbt := Aside0.mk hbt
                            have hlook := hlook.out
                            go_region_held3 (fun V => V.cell? ⟨pv, 0, none⟩ = some (.pointer (some ⟨hb, 0, none⟩)) ∧ V.cell? ⟨hb, 2, none⟩ = some (.map (some b3)) ∧ V.cell? ⟨bt, 3, none⟩ = some (.int .i64 a.v) ∧ V.cell? ⟨bt, 2, none⟩ = some (.string a.item)) (exact ⟨r0, r3, t3, t2⟩) (fail)
                            all_goals
                              go_wp2
                              refine ⟨N5.out, ?_⟩
                              simp [intOf]
                              omega
                          · have K := KO5 (fun e => e.elim hv (fun e => hx (hmv5.2 e))) kw
                            rw [if_neg hx] at hlook
                            dsimp only [Option.getD_none, Option.isSome_none] at hlook
                            clear N KO5 hmv5
                            replace kw := Aside0.mk kw
                            replace hv := Aside0.mk hv
                            replace K := Aside0.mk K
                            replace hlook := Aside0.mk hlook
                            go_upto_region 38 with (fail)
                            rw [← hW3, ← hbt]
                            replace e1 := Aside0.mk e1
                            clear hW3
                            replace hbt := Aside0.mk hbt
                            have hlook := hlook.out
                            go_region_held3 (fun V => V.cell? ⟨pv, 0, none⟩ = some (.pointer (some ⟨hb, 0, none⟩)) ∧ V.cell? ⟨hb, 2, none⟩ = some (.map (some b3)) ∧ V.cell? ⟨bt, 3, none⟩ = some (.int .i64 a.v) ∧ V.cell? ⟨bt, 2, none⟩ = some (.string a.item)) (exact ⟨r0, r3, t3, t2⟩) (fail)
                            all_goals
                              go_wp2
                              go_ret2
                              exact K.out
                    · obtain rfl : k = h.A.length := by omega
                      rw [List.take_length] at hrd
                      have hs := B1.size
                      have q1 := S.o1
                      have q2 := S.o2
                      have q3 := S.o3
                      have q4 := S.o4
                      have K : RdPost w h (.returned (.tuple #[.pointer (some ⟨hb, 0, none⟩), .bool true])) wr := .inr ⟨okH_of hA hC hpos hnd seen hrd, base, hb, b2, b3, L2, L3', rfl, ⟨S.cells.2.2.1, S.cells.2.2.2, S.vs, S.t3, hl2, hh5, _, _, S.cells.2.1, S.t1, hgot'⟩, hB, by omega, by omega, by omega, by omega⟩
                      clear S hB seen hpos hnd hrd hgot' hh5 hzr hcw haw NO hz1 hp
                      replace K := Aside0.mk K
                      go_wp2
                      go_ret2
                      exact K.out
                · have hfr := key_fresh S.vs.tab.tidy hp hmem
                  have hmL : (item, sv) ∈ L2 := hp.mem_iff.1 (List.mem_append_right _ hmem)
                  have hpn := perm_next hrg.apart hp hmem
                  have S3 := S.turned hrb (Rng.walk hrg) hg3
                  have hrow := S3.vs.rows _ hmL
                  simp only [if_neg hfr] at hrow
                  obtain ⟨xs, ex, es⟩ := wts_vers hnd seen item
                  rw [← ex] at hrow
                  have hxl : xs.length = (vers h item).length := by rw [← es, List.length_map, srtC_length]
                  have hxl2 : xs.length ≤ 4096 := by
                    have := wts_len h.A item
                    rw [← ex, List.length_map] at this
                    omega
                  obtain ⟨q0, q1, q2, q3⟩ := S3.cells
                  have hown := fun k hk => flat_typed hrow k hk
                  have hwk := Rng.walk hr3
                  have nr : ∀ k, (mvS sv).ownBlock = some k → k ≠ r := fun k hk e => by
                    obtain ⟨_, _, cells, hc⟩ := hown k hk
                    obtain ⟨o, ho, hno⟩ := hwk
                    rw [e, ho] at hc
                    injection hc with hc
                    exact hno _ _ _ hc
                  have SF := sortF_calls h.C pv hb b1' _ L1 w3 q0 q1 S3.t1 (fun c hc => ⟨hcw c hc, by rw [hgot', if_pos hc]⟩) base (fun _ => True) (mvS sv) xs hrow (by omega) (fun e => by have := (hown _ e).1; omega) (fun e => by have := (hown _ e).1; omega) (fun e => by have := (hown _ e).1; omega)
                  rw [es] at SF
                  have hlo : ∀ k, (mvS sv).ownBlock = some k → base ≤ k := fun k hk => (hown k hk).1
                  obtain ⟨A, n, c, hmv⟩ := mvS_slice sv
                  have hn : n = (vers h item).length := by
                    rw [hmv] at hrow
                    have := (Kd.R_reads' hrow).1
                    rw [this, List.length_map, hxl]
                  subst hn
                  have hvl : (vers h item).length ≤ 4096 := by omega
                  have J4 : ∀ w4, dI.R 3 w4 base (fun _ => True) (mvS sv) (vers h item) → w3.grownBy w4 (mvS sv).ownBlock → R4J w1 base pv hb b1' b2 b3 r L1 L2 (rem.filter (fun p => p.1 ≠ item)) (fun t => if t = item then vers h item else if t ∈ vis.map Prod.fst then vers h t else wts h.A t) L3' item (vers h item) (w4.rangeLeft b2 r) (.int .i64 0) w4 ∧ w4.rangeLeft b2 r < wr.rangeLeft b2 r := fun w4 H4 G4 => by
                    obtain ⟨h1, h2⟩ := hr3.kept G4 (fun e => by have := hlo _ e.symm; omega) (fun e => nr _ e.symm rfl)
                    exact ⟨⟨0, L3', rfl, Nat.zero_le _, h1, rfl, S3.turn hmL G4 H4, hl3', fun q => by simp⟩, by rw [h2]; exact hlt3⟩
                  unfold mkT at hrun1 hent
                  rw [hmv] at hrun1 hent SF
                  have hvn : (vers h item).Nodup := hnd.filter _
                  have hvs : ∀ x ∈ vers h item, okP (x, item) := fun x hx => ⟨hcw x (mem_vers.1 hx).1, hok⟩
                  have hsome : ∀ x ∈ vers h item, (got L3' (x, item)).isSome = true := fun x hx => by
                    rw [hgot3', if_pos (mem_vers.1 hx).2]; rfl
                  have D4 := fun wr5 L5 h1 h2 S5 hg5 => R4J.done (w := w1) (wr := wr5) (base := base) (pv := pv) (hb := hb) (b1 := b1') (b2 := b2) (b3 := b3) (r := r) (m := 0) (L1 := L1) (L2 := L2) (h := h) (sv := sv) (L3' := L5) hfr seen hpn h1 h2 S5 hgot3' hg5
                  have hbr : b3 < r := by omega
                  clear S S3 hrow hown hwk nr hgot3' hgot' hfr hp hrg hmem hr3 hg3 hs3 hlt3 hpn hxl hxl2 ex es q0 q1 q2 q3 hok hlo
                  replace hmv := Aside0.mk hmv
                  replace hvn := Aside0.mk hvn
                  replace hsome := Aside0.mk hsome
                  replace hvs := Aside0.mk hvs
                  replace J4 := Aside0.mk J4
                  replace D4 := Aside0.mk D4
                  go_wp2_with fail
                  refine SF.mono ?_
                  rintro e w4 ⟨rfl, H4, G4⟩
                  rw [← hmv.out] at H4 G4
                  obtain ⟨J4, hm4⟩ := J4.out w4 H4 G4
                  replace J4 := Aside0.mk J4
                  clear SF H4 G4 hrun1 hent
                  generalize w4.rangeLeft b2 r = m4 at hm4 J4
                  go_wp2_with fail
                  go_loopw [152] (fun v wr => R4J w1 base pv hb b1' b2 b3 r L1 L2 (rem.filter (fun p => p.1 ≠ item)) (fun t => if t = item then vers h item else if t ∈ vis.map Prod.fst then vers h t else wts h.A t) L3' item (vers h item) m4 v wr) (fun v _ => (vers h item).length - (intOf v).toNat)
                  case atStart => exact J4.out
                  case round =>
                    clear J4 p0 p1 p2 p3
                    obtain ⟨i, L5, rfl, hi, hr5, hm5, S5, hl5, hg5⟩ := hrel
                    obtain ⟨p0, p1, p2, p3⟩ := S5.cells
                    by_cases hlt5 : i < (vers h item).length
                    · have hrow5 := S5.vs.rows _ hmL
                      simp only [if_true] at hrow5
                      rw [hmv.out] at hrow5
                      obtain ⟨ad, rfl, q0⟩ := row_cell hrow5 i hlt5
                      have hxm := List.getElem_mem hlt5
                      obtain ⟨w6, hst6, S6, g6⟩ := take3 S5 ((vers h item)[i], item) (hvs.out _ hxm) ((i : Int) + 1) (by omega)
                      have N := R4J.next hvn.out hlt5 o3 hbr hr5 hm5 S5 S6 g6 hl5 (hsome.out _ hxm) hg5
                      dsimp only at hst6
                      generalize (vers h item)[i] = x at q0 hst6
                      clear S5 S6 g6 hrow5 hr5 hm5 hg5 hxm
                      replace N := Aside0.mk N
                      go_wp2
                      refine ⟨N.out, ?_⟩
                      simp [intOf]
                      omega
                    · obtain rfl : i = (vers h item).length := by omega
                      have J := D4.out wr L5 hr5 hl5 S5 (fun q => by rw [hg5, List.take_length])
                      have hm6 := hm4
                      rw [← hm5] at hm6
                      clear S5 hr5 hm5 hg5 D4
                      replace J := Aside0.mk J
                      replace hm6 := Aside0.mk hm6
                      go_wp2
                      exact ⟨J.out, hm6.out⟩
    · have K := NO w1 (fun k => hC k.lc) B1
      have hA' : ¬ (4096 : Int) < (h.A.length : Int) := by omega
      have hC' : (4096 : Int) < (h.C.length : Int) := by omega
      clear NO hcw haw hz1
      replace K := Aside0.mk K
      go_enter Try.func23, Try.ntmps23
      go_upto_region 1 with (fail)
      rw [← hw1, ← hbx]
      rw [← hbx] at b0 b1
      clear hw1
      replace hbx := Aside0.mk hbx
      go_wp2
      go_ret2
      exact K.out
  · have K := NO w1 (fun k => hA k.la) B1
    have hA' : (4096 : Int) < (h.A.length : Int) := by omega
    clear NO hcw haw hz1
    replace K := Aside0.mk K
    go_enter Try.func23, Try.ntmps23
    go_upto_region 1 with (fail)
    rw [← hw1, ← hbx]
    rw [← hbx] at b0 b1
    clear hw1
    replace hbx := Aside0.mk hbx
    go_wp2
    go_ret2
    exact K.out
end Go.Proofs.Ytedcnpaomphffaa
