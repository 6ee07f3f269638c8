import Derived.Test.YthaoedfalkebbaaGreatMF
namespace Go.Proofs.YthaoedfalkebbaaGreat
set_option linter.unusedVariables false
set_option linter.unusedSectionVars false
set_option linter.unusedSimpArgs false
/-! ### within the caps -/
def actC (l : List Tx) : Nat := (l.filter (fun t => t.act)).length
def keptC (l : List Tx) : Nat := (l.filter (fun t => !t.act)).length
theorem cnt_all : ∀ l : List Tx, actC l + keptC l = l.length
  | [] => rfl
  | t :: l => by
    have ih := cnt_all l
    unfold actC keptC at ih ⊢
    cases h : t.act <;> simp [List.filter_cons, h] <;> omega
theorem actC_sub {l m : List Tx} (h : l.Sublist m) : actC l ≤ actC m := (h.filter _).length_le
theorem keptC_sub {l m : List Tx} (h : l.Sublist m) : keptC l ≤ keptC m := (h.filter _).length_le
theorem filter_map_len {φ : Tx → Tx} {p : Tx → Bool} (l : List Tx) (h : ∀ o, p (φ o) = p o) : ((l.map φ).filter p).length = (l.filter p).length := by
  rw [List.filter_map, List.length_map]
  congr 1
  apply List.filter_congr
  intro o _
  exact h o
structure Cap {ρ : Type} (S : Sm ρ) (K N : Int) : Prop where
  caps : 1 ≤ S.caps.active ∧ S.caps.active ≤ 64 ∧ 0 ≤ S.caps.kept ∧ S.caps.kept ≤ 1024 ∧ 1 ≤ S.caps.reads ∧ S.caps.reads ≤ 65536 ∧ 1 ≤ S.caps.locks ∧ S.caps.locks ≤ 4096
  act : (actC S.txs : Int) ≤ S.caps.active
  kpt : (keptC S.txs : Int) ≤ S.caps.kept
  lck : (S.locks.length : Int) ≤ S.caps.locks
  last : 0 ≤ S.last ∧ S.last ≤ K
  clock : 0 ≤ S.clock ∧ S.clock ≤ K
  now : 0 ≤ S.now ∧ S.now ≤ N + K
  tx : ∀ t ∈ S.txs, 1 ≤ t.num ∧ t.num ≤ S.last ∧ 0 ≤ t.snap
  dist : S.txs.Pairwise (fun a b => a.num < b.num)
section
variable {ρ : Type} {I : RdI ρ} {S : Sm ρ} {K N : Int}
theorem Cap.later (h : Cap S K N) : Cap S (K + 1) N :=
  ⟨h.caps, h.act, h.kpt, h.lck, by have := h.last; omega, by have := h.clock; omega, by have := h.now; omega, h.tx, h.dist⟩
theorem Cap.lck4 (h : Cap S K N) : S.locks.length ≤ 4096 := by have := h.lck; have := h.caps; omega
theorem Cap.few (h : Cap S K N) : S.txs.length ≤ 1088 := by have := cnt_all S.txs; have := h.act; have := h.kpt; have := h.caps; omega
theorem Cap.sub (h : Cap S K N) {S' : Sm ρ} (hs : S'.txs.Sublist S.txs) (hl : S'.locks.length ≤ S.locks.length) (e1 : S'.caps = S.caps) (e2 : S'.now = S.now) (e3 : S'.last = S.last) (e4 : S'.clock = S.clock) : Cap S' K N where
  caps := by rw [e1]; exact h.caps
  act := by rw [e1]; have := h.act; have := actC_sub hs; omega
  kpt := by rw [e1]; have := h.kpt; have := keptC_sub hs; omega
  lck := by rw [e1]; have := h.lck; omega
  last := by rw [e3]; exact h.last
  clock := by rw [e4]; exact h.clock
  now := by rw [e2]; exact h.now
  tx := fun t ht => by rw [e3]; exact h.tx t (hs.subset ht)
  dist := h.dist.sublist hs
theorem Cap.map (h : Cap S K N) (φ : Tx → Tx) (hφ : ∀ o, (φ o).num = o.num ∧ (φ o).act = o.act ∧ (φ o).snap = o.snap) : Cap { S with txs := S.txs.map φ } K N where
  caps := h.caps
  act := by
    show ((actC (S.txs.map φ) : Nat) : Int) ≤ _
    unfold actC
    rw [filter_map_len (p := fun t => t.act) _ (fun o => (hφ o).2.1)]
    exact h.act
  kpt := by
    show ((keptC (S.txs.map φ) : Nat) : Int) ≤ _
    unfold keptC
    rw [filter_map_len (p := fun t => !t.act) _ (fun o => by rw [(hφ o).2.1])]
    exact h.kpt
  lck := h.lck
  last := h.last
  clock := h.clock
  now := h.now
  tx := fun t ht => by
    obtain ⟨o, ho, e⟩ := List.mem_map.1 ht
    obtain ⟨a, b, c⟩ := hφ o
    rw [← e, a, c]
    exact h.tx o ho
  dist := by
    show (S.txs.map φ).Pairwise _
    rw [List.pairwise_map]
    exact h.dist.imp (fun {a b} hab => by rw [(hφ a).1, (hφ b).1]; exact hab)
theorem Cap.forget (h : Cap S K N) : Cap (S.forget I) K N := h.sub List.filter_sublist (Nat.le_refl _) rfl rfl rfl rfl
theorem Cap.gone (h : Cap S K N) (n : Int) : Cap (S.gone I n) K N := by
  unfold Sm.gone
  refine Cap.forget ?_
  exact h.sub List.filter_sublist (List.length_filter_le _ _) rfl rfl rfl rfl
theorem Cap.put (h : Cap S K N) (t : Tx) (so : Tx → Bool) (out : Bool) : Cap (S.put I t so out).2 K N := by
  unfold Sm.put
  split
  · exact h.gone _
  · refine h.map _ fun o => ?_
    unfold setF
    split
    · split <;> exact ⟨rfl, rfl, rfl⟩
    · split <;> exact ⟨rfl, rfl, rfl⟩
theorem Cap.rds (h : Cap S K N) (r : ρ) : Cap { S with reads := r } K N := h.sub (List.Sublist.refl _) (Nat.le_refl _) rfl rfl rfl rfl
theorem Cap.noteS (h : Cap S K N) (t : Tx) (x : Rd) (f u : ByteArray) : Cap (S.noteS I t x f u).2 K N := by
  unfold Sm.noteS
  split
  · exact (h.rds _).gone _
  · exact (h.rds _).put _ _ _
theorem Cap.read (h : Cap S K N) (tx : Int) (a : Lk) : Cap (S.read I tx a).2 K N := by
  unfold Sm.read
  split
  · exact h
  · split
    · exact h
    · exact h.noteS _ _ _ _
theorem Cap.scan (h : Cap S K N) (tx : Int) (tb f u : ByteArray) : Cap (S.scan I tx tb f u).2 K N := by
  unfold Sm.scan
  split
  · exact h
  · split
    · exact h
    · exact h.noteS _ _ _ _
theorem Cap.abort (h : Cap S K N) (tx : Int) : Cap (S.abort I tx).2 K N := by
  unfold Sm.abort
  split
  · exact h
  · exact h.gone _
theorem tk_len {most : Int} {L : List (Lk × Int)} {tx snap last : Int} {a : Lk} (h : (L.length : Int) ≤ most) : ((tk most L tx snap last a).2.length : Int) ≤ most := by
  unfold tk
  split
  · split <;> exact h
  · split
    · exact h
    · split
      · exact h
      · simp only [List.length_append, List.length_singleton]
        omega
theorem Cap.lks (h : Cap S K N) {L : List (Lk × Int)} (hL : (L.length : Int) ≤ S.caps.locks) : Cap { S with locks := L } K N :=
  ⟨h.caps, h.act, h.kpt, hL, h.last, h.clock, h.now, h.tx, h.dist⟩
theorem Cap.write (h : Cap S K N) (tx : Int) (a : Lk) (last : Int) : Cap (S.write I tx a last).2 K N := by
  unfold Sm.write
  split
  · exact h
  · rename_i t _
    have h2 := h.lks (tk_len (tx := tx) (snap := t.snap) (last := last) (a := a) h.lck)
    split
    · exact h
    · split
      · exact h
      · split
        · exact h.gone _
        · split
          · exact h2.gone _
          · exact h2.put _ _ _
theorem Cap.begin (h : Cap S K N) : Cap S.begin.2 (K + 1) N := by
  unfold Sm.begin
  split
  · exact h.later
  · rename_i hlt
    have hl := h.last
    have hc := h.clock
    have hn := h.now
    constructor
    · exact h.caps
    · show ((actC (S.txs ++ [_]) : Nat) : Int) ≤ _
      have e : S.acts = actC S.txs := rfl
      unfold actC at e ⊢
      rw [List.filter_append, List.length_append]
      simp
      omega
    · show ((keptC (S.txs ++ [_]) : Nat) : Int) ≤ _
      have := h.kpt
      unfold keptC at this ⊢
      rw [List.filter_append, List.length_append]
      simp
      omega
    · exact h.lck
    · show 0 ≤ S.last + 1 ∧ S.last + 1 ≤ K + 1
      omega
    · show 0 ≤ S.clock + 1 ∧ S.clock + 1 ≤ K + 1
      omega
    · show 0 ≤ S.now ∧ S.now ≤ N + (K + 1)
      omega
    · intro t ht
      rcases List.mem_append.1 ht with ht | ht
      · have := h.tx t ht
        exact ⟨this.1, by show t.num ≤ S.last + 1; omega, this.2.2⟩
      · rw [List.mem_singleton.1 ht]
        exact ⟨by show 1 ≤ S.last + 1; omega, Int.le_refl _, hn.1⟩
    · show (S.txs ++ [_]).Pairwise _
      rw [List.pairwise_append]
      refine ⟨h.dist, by simp, fun a ha b hb => ?_⟩
      rw [List.mem_singleton.1 hb]
      have := h.tx a ha
      show a.num < S.last + 1
      omega
theorem keptC_split (l : List Tx) (n : Int) (hd : l.Pairwise (fun a b => a.num < b.num)) (φ : Tx → Tx) (hφ : ∀ o, o.num ≠ n → φ o = o) : keptC (l.map φ) ≤ keptC (l.filter (fun o => o.num != n)) + 1 := by
  induction l with
  | nil => simp [keptC]
  | cons o l ih =>
    rw [List.pairwise_cons] at hd
    have ih := ih hd.2
    by_cases e : o.num = n
    · have hne : ∀ b ∈ l, b.num ≠ n := fun b hb => by have := hd.1 b hb; omega
      have e1 : l.map φ = l := by
        conv => rhs; rw [← List.map_id l]
        exact List.map_congr_left fun b hb => hφ b (hne b hb)
      have e2 : l.filter (fun o => o.num != n) = l := List.filter_eq_self.2 (fun b hb => by simpa using hne b hb)
      rw [List.map_cons, e1, List.filter_cons, if_neg (by simp [e]), e2]
      unfold keptC
      rw [List.filter_cons]
      split <;> simp
    · rw [List.map_cons, hφ o e, List.filter_cons, if_pos (by simpa using e)]
      unfold keptC at ih ⊢
      rw [List.filter_cons, List.filter_cons]
      split <;> (try simp only [List.length_cons]) <;> omega
theorem actC_map (l : List Tx) (φ : Tx → Tx) (hφ : ∀ o, (φ o).act = true → o.act = true) : actC (l.map φ) ≤ actC l := by
  induction l with
  | nil => exact Nat.le_refl _
  | cons o l ih =>
    unfold actC at ih ⊢
    rw [List.map_cons, List.filter_cons, List.filter_cons]
    by_cases h : (φ o).act = true
    · rw [if_pos h, if_pos (hφ o h)]
      simp only [List.length_cons]
      omega
    · rw [if_neg h]
      split <;> (try simp only [List.length_cons]) <;> omega
theorem Cap.commit (h : Cap S K N) (tx : Int) : Cap (S.commit I tx).2 (K + 1) N := by
  unfold Sm.commit
  split
  · exact h.later
  · rename_i t ht
    split
    · exact (h.gone _).later
    · split
      · exact (h.gone _).later
      · rename_i hno
        refine Cap.forget ?_
        have hl := h.last
        have hc := h.clock
        have hn := h.now
        have hφ : ∀ o : Tx, (if o.num == tx then ({ o with act := false, ended := S.clock + 1, wrote := heldOf S.locks tx } : Tx) else o).num = o.num ∧ (if o.num == tx then ({ o with act := false, ended := S.clock + 1, wrote := heldOf S.locks tx } : Tx) else o).snap = o.snap := fun o => by split <;> exact ⟨rfl, rfl⟩
        have hA : actC (S.ends tx).txs ≤ actC S.txs := actC_map _ _ (fun o ho => by
          revert ho
          split
          · intro ho; cases ho
          · exact id)
        have hK := keptC_split S.txs tx h.dist (fun o => if o.num == tx then ({ o with act := false, ended := S.clock + 1, wrote := heldOf S.locks tx } : Tx) else o) (fun o ho => by simp [ho])
        have hK2 := keptC_sub (l := S.txs.filter (fun o => o.num != tx)) (m := S.txs) List.filter_sublist
        have hT : ∀ u ∈ (S.ends tx).txs, 1 ≤ u.num ∧ u.num ≤ S.last ∧ 0 ≤ u.snap := fun u hu => by
          obtain ⟨o, ho, e⟩ := List.mem_map.1 hu
          rw [← e, (hφ o).1, (hφ o).2]
          exact h.tx o ho
        have hD : (S.ends tx).txs.Pairwise (fun a b => a.num < b.num) := by
          show (S.txs.map _).Pairwise _
          rw [List.pairwise_map]
          exact h.dist.imp (fun {a b} hab => by rw [(hφ a).1, (hφ b).1]; exact hab)
        have hL : ((S.ends tx).locks.length : Int) ≤ S.caps.locks := by
          have := h.lck
          have h2 : (S.ends tx).locks.length ≤ S.locks.length := List.length_filter_le _ _
          omega
        have hN : 0 ≤ (S.ends tx).now ∧ (S.ends tx).now ≤ N + (K + 1) := by
          show 0 ≤ (if heldOf S.locks tx = [] then S.now else S.now + 1) ∧ (if heldOf S.locks tx = [] then S.now else S.now + 1) ≤ N + (K + 1)
          split <;> omega
        have hC : 0 ≤ (S.ends tx).clock ∧ (S.ends tx).clock ≤ K + 1 := by
          show 0 ≤ S.clock + 1 ∧ S.clock + 1 ≤ K + 1
          omega
        have hact := h.act
        have hkpt := h.kpt
        split
        · constructor
          · exact h.caps
          · have := actC_sub (l := (S.ends tx).txs.filter (fun o => o.num != tx)) (m := (S.ends tx).txs) List.filter_sublist
            show ((actC ((S.ends tx).txs.filter (fun o => o.num != tx)) : Nat) : Int) ≤ S.caps.active
            omega
          · have e : (S.ends tx).txs.filter (fun o => o.num != tx) = S.txs.filter (fun o => o.num != tx) := by
              show (S.txs.map _).filter _ = _
              rw [List.filter_map]
              conv => rhs; rw [← List.map_id (S.txs.filter (fun o => o.num != tx))]
              have e1 : S.txs.filter ((fun o => o.num != tx) ∘ (fun o : Tx => if o.num == tx then ({ o with act := false, ended := S.clock + 1, wrote := heldOf S.locks tx } : Tx) else o)) = S.txs.filter (fun o => o.num != tx) := List.filter_congr (fun o _ => by simp only [Function.comp]; rw [(hφ o).1])
              rw [e1]
              apply List.map_congr_left
              intro o ho
              have := (List.mem_filter.1 ho).2
              have : o.num ≠ tx := by simpa using this
              simp [this]
            show ((keptC ((S.ends tx).txs.filter (fun o => o.num != tx)) : Nat) : Int) ≤ S.caps.kept
            rw [e]
            omega
          · exact hL
          · show 0 ≤ S.last ∧ S.last ≤ K + 1
            omega
          · exact hC
          · exact hN
          · exact fun u hu => hT u (List.mem_filter.1 hu).1
          · exact hD.sublist List.filter_sublist
        · rename_i hq
          constructor
          · exact h.caps
          · show ((actC (S.ends tx).txs : Nat) : Int) ≤ S.caps.active
            omega
          · have hmem := List.mem_of_find?_eq_some ht
            have hp := List.find?_some ht
            rw [Bool.and_eq_true] at hp
            have hpos : 0 < S.acts := List.length_pos_iff_exists_mem.2 ⟨t, List.mem_filter.2 ⟨hmem, hp.2⟩⟩
            have hcnt := cnt_all S.txs
            have e : S.acts = actC S.txs := rfl
            have hroom : (S.txs.length : Int) - S.acts < S.caps.kept := by
              by_cases hz : (S.txs.length : Int) - S.acts < S.caps.kept
              · exact hz
              · exfalso
                apply hno
                have hq1 : ¬ S.acts = 1 := fun e => hq (.inl e)
                have hq2 : (heldOf S.locks tx ≠ [] ∨ I.has S.reads tx = true) := Classical.byContradiction fun e => hq (.inr e)
                exact ⟨by omega, hq2, by omega⟩
            show ((keptC (S.txs.map (fun o => if o.num == tx then ({ o with act := false, ended := S.clock + 1, wrote := heldOf S.locks tx } : Tx) else o)) : Nat) : Int) ≤ S.caps.kept
            omega
          · exact hL
          · show 0 ≤ S.last ∧ S.last ≤ K + 1
            omega
          · exact hC
          · exact hN
          · exact hT
          · exact hD
end
end Go.Proofs.YthaoedfalkebbaaGreat
namespace Go.Proofs.YthaoedfalkebbaaGreat
set_option linter.unusedVariables false
set_option linter.unusedSectionVars false
set_option linter.unusedSimpArgs false
section
variable {ρ : Type} {I : RdI ρ} {ok : ρ → Prop} {most : Int}
theorem put_nil (S : Sm ρ) (t : Tx) (out : Bool) (h1 : t.fin = false ∨ t.fout = false) (so : Tx → Bool) (hso : ∀ o ∈ S.txs, so o = false) : S.put I t so out = (0, S) := by
  unfold Sm.put
  have e : S.txs.any (fun o => concB t o && so o) = false := by
    rw [List.any_eq_false]
    intro o ho
    rw [hso o ho]
    simp
  have e2 : S.txs.any (fun o => (concB t o && so o) && (!o.act && bothB o.fin o.fout out (!out))) = false := by
    rw [List.any_eq_false]
    intro o ho
    rw [hso o ho]
    simp
  rw [e, e2]
  have e3 : bothB t.fin t.fout (!out && false) (out && false) = false := by unfold bothB; rcases h1 with h1 | h1 <;> rw [h1] <;> simp
  rw [e3]
  simp only [Bool.or_false, Bool.false_eq_true, if_false]
  have e4 : S.txs.map (fun o => if o.num == t.num then o else if concB t o && so o then setF o out else o) = S.txs := by
    conv => rhs; rw [← List.map_id S.txs]
    apply List.map_congr_left
    intro o ho
    rw [hso o ho]
    simp
  rw [e4]
end
end Go.Proofs.YthaoedfalkebbaaGreat
