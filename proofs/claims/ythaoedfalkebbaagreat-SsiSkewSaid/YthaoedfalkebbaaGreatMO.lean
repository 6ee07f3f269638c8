import Derived.Test.YthaoedfalkebbaaGreatMN
namespace Go.Proofs.YthaoedfalkebbaaGreat
open Go.RowKit Go.Maps Go.Sort Go.Lib Go.Shelf Go.Proofs.YthaoedfalkebbaaGreatW.PrintWords Go.Proofs.YthaoedfalkebbaaGreatW.PrintLast Go.Proofs.YthaoedfalkebbaaGreatW.PrintMore
set_option linter.unusedVariables false
set_option linter.unusedSimpArgs false
set_option linter.unusedSectionVars false
/-! ### notes as the machine's; forget -/
/-- the machine's notes -/
def iS (most : Int) : RdI St := ⟨fun r t x => noteP r most t x, fun r t => (dropP r t).2, readP, fun r t => !(ofP r t).isEmpty, fun r => r.n⟩
/-- some go, and notes with them -/
theorem Pm.turn {w w' : World} {base : Nat} {l : Loc} {S S' : Sm St} {O : Nat → Prop} (h : Pm w base l S) (f : Fr O w w') (hO : ∀ k, O k → k = l.mb ∨ k = l.rp ∨ k = l.rb) (e1 : S'.caps = S.caps) (e2 : S'.now = S.now) (e3 : S'.last = S.last) (e4 : S'.clock = S.clock) (e5 : S'.locks = S.locks) (hs : S'.txs.Sublist S.txs)
    (ht : TabT w' l.mb S'.txs.length (txL l.Q S'.txs)) (hr : MrS w' base l.rp l.rb S.caps.reads S'.reads) : Pm w' base l S' := by
  obtain ⟨hk, k1, k2, k3, k4, k5, k6, k7, k8, k9, k10, k11, k12⟩ := h.kinds
  have hm : ∀ t, t ∈ S'.txs → t ∈ S.txs := fun t ht => hs.subset ht
  have no : ∀ k, (k ≠ l.mb ∧ k ≠ l.rp ∧ k ≠ l.rb) → ¬ O k := fun k hk h => by
    rcases hO k h with e | e | e
    · exact hk.1 e
    · exact hk.2.1 e
    · exact hk.2.2 e
  obtain ⟨es1, c1, hmap⟩ := h.tab.isMap
  obtain ⟨cr, sr, hrr⟩ := h.reads.is55
  obtain ⟨⟨L, M, _, _⟩, _⟩ := h.reads
  obtain ⟨e3', c3', hrm⟩ := M.tab.isMap
  constructor
  · have := f.block _ _ (no l.p ⟨k1, k4, k5⟩) h.head
    unfold hdCells at this ⊢
    rw [e1, e2, e3, e4]
    exact this
  · exact ht
  · intro t htm
    obtain ⟨v, h1, ws, h2, h3⟩ := h.tx t (hm t htm)
    obtain ⟨q1, q2, q3, q4, q5, q6⟩ := hk t (hm t htm)
    refine ⟨v, f.block _ _ (no _ ⟨q2, q5, q6⟩) h1, ws, h2.move fun g hg => ?_, h3⟩
    obtain ⟨_, _, cells, hc⟩ := h2.typed g hg
    refine (f.block g _ (no g ⟨fun e => ?_, fun e => ?_, fun e => ?_⟩) hc).trans hc.symm
    · rw [e, hmap] at hc; cases hc
    · rw [e, hrr] at hc; simp at hc
    · rw [e, hrm] at hc; cases hc
  · exact fun t ht u hu e => h.qinj t (hm t ht) u (hm u hu) e
  · rw [e1, e5]
    exact h.locks.fr f (no _ ⟨k6, k8, k9⟩) (no _ ⟨fun e => h.ne1 e.symm, fun e => k11 e.symm, h.ne3⟩)
  · obtain ⟨c, s, hc⟩ := h.lkind
    exact ⟨c, s, f.block _ _ (no _ ⟨k6, k8, k9⟩) hc⟩
  · rw [e1]; exact hr
  · exact h.dist.sublist hs
  · intro t ht
    rw [e3]
    exact h.nums t (hm t ht)
  · exact Nat.le_trans hs.length_le h.few
  · exact h.ne1
  · exact h.ne2
  · exact h.ne3
  · exact ⟨h.low.1, h.low.2.1, h.low.2.2.1, h.low.2.2.2.1, h.low.2.2.2.2.1, fun t ht => h.low.2.2.2.2.2 t (hm t ht)⟩
/-! drops, in whatever order -/
def dropA (S : St) (ns : List Int) : St := ns.foldl (fun r n => (dropP r n).2) S
theorem dropP_pos (S : St) {n : Int} (h : 1 ≤ n) : (dropP S n).2 = dropS S n := by unfold dropP; rw [if_neg (by omega)]
theorem dropS_comm (S : St) (a b : Int) : dropS (dropS S a) b = dropS (dropS S b) a := by
  have hR : dropR (dropR S.R a) b = dropR (dropR S.R b) a := by
    funext q
    unfold dropR
    by_cases h1 : q.1 = a <;> by_cases h2 : q.1 = b <;> simp [h1, h2]
  have hK : (S.K.filter (fun q => q.1 != a)).filter (fun q => q.1 != b) = (S.K.filter (fun q => q.1 != b)).filter (fun q => q.1 != a) := by
    rw [List.filter_filter, List.filter_filter]
    congr 1
    funext q
    exact Bool.and_comm _ _
  unfold dropS
  simp only [hR, hK]
theorem dropA_perm {xs ys : List Int} (h : xs.Perm ys) : ∀ (S : St), (∀ n ∈ xs, 1 ≤ n) → dropA S xs = dropA S ys := by
  induction h with
  | nil => intro S _; rfl
  | cons x _ ih =>
    intro S hp
    show dropA (dropP S x).2 _ = dropA (dropP S x).2 _
    exact ih _ (fun n hn => hp n (List.mem_cons_of_mem _ hn))
  | swap x y l =>
    intro S hp
    show dropA (dropP (dropP S y).2 x).2 l = dropA (dropP (dropP S x).2 y).2 l
    have hx : 1 ≤ x := hp x (by simp)
    have hy : 1 ≤ y := hp y (by simp)
    rw [dropP_pos S hy, dropP_pos _ hx, dropP_pos S hx, dropP_pos _ hy, dropS_comm]
  | trans h1 _ ih1 ih2 =>
    intro S hp
    rw [ih1 S hp]
    exact ih2 S (fun n hn => hp n (h1.mem_iff.2 hn))
theorem forget_eq (most : Int) (S : Sm St) : S.forget (iS most) = { S with txs := S.txs.filter (keepB S.txs), reads := dropA S.reads ((S.txs.filter (fun t => !keepB S.txs t)).map (fun t => t.num)) } := by
  unfold Sm.forget dropA
  rw [List.foldl_map]
  rfl
end Go.Proofs.YthaoedfalkebbaaGreat
namespace Go.Proofs.YthaoedfalkebbaaGreat
open Go.RowKit Go.Maps Go.Sort Go.Lib Go.Shelf Go.Proofs.YthaoedfalkebbaaGreatW.PrintWords Go.Proofs.YthaoedfalkebbaaGreatW.PrintLast Go.Proofs.YthaoedfalkebbaaGreatW.PrintMore
set_option linter.unusedVariables false
set_option linter.unusedSimpArgs false
set_option linter.unusedSectionVars false
/-! ### forget -/
section
variable {P : Program} {α β : Type} {k : TypeId} {mk : α → Value} {ok : α → Prop} {R : Value → Option (DataW Unit × List MemPlace)} {cd : β → DataW Unit}
theorem Rng.isIter {w : World} {b r n : Nat} {L rem : List (α × β)} (h : Rng P k mk ok R cd w b r n L rem) : ∃ m s se c, w.heap[r]? = some (.mapIter m s se c) := by
  obtain ⟨D, left, ⟨es, clock, since, seen, c0, _, _, _, _, h5, _⟩, _⟩ := h
  exact ⟨_, _, _, _, h5⟩
theorem Rng.move {w w' : World} {b r n : Nat} {L rem : List (α × β)} (h : Rng P k mk ok R cd w b r n L rem) (e1 : w'.heap[b]? = w.heap[b]?) (e2 : w'.heap[r]? = w.heap[r]?) : Rng P k mk ok R cd w' b r n L rem ∧ w'.rangeLeft b r = w.rangeLeft b r := by
  have el : w'.rangeLeft b r = w.rangeLeft b r := by unfold World.rangeLeft; rw [e1, e2]
  obtain ⟨D, left, h1, h2⟩ := h
  refine ⟨⟨D, left, ?_, h2⟩, el⟩
  rw [el]
  unfold World.ranges at h1 ⊢
  rw [e1, e2]
  exact h1
end
/-- what goes -/
def deadN (txs vis : List Tx) : List Int := (vis.filter (fun t => !keepB txs t)).map (fun t => t.num)
def curT (txs : List Tx) (ds : List Int) : List Tx := txs.filter (fun t => decide (t.num ∉ ds))
theorem curT_nil (txs : List Tx) : curT txs [] = txs := by unfold curT; exact List.filter_eq_self.2 (fun _ _ => by simp)
theorem dead_act {txs vis : List Tx} (hd : txs.Pairwise (fun a b => a.num < b.num)) (hv : ∀ t ∈ vis, t ∈ txs) {t : Tx} (ht : t ∈ txs) : t.num ∈ deadN txs vis ↔ t ∈ vis ∧ keepB txs t = false := by
  unfold deadN
  constructor
  · intro h
    obtain ⟨u, hu, e⟩ := List.mem_map.1 h
    obtain ⟨h1, h2⟩ := List.mem_filter.1 hu
    have : u = t := dist_inj hd (hv u h1) ht e
    subst this
    exact ⟨h1, by simpa using h2⟩
  · rintro ⟨h1, h2⟩
    exact List.mem_map.2 ⟨t, List.mem_filter.2 ⟨h1, by simp [h2]⟩, rfl⟩
/-- those under way stay -/
theorem cur_act {txs vis : List Tx} (hd : txs.Pairwise (fun a b => a.num < b.num)) (hv : ∀ t ∈ vis, t ∈ txs) : (curT txs (deadN txs vis)).filter (fun t => t.act) = txs.filter (fun t => t.act) := by
  unfold curT
  rw [List.filter_filter]
  apply List.filter_congr
  intro t ht
  cases ha : t.act with
  | false => simp
  | true =>
    have : t.num ∉ deadN txs vis := fun h => by
      have := ((dead_act hd hv ht).1 h).2
      unfold keepB at this
      rw [ha] at this
      cases this
    simp [this]
theorem forget_done {most : Int} {S : Sm St} {vis : List Tx} (hd : S.txs.Pairwise (fun a b => a.num < b.num)) (hp : vis.Perm S.txs) (hpos : ∀ t ∈ S.txs, 1 ≤ t.num) :
    ({ S with txs := curT S.txs (deadN S.txs vis), reads := dropA S.reads (deadN S.txs vis) } : Sm St) = S.forget (iS most) := by
  rw [forget_eq]
  have e1 : curT S.txs (deadN S.txs vis) = S.txs.filter (keepB S.txs) := by
    unfold curT
    apply List.filter_congr
    intro t ht
    have h := dead_act hd (fun u hu => hp.mem_iff.1 hu) ht
    have h2 : t ∈ vis := hp.mem_iff.2 ht
    cases hk : keepB S.txs t with
    | true =>
      have : t.num ∉ deadN S.txs vis := fun h3 => by have := (h.1 h3).2; rw [hk] at this; cases this
      simp [this]
    | false =>
      have : t.num ∈ deadN S.txs vis := h.2 ⟨h2, hk⟩
      simp [this]
  have e2 : dropA S.reads (deadN S.txs vis) = dropA S.reads ((S.txs.filter (fun t => !keepB S.txs t)).map (fun t => t.num)) := by
    refine dropA_perm ((hp.filter _).map _) S.reads (fun n hn => ?_)
    obtain ⟨t, ht, rfl⟩ := List.mem_map.1 hn
    exact hpos t (hp.mem_iff.1 (List.mem_filter.1 ht).1)
  rw [e1, e2]
def own3 (l : Loc) (k : Nat) : Prop := k = l.mb ∨ k = l.rp ∨ k = l.rb
def FoJ (w : World) (base : Nat) (l : Loc) (S : Sm St) (wr : World) : Prop :=
  ∃ vis rem : List Tx, (vis ++ rem).Perm S.txs ∧ RngT wr l.mb w.heap.size S.txs.length (txL l.Q (curT S.txs (deadN S.txs vis))) (txL l.Q rem) ∧ MrS wr base l.rp l.rb S.caps.reads (dropA S.reads (deadN S.txs vis)) ∧ Fr (own3 l) w wr
/-- the manager within forget -/
theorem FoJ.pm {w wr : World} {base : Nat} {l : Loc} {S : Sm St} (h : Pm w base l S) {vis : List Tx} {n : Nat} {rem' : List (Int × Option Nat)} (hr : RngT wr l.mb w.heap.size n (txL l.Q (curT S.txs (deadN S.txs vis))) rem') (hM : MrS wr base l.rp l.rb S.caps.reads (dropA S.reads (deadN S.txs vis))) (hF : Fr (own3 l) w wr) :
    Pm wr base l { S with txs := curT S.txs (deadN S.txs vis), reads := dropA S.reads (deadN S.txs vis) } := by
  refine h.turn hF (fun _ h => h) rfl rfl rfl rfl rfl List.filter_sublist ?_ hM
  have := hr.tab.exact
  have e : (txL l.Q (curT S.txs (deadN S.txs vis))).length = (curT S.txs (deadN S.txs vis)).length := by unfold txL; rw [List.length_map]
  rw [e] at this
  exact this
end Go.Proofs.YthaoedfalkebbaaGreat
namespace Go.Proofs.YthaoedfalkebbaaGreat
open Go.RowKit Go.Maps Go.Sort Go.Lib Go.Shelf Go.Proofs.YthaoedfalkebbaaGreatW.PrintWords Go.Proofs.YthaoedfalkebbaaGreatW.PrintLast Go.Proofs.YthaoedfalkebbaaGreatW.PrintMore
set_option linter.unusedVariables false
set_option linter.unusedSimpArgs false
set_option linter.unusedSectionVars false
/-! ### forget, walked -/
def keptA (t : Tx) (ac : List Tx) : Bool   := ac.any (fun a => decide (a.begun < t.ended))
def L2J (W4 : World) (t : Tx) (ac : List Tx) (v4 v24 : Value) (wr : World) : Prop := ∃ i : Nat, v24 = .int .i64 (i : Int) ∧ i ≤ ac.length ∧ v4 = .bool (keptA t (ac.take i)) ∧ Below W4.heap.size W4 wr
theorem keptA_all {txs : List Tx} {t : Tx} (ha : t.act = false) : keptA t (txs.filter (fun a => a.act)) = keepB txs t := by
  unfold keptA keepB
  rw [ha, Bool.false_or, List.any_filter]
theorem dead_snoc (txs vis : List Tx) (t : Tx) : deadN txs (vis ++ [t]) = if keepB txs t = true then deadN txs vis else deadN txs vis ++ [t.num] := by
  unfold deadN
  rw [List.filter_append]
  cases h : keepB txs t <;> simp [h]
theorem curT_snoc (txs : List Tx) (ds : List Int) (n : Int) : curT txs (ds ++ [n]) = (curT txs ds).filter (fun u => decide (u.num ≠ n)) := by
  unfold curT
  rw [List.filter_filter]
  apply List.filter_congr
  intro u _
  by_cases h1 : u.num ∈ ds <;> by_cases h2 : u.num = n <;> simp [h1, h2]
theorem dropA_snoc (S : St) (ds : List Int) (n : Int) : dropA S (ds ++ [n]) = (dropP (dropA S ds) n).2 := by unfold dropA; rw [List.foldl_append]; rfl
set_option maxHeartbeats 16000000 in
set_option maxRecDepth 100000 in
theorem forget_s (base : Nat) (l : Loc) (S : Sm St) (w : World) (h : Pm w base l S) :
    Calls Tryz.prog 55 #[ptr l.p] w fun e w' => e = .returned (.tuple #[]) ∧ Pm w' base l (S.forget (iS S.caps.reads)) ∧ Fr (own3 l) w w' := by
  obtain ⟨_, _, _, _, _, _, _, c7, _, c9⟩ := h.cells
  obtain ⟨hk, k1, k2, k3, k4, k5, k6, k7, k8, k9, k10, k11, k12⟩ := h.kinds
  have hlt : l.p < w.heap.size := (Array.getElem?_eq_some_iff.1 h.head).1
  have hmlt : l.mb < w.heap.size := h.tab.lt
  have hrlt : l.rp < w.heap.size := h.reads.lt
  obtain ⟨w2, hrun, hRg, hg2, hs2⟩ := Tab.range (t := 86) keyN Tryz.underlying86 h.tab
  have hdist := h.dist
  have hpos : ∀ t ∈ S.txs, 1 ≤ t.num ∧ okN t.num := fun t ht => ⟨(h.nums t ht).1, (h.nums t ht).2.2⟩
  have hrblt : ∀ W, Fr (own3 l) w W → True := fun _ _ => trivial
  have CELL : ∀ W, Fr (own3 l) w W → W.cell? ⟨l.p, 7, none⟩ = some (.map (some l.mb)) ∧ W.cell? ⟨l.p, 9, none⟩ = some (ptr l.rp) := fun W F => by
    have no : ¬ own3 l l.p := fun h => by rcases h with e | e | e <;> omega
    exact ⟨F.cell c7 no, F.cell c9 no⟩
  have TXC : ∀ W, Fr (own3 l) w W → ∀ t ∈ S.txs, ∃ v, W.heap[l.Q t.num]? = some (txCells t v) := fun W F t ht => by
    obtain ⟨v, hv, _⟩ := h.tx t ht
    obtain ⟨q1, q2, q3, q4, q5, q6⟩ := hk t ht
    exact ⟨v, F.block _ _ (fun h => by rcases h with e | e | e <;> omega) hv⟩
  have QQ : ∀ a ∈ S.txs, ∀ t ∈ S.txs, (l.Q t.num = l.Q a.num ↔ t.num = a.num) := fun a ha t ht => h.q ha ht
  have PM : ∀ wr (vis : List Tx) (n : Nat) rem', RngT wr l.mb w.heap.size n (txL l.Q (curT S.txs (deadN S.txs vis))) rem' → MrS wr base l.rp l.rb S.caps.reads (dropA S.reads (deadN S.txs vis)) → Fr (own3 l) w wr → Pm wr base l { S with txs := curT S.txs (deadN S.txs vis), reads := dropA S.reads (deadN S.txs vis) } := fun wr vis n rem' a b c => FoJ.pm h a b c
  have J0 : FoJ w base l S w2 := by
    refine ⟨[], S.txs, List.Perm.refl _, by rw [show deadN S.txs [] = [] from rfl, curT_nil]; exact hRg, ?_, (Fr.grown hg2).mono (fun k hk _ => by cases hk)⟩
    exact h.reads.kept hg2
  have hne1 := h.ne1
  have hne2 := h.ne2
  have hne3 := h.ne3
  clear h hRg
  replace PM := Aside0.mk PM
  replace TXC := Aside0.mk TXC
  replace QQ := Aside0.mk QQ
  replace CELL := Aside0.mk CELL
  replace hdist := Aside0.mk hdist
  replace hpos := Aside0.mk hpos
  clear hk hrblt
  go_enter Tryz.func55, Tryz.ntmps55
  go_wp2_with fail
  go_loopw [2] (fun _ wr => FoJ w base l S wr) (fun _ wr => wr.rangeLeft l.mb w.heap.size)
  case atStart => exact J0
  case round =>
    clear J0
    obtain ⟨vis, rem, hpm, hr, hM, hF⟩ := hrel
    rcases hr.next keyN valQ 0 with ⟨hnil, hrun1⟩ | ⟨a, sv, w3, hmem, hok, hrun1, hr3, hlt3, hg3, hs3, hent⟩
    · have hrem : rem = [] := by
        cases rem with
        | nil => rfl
        | cons t rem => unfold txL at hnil; cases hnil
      subst hrem
      rw [List.append_nil] at hpm
      have K : Pm wr base l (S.forget (iS S.caps.reads)) ∧ Fr (own3 l) w wr := by
        refine ⟨?_, hF⟩
        rw [← forget_done (most := S.caps.reads) hdist.out hpm (fun t ht => (hpos.out t ht).1)]
        exact PM.out wr vis _ _ hr hM hF
      replace K := Aside0.mk K
      clear hnil hr hM hF hpm
      go_wp2
      go_end0
      exact ⟨rfl, K.out⟩
    · obtain ⟨t, ht, rfl, rfl⟩ := txL_mem hmem
      have htm : t ∈ S.txs := hpm.mem_iff.1 (List.mem_append_right _ ht)
      have hvm : ∀ u ∈ vis, u ∈ S.txs := fun u hu => hpm.mem_iff.1 (List.mem_append_left _ hu)
      rw [txL_filter] at hr3
      have hpn := tx_next (apart_txL hr.apart) hpm ht
      obtain ⟨m0, s0, se0, c0, hit⟩ := hr.isIter
      have hF3 : Fr (own3 l) w w3 := hF.trans (Fr.grown hg3) (fun k hk hlt => by injection hk with hk; omega)
      obtain ⟨sv1, sv2, sv3, sv4, sv5⟩ := hM
      have hrb : l.rb ≠ w.heap.size := by
        intro e
        obtain ⟨L, Mr0', _, _⟩ := sv1
        obtain ⟨es, cl, hmap⟩ := Mr0'.tab.isMap
        rw [e, hit] at hmap
        cases hmap
      have hM3 : MrS w3 base l.rp l.rb S.caps.reads (dropA S.reads (deadN S.txs vis)) := MrS.fr ⟨sv1, sv2, sv3, sv4, sv5⟩ (Fr.grown hg3) (fun e => by injection e with e; omega) (fun e => by injection e with e; exact hrb e.symm) (fun k c s hk hc => by injection hk with hk; rw [← hk, hit] at hc; cases hc)
      have P3 := PM.out w3 vis _ _ hr3 hM3 hF3
      obtain ⟨vt, hvt⟩ := TXC.out w3 hF3 t htm
      obtain ⟨_, _, t2, _⟩ := tx_cells hvt
      unfold mkN mvQ at hrun1 hent
      have keep3 : keepB S.txs t = true → ∀ W, Below w3.heap.size w3 W → FoJ w base l S W ∧ W.rangeLeft l.mb w.heap.size < wr.rangeLeft l.mb w.heap.size := by
        intro hkp W BW
        obtain ⟨hr7, el2⟩ := hr3.kept (grown_of_below BW none) (by simp) (by simp)
        have e : deadN S.txs (vis ++ [t]) = deadN S.txs vis := by rw [dead_snoc, if_pos hkp]
        refine ⟨⟨vis ++ [t], _, hpn, by rw [e]; exact hr7, by rw [e]; exact hM3.kept (grown_of_below BW none), hF3.trans (Fr.ofBelow (O := fun _ => False) BW) (fun _ h _ => h.elim)⟩, by rw [el2]; exact hlt3⟩
      clear sv1 sv2 sv3 sv4 sv5 hok hmem
      cases ha : t.act with
      | true =>
        rw [ha] at t2
        have F := keep3 (by unfold keepB; rw [ha]; rfl) w3 (Below.refl _ _)
        clear keep3 hr hr3 hM3 P3 hpn hF hF3 hlt3
        replace F := Aside0.mk F
        replace ha := Aside0.mk ha
        go_wp2
        exact F.out
      | false =>
        rw [ha] at t2
        have hact := cur_act hdist.out hvm
        have AC := Active_s base l _ w3 P3
        have hrow : actN (curT S.txs (deadN S.txs vis)) = (S.txs.filter (fun a => a.act)).map (fun a => a.num) := by unfold actN; rw [hact]
        replace AC : Calls Tryz.prog 26 #[ptr l.p] w3 fun e w' => ∃ v, e = .returned v ∧ dI.R 2 w' w3.heap.size (fun _ => True) v ((S.txs.filter (fun a => a.act)).map (fun a => a.num)) ∧ Below w3.heap.size w3 w' := by rw [← hrow]; exact AC
        obtain ⟨ac, hac⟩ : ∃ ac, ac = S.txs.filter (fun a => a.act) := ⟨_, rfl⟩
        rw [← hac] at AC
        have hacm : ∀ a ∈ ac, a ∈ S.txs ∧ a.act = true ∧ a ∈ curT S.txs (deadN S.txs vis) := fun a haa => by
          rw [hac, ← hact] at haa
          obtain ⟨h1, h2⟩ := List.mem_filter.1 haa
          exact ⟨(List.mem_filter.1 h1).1, h2, h1⟩
        have hacl : ac.length ≤ 65536 := by
          have h1 := P3.few
          have h2 : ac.length ≤ (curT S.txs (deadN S.txs vis)).length := by rw [hac, ← hact]; exact List.length_filter_le _ _
          exact Nat.le_trans h2 h1
        have LOOK : ∀ W, Below w3.heap.size w3 W → ∀ a ∈ ac, (Instr.lookup 86 (.map (some l.mb)) (.int .i64 a.num) false).run Tryz.prog W = .ok (ptr (l.Q a.num)) W := fun W BW a haa => by
          obtain ⟨h1, h2, h3⟩ := hacm a haa
          have hl := Tab.look1 (t := 86) (e := 99) keyN valQ Tryz.underlying86 (P3.below BW).tab (z := none) (zero99 W) (hpos.out a h1).2
          rw [got_tx] at hl
          have hd2 : (curT S.txs (deadN S.txs vis)).Pairwise (fun a b => a.num < b.num) := hdist.out.sublist List.filter_sublist
          rw [show (curT S.txs (deadN S.txs vis)).find? (fun u => u.num == a.num) = some a from find_num hd2 h3 rfl] at hl
          exact hl
        have CONC : ∀ W, Below w3.heap.size w3 W → ∀ a ∈ ac, Calls Tryz.prog 85 #[ptr (l.Q a.num), ptr (l.Q t.num)] W fun e w' => e = .returned (.bool (decide (a.begun < t.ended))) ∧ ∃ n, w' = W.drewN n := fun W BW a haa => by
          obtain ⟨h1, h2, h3⟩ := hacm a haa
          have hFW : Fr (own3 l) w W := hF3.trans (Fr.ofBelow (O := fun _ => False) BW) (fun _ h _ => h.elim)
          obtain ⟨v1, c1⟩ := TXC.out W hFW a h1
          obtain ⟨v2, c2⟩ := TXC.out W hFW t htm
          have hc := concurrent_c (l.Q a.num) (l.Q t.num) a t v1 v2 W c1 c2 (QQ.out a h1 t htm)
          have hne : ¬ t.num = a.num := fun e => by
            have := dist_inj hdist.out htm h1 e
            rw [this, h2] at ha
            cases ha
          have e : concB a t = decide (a.begun < t.ended) := by unfold concB; simp [hne, ha]
          rw [e] at hc
          exact hc
        have CEL : ∀ W, Below w3.heap.size w3 W → W.cell? ⟨l.p, 7, none⟩ = some (.map (some l.mb)) ∧ W.cell? ⟨l.p, 9, none⟩ = some (ptr l.rp) := fun W BW => CELL.out W (hF3.trans (Fr.ofBelow (O := fun _ => False) BW) (fun _ h _ => h.elim))
        have hkall : keptA t ac = keepB S.txs t := by rw [hac]; exact keptA_all ha
        have GO : keepB S.txs t = false → ∀ W, Below w3.heap.size w3 W → Calls Tryz.prog 54 #[ptr l.rp, .int .i64 t.num] W fun e w5 => (∃ k, e = .returned (.int .i64 k)) ∧ w5.cell? ⟨l.p, 7, none⟩ = some (.map (some l.mb)) ∧ ∃ w6, (Builtin.delete_ #[86, 2] 0 #[.map (some l.mb), .int .i64 t.num]).run Tryz.prog w5 = .ok (.tuple #[]) w6 ∧ FoJ w base l S w6 ∧ w6.rangeLeft l.mb w.heap.size < wr.rangeLeft l.mb w.heap.size := by
          intro hkp W BW
          obtain ⟨hrW, elW⟩ := hr3.kept (grown_of_below BW none) (by simp) (by simp)
          have hMW := hM3.kept (grown_of_below BW none)
          have hFW : Fr (own3 l) w W := hF3.trans (Fr.ofBelow (O := fun _ => False) BW) (fun _ h _ => h.elim)
          refine (Drop_S base l.rp l.rb S.caps.reads _ t.num W hMW).mono ?_
          rintro e w5 ⟨rfl, hM5, hB5⟩
          obtain ⟨es, cl, hmap⟩ := hrW.tab.isMap
          obtain ⟨m1, s1, se1, c1', hit1⟩ := hrW.isIter
          have hF5 : Fr (own3 l) w w5 := hFW.trans (Fr.ofBut hB5) (fun k hk _ => by rcases hk with e | e; exact .inr (.inl e); exact .inr (.inr e))
          obtain ⟨hr5, el5⟩ := hrW.move ((hB5.cells _ _ (fun e => k10 e.symm) hne2 hmap).trans hmap.symm) ((hB5.cells _ _ (by omega) (fun e => hrb e.symm) hit1).trans hit1.symm)
          obtain ⟨w6, hdel, hr6, hle6, hturn⟩ := hr5.drop (t := 86) (e := 99) keyN Tryz.underlying86 (hpos.out t htm).2 0
          refine ⟨⟨_, rfl⟩, (CELL.out w5 hF5).1, w6, hdel, ⟨vis ++ [t], _, hpn, ?_, ?_, ?_⟩, by rw [el5, elW] at hle6; omega⟩
          · have e : deadN S.txs (vis ++ [t]) = deadN S.txs vis ++ [t.num] := by rw [dead_snoc, if_neg (by rw [hkp]; decide)]
            rw [e, curT_snoc]
            rw [txL_filter, txL_filter, List.filter_filter] at hr6
            simp only [Bool.and_self] at hr6
            exact hr6
          · have e : deadN S.txs (vis ++ [t]) = deadN S.txs vis ++ [t.num] := by rw [dead_snoc, if_neg (by rw [hkp]; decide)]
            rw [e, dropA_snoc]
            obtain ⟨es5, cl5, hmap5⟩ := hr5.tab.isMap
            refine hM5.fr (Fr.grown (turned_grown hturn)) (fun e => by injection e with e; exact k10 e.symm) (fun e => by injection e with e; exact hne2 e) (fun k c s hk hc => ?_)
            injection hk with hk
            rw [← hk, hmap5] at hc
            cases hc
          · exact hF5.trans (Fr.grown (turned_grown hturn)) (fun k hk _ => by injection hk with hk; exact .inl hk.symm)
        clear hr hr3 hM3 P3 hpn hF hlt3 hact hrow hacm hit
        replace LOOK := Aside0.mk LOOK
        replace CONC := Aside0.mk CONC
        replace CEL := Aside0.mk CEL
        replace GO := Aside0.mk GO
        replace keep3 := Aside0.mk keep3
        replace hkall := Aside0.mk hkall
        replace hac := Aside0.mk hac
        replace ha := Aside0.mk ha
        replace hF3 := Aside0.mk hF3
        go_wp2_with fail
        refine AC.mono ?_
        rintro e W4 ⟨v, rfl, hv, B4⟩
        obtain ⟨A, c, rfl, hlc, hA⟩ := (Lo.ofR hv).slice
        have hln : (ac.map (fun a => a.num)).length = ac.length := List.length_map _
        have R4 := Lo.ofR hv
        rw [hln] at R4 hlc hA ⊢
        have J2 : L2J W4 t ac (.bool false) (.int .i64 0) W4 := ⟨0, rfl, Nat.zero_le _, rfl, Below.refl _ _⟩
        have hgl : ∀ k (hk : k < ac.length), (ac.map (fun a => a.num))[k]? = some ac[k].num := fun k hk => by rw [List.getElem?_map, List.getElem?_eq_getElem hk]; rfl
        replace hgl := Aside0.mk hgl
        clear hv AC t2
        go_wp2_with fail
        go_loopw [4, 24] (fun v4 v24 wr => L2J W4 t ac v4 v24 wr) (fun _ v24 _ => ac.length - (intOf v24).toNat)
        case atStart => exact J2
        case round =>
          clear J2
          obtain ⟨i, rfl, hi, rfl, B⟩ := hrel
          have B34 := below_then B4 B4.size B
          obtain ⟨d7, d9⟩ := CEL.out wr B34
          by_cases hlt : i < ac.length
          · have hil : (i : Int) < (ac.length : Int) := by omega
            obtain ⟨g, rfl, _⟩ := hA (by omega)
            have y0 := RowI.at (R4.grown (grown_of_below B none) (by simp)) i _ (hgl.out i hlt)
            have hmem := List.getElem_mem hlt
            have LK := LOOK.out wr B34 ac[i] hmem
            have CC := CONC.out wr B34 ac[i] hmem
            have hst : keptA t (ac.take (i + 1)) = (keptA t (ac.take i) || decide (ac[i].begun < t.ended)) := by
              unfold keptA
              rw [List.take_succ_eq_append_getElem hlt, List.any_append]
              simp
            have fin : ∀ b W, Below wr.heap.size wr W → b = keptA t (ac.take (i + 1)) → L2J W4 t ac (.bool b) (.int .i64 ((i : Int) + 1)) W := fun b W BX hb => ⟨i + 1, by simp, by omega, by rw [hb], below_then B B.size BX⟩
            rw [hst] at fin
            generalize ac[i] = a at y0 LK CC fin
            generalize l.Q a.num = qa at LK CC
            clear hst hmem
            cases hb : keptA t (ac.take i) with
            | true =>
              have F := fin true wr (Below.refl _ _) (by rw [hb]; rfl)
              clear fin
              replace F := Aside0.mk F
              replace hb := Aside0.mk hb
              go_wp2
              refine ⟨F.out, ?_⟩
              simp [intOf]
              omega
            | false =>
              have F := fun W BX => fin (decide (a.begun < t.ended)) W BX (by rw [hb]; rfl)
              clear fin
              replace F := Aside0.mk F
              replace hb := Aside0.mk hb
              go_wp2_with fail
              refine CC.mono ?_
              rintro e W5 ⟨rfl, n, hWn⟩
              have F2 := F.out W5 (by rw [hWn]; exact (Below.refl _ wr).grown (drewNG wr n) (Nat.le_refl _) (by simp))
              generalize decide (a.begun < t.ended) = bb at F2 ⊢
              clear F LK CC y0 hWn
              replace F2 := Aside0.mk F2
              go_wp2
              refine ⟨F2.out, ?_⟩
              simp [intOf]
              omega
          · have hie : i = ac.length := by omega
            have hge : ¬ (i : Int) < (ac.length : Int) := by omega
            rw [hie, List.take_length, hkall.out]
            replace hie := Aside0.mk hie
            cases hkp : keepB S.txs t with
            | true =>
              have F := keep3.out hkp wr B34
              clear keep3 GO LOOK CONC
              replace F := Aside0.mk F
              replace hkp := Aside0.mk hkp
              go_wp2
              exact F.out
            | false =>
              have G := GO.out hkp wr B34
              clear keep3 GO LOOK CONC
              replace hkp := Aside0.mk hkp
              go_wp2_with fail
              refine G.mono ?_
              rintro e w5 ⟨⟨kk, rfl⟩, e7, w6, hdel, hJ, hlt6⟩
              clear G d7 d9
              replace hJ := Aside0.mk hJ
              replace hlt6 := Aside0.mk hlt6
              go_wp2
              exact ⟨hJ.out, hlt6.out⟩
end Go.Proofs.YthaoedfalkebbaaGreat
namespace Go.Proofs.YthaoedfalkebbaaGreat
open Go.RowKit Go.Maps Go.Sort Go.Lib
set_option linter.unusedVariables false
set_option linter.unusedSimpArgs false
set_option linter.unusedSectionVars false
/-! ### the notes that lie are notes as the plain machine takes them -/
instance rdOK (x : Rd) : Decidable x.OK := decidable_of_iff (x.t.size ≤ reachBytes ∧ (Lit.int .i64 x.k).wf = true ∧ x.f.size ≤ reachBytes ∧ x.u.size ≤ reachBytes) ⟨fun ⟨a, b, c, d⟩ => ⟨a, b, c, d⟩, fun h => ⟨h.t, h.k, h.f, h.u⟩⟩
/-- the machine's notes; a note that never comes is refused -/
def iT (most : Int) : RdI St := ⟨fun r t x => if x.OK then noteP r most t x else (4, r), fun r t => (dropP r t).2, readP, fun r t => !(ofP r t).isEmpty, fun r => r.n⟩
theorem noteS_iT (most : Int) (S : Sm St) (t : Tx) (x : Rd) (f u : ByteArray) (h : x.OK) : S.noteS (iS most) t x f u = S.noteS (iT most) t x f u := by
  have e : (iT most).note S.reads t.num x = (iS most).note S.reads t.num x := by
    show (if x.OK then noteP S.reads most t.num x else (4, S.reads)) = _
    rw [if_pos h]
    rfl
  unfold Sm.noteS
  rw [e]
  rfl
theorem cov_refl (a : Rd) : cov a a = true := by
  unfold cov
  rw [less_irrefl, less_irrefl]
  cases (spn a).2.2 <;> rfl
theorem cov_trans {a b c : Rd} (h : cov a b = true) (k : cov b c = true) : cov a c = true := by
  unfold cov at *
  simp only [Bool.and_eq_true, Bool.or_eq_true, Bool.not_eq_true'] at *
  obtain ⟨h1, h2⟩ := h
  obtain ⟨k1, k2⟩ := k
  refine ⟨le_trans' h1 k1, ?_⟩
  rcases h2 with h2 | ⟨h2, h3⟩
  · exact .inl h2
  · rw [h2] at k2
    rcases k2 with k2 | ⟨k2, k3⟩
    · cases k2
    · exact .inr ⟨k2, le_trans' k3 h3⟩
theorem cov_whole (t : ByteArray) (z : Rd) : cov (whole t) z = true := by
  have e : spn (whole t) = (⟨#[]⟩, ⟨#[]⟩, false) := by unfold spn whole; simp
  unfold cov
  rw [e]
  have : (⟨#[]⟩ : ByteArray).toList = [] := by rw [Lib.toList_data]
  simp only [this, less_nil]
  rfl
/-- some note at the place covers the note -/
def HasC (R : Pl → List Rd) (q : Pl) (z : Rd) : Prop := ∃ y ∈ R q, cov y z = true
theorem HasC.left {R : Pl → List Rd} {q : Pl} {z : Rd} (h : HasC R q z) (t : Int) (x : Rd) : HasC (put1 R (t, x.t) (left (R (t, x.t)) x)) q z := by
  obtain ⟨y, hy, hc⟩ := h
  unfold HasC
  by_cases e : q = (t, x.t)
  · rw [e] at hy ⊢
    rw [put1_same]
    cases hxy : cov x y with
    | true => exact ⟨x, by unfold YthaoedfalkebbaaGreat.left; simp, cov_trans hxy hc⟩
    | false => exact ⟨y, by unfold YthaoedfalkebbaaGreat.left; exact List.mem_append_left _ (List.mem_filter.2 ⟨hy, by simp [hxy]⟩), hc⟩
  · rw [put1_other _ _ e]
    exact ⟨y, hy, hc⟩
theorem HasC.whole {R : Pl → List Rd} {p : Pl} {z : Rd} (h : HasC R p z) (q : Pl) : HasC (put1 R q [YthaoedfalkebbaaGreat.whole q.2]) p z := by
  obtain ⟨y, hy, hc⟩ := h
  unfold HasC
  by_cases e : p = q
  · rw [e, put1_same]
    exact ⟨_, List.mem_singleton.2 rfl, cov_whole _ _⟩
  · rw [put1_other _ _ e]
    exact ⟨y, hy, hc⟩
/-- what Note leaves: nothing is lost -/
theorem noteP_keeps {S : St} (hI : InvK S) {most t : Int} {x : Rd} (hx : x.OK) {q : Pl} {z : Rd} (h : HasC S.R q z) : HasC (noteP S most t x).2.R q z := by
  unfold noteP
  split
  · exact h
  · rename_i h1
    simp only [not_or, Int.not_lt, Bool.not_eq_false] at h1
    split
    · exact h
    · rename_i h2
      split
      · exact h
      · rename_i R' n' he
        have hn := hI.note h1.1 hx h1.2 (by simpa using h2)
        exact (coarse_keeps (most := most) (fun R => HasC R q z) (fun R p hR _ => hR.whole p) _ _ _ R' n' (Nat.le_refl _) hn (h.left t x) he).2.1
theorem noteP_new {S : St} (hI : InvK S) {most t : Int} {x : Rd} (hx : x.OK) (h0 : (noteP S most t x).1 = 0) : HasC (noteP S most t x).2.R (t, x.t) x := by
  unfold noteP at h0 ⊢
  split
  · rename_i h1
    rw [if_pos h1] at h0
    cases h0
  · rename_i h1
    rw [if_neg h1] at h0
    simp only [not_or, Int.not_lt, Bool.not_eq_false] at h1
    split
    · rename_i h2
      obtain ⟨y, hy, hc⟩ := List.any_eq_true.1 h2
      exact ⟨y, hy, hc⟩
    · rename_i h2
      rw [if_neg h2] at h0
      split
      · rename_i he
        rw [he] at h0
        cases h0
      · rename_i R' n' he
        have hn := hI.note h1.1 hx h1.2 (by simpa using h2)
        refine (coarse_keeps (most := most) (fun R => HasC R (t, x.t) x) (fun R p hR _ => hR.whole p) _ _ _ R' n' (Nat.le_refl _) hn ?_ he).2.1
        exact ⟨x, by rw [put1_same]; unfold left; simp, cov_refl _⟩
theorem noteP_K {S : St} {most t : Int} {x : Rd} : ∀ q ∈ (noteP S most t x).2.K, q ∈ S.K ∨ q.1 = t := by
  intro q hq
  unfold noteP at hq
  split at hq
  · exact .inl hq
  · split at hq
    · exact .inl hq
    · split at hq
      · exact .inl hq
      · rcases mem_keysK.1 hq with rfl | h
        · exact .inr rfl
        · exact .inl h
theorem mem_readP {S : St} {tab key : ByteArray} {n : Int} : n ∈ readP S tab key ↔ ∃ q ∈ S.K, q.1 = n ∧ q.2.toList = tab.toList ∧ ∃ y ∈ S.R q, holdB y key = true := by
  unfold readP
  rw [(rise_spec _).2]
  constructor
  · intro h
    obtain ⟨q, hq, e⟩ := List.mem_map.1 h
    obtain ⟨h1, h2⟩ := List.mem_filter.1 hq
    rw [Bool.and_eq_true, List.any_eq_true] at h2
    exact ⟨q, h1, e, by simpa using h2.1, h2.2⟩
  · rintro ⟨q, h1, e, h2, h3⟩
    refine List.mem_map.2 ⟨q, List.mem_filter.2 ⟨h1, ?_⟩, e⟩
    rw [Bool.and_eq_true, List.any_eq_true]
    exact ⟨by simpa using h2, h3⟩
theorem has_iff {S : St} (h : InvK S) (n : Int) : (!(ofP S n).isEmpty) = true ↔ ∃ q ∈ S.K, q.1 = n := by
  unfold ofP
  rw [Bool.not_eq_true', ← Bool.not_eq_true, List.isEmpty_iff]
  constructor
  · intro h2
    by_cases e : ∃ q ∈ S.K, q.1 = n
    · exact e
    · exfalso
      apply h2
      have : S.K.filter (fun q => q.1 == n) = [] := by
        rw [List.filter_eq_nil_iff]
        intro q hq h3
        exact e ⟨q, hq, by simpa using h3⟩
      rw [this]
      rfl
  · rintro ⟨q, hq, e⟩ h2
    have hp := h.pos q hq
    apply hp
    have : ∀ z, z ∈ (S.K.filter (fun q => q.1 == n)).flatMap S.R → False := fun z hz => by rw [h2] at hz; cases hz
    cases hR : S.R q with
    | nil => rfl
    | cons z l => exact (this z (List.mem_flatMap.2 ⟨q, List.mem_filter.2 ⟨hq, by simpa using e⟩, by rw [hR]; exact List.mem_cons_self⟩)).elim
theorem dropP_inv {S : St} (h : InvK S) (t : Int) : InvK (dropP S t).2 := by
  unfold dropP
  split
  · exact h
  · exact dropS_inv h t
theorem dropP_le {S : St} (h : InvK S) (t : Int) : (dropP S t).2.n ≤ S.n := by
  unfold dropP
  split
  · exact Int.le_refl _
  · exact dropS_le h t
theorem iT_law (most : Int) : RdL (iT most) (fun r => InvK r ∧ r.n ≤ most) most where
  note_ok r t x h := by
    show InvK (if x.OK then noteP r most t x else (4, r)).2 ∧ (if x.OK then noteP r most t x else (4, r)).2.n ≤ most
    split
    · rename_i hx; exact noteP_inv h.1 hx h.2
    · exact h
  note_bad r t x h h0 := by
    change (if x.OK then noteP r most t x else (4, r)).1 ≠ 0 at h0
    show (if x.OK then noteP r most t x else (4, r)).2 = r
    split
    · rename_i hx
      rw [if_pos hx] at h0
      unfold noteP at h0 ⊢
      split
      · rfl
      · rename_i h1
        rw [if_neg h1] at h0
        split
        · rfl
        · rename_i h2
          rw [if_neg h2] at h0
          split
          · rfl
          · rename_i R' n' he
            rw [he] at h0
            exact absurd rfl h0
    · rfl
  note_err r t x h ht hm := by
    show (if x.OK then noteP r most t x else (4, r)).1 = 0 ∨ (if x.OK then noteP r most t x else (4, r)).1 = 4
    split
    · unfold noteP
      rw [if_neg (by rw [hm]; simp; omega)]
      split
      · exact .inl rfl
      · split
        · exact .inr rfl
        · exact .inl rfl
    · exact .inr rfl
  note_keep r t x tb key n h hn := by
    change n ∈ readP r tb key at hn
    show n ∈ readP (if x.OK then noteP r most t x else (4, r)).2 tb key
    split
    · rename_i hx
      rw [mem_readP] at hn ⊢
      obtain ⟨q, hq, e, h2, y, hy, h3⟩ := hn
      obtain ⟨z, hz, hc⟩ := noteP_keeps h.1 hx (most := most) (t := t) (x := x) ⟨y, hy, cov_refl y⟩
      have hI := noteP_inv h.1 hx h.2 (t := t)
      refine ⟨q, ?_, e, h2, z, hz, cov_holds hc h3⟩
      by_cases h4 : q ∈ (noteP r most t x).2.K
      · exact h4
      · rw [hI.1.off q h4] at hz; cases hz
    · exact hn
  note_new r t x key h h0 hh := by
    change (if x.OK then noteP r most t x else (4, r)).1 = 0 at h0
    show t ∈ readP (if x.OK then noteP r most t x else (4, r)).2 x.t key
    split
    · rename_i hx
      rw [if_pos hx] at h0
      obtain ⟨z, hz, hc⟩ := noteP_new h.1 hx h0
      have hI := noteP_inv h.1 hx h.2 (t := t)
      rw [mem_readP]
      refine ⟨(t, x.t), ?_, rfl, rfl, z, hz, cov_holds hc hh⟩
      by_cases h4 : (t, x.t) ∈ (noteP r most t x).2.K
      · exact h4
      · rw [hI.1.off _ h4] at hz; cases hz
    · rename_i hx
      rw [if_neg hx] at h0
      cases h0
  note_has r t x n h h0 := by
    change (!(ofP (if x.OK then noteP r most t x else (4, r)).2 n).isEmpty) = true at h0
    show (!(ofP r n).isEmpty) = true ∨ n = t
    split at h0
    · rename_i hx
      rw [has_iff (noteP_inv h.1 hx h.2 (t := t)).1] at h0
      obtain ⟨q, hq, e⟩ := h0
      rcases noteP_K q hq with h2 | h2
      · exact .inl ((has_iff h.1 n).2 ⟨q, h2, e⟩)
      · exact .inr (e.symm.trans h2)
    · exact .inl h0
  drop_ok r t h := ⟨dropP_inv h.1 t, Int.le_trans (dropP_le h.1 t) h.2⟩
  drop_rdrs r t tb key n h ht hne hn := by
    change n ∈ readP r tb key at hn
    show n ∈ readP (dropP r t).2 tb key
    rw [dropP_pos r ht]
    rw [mem_readP] at hn ⊢
    obtain ⟨q, hq, e, h2, y, hy, h3⟩ := hn
    refine ⟨q, List.mem_filter.2 ⟨hq, by simp; omega⟩, e, h2, y, ?_, h3⟩
    show y ∈ dropR r.R t q
    rw [dropR_other _ (by omega)]
    exact hy
  drop_has r t n h ht h0 := by
    change (!(ofP (dropP r t).2 n).isEmpty) = true at h0
    show (!(ofP r n).isEmpty) = true ∧ n ≠ t
    rw [has_iff (dropP_inv h.1 t)] at h0
    obtain ⟨q, hq, e⟩ := h0
    rw [dropP_pos r ht] at hq
    obtain ⟨h1, h2⟩ := List.mem_filter.1 hq
    have h2 : q.1 ≠ t := by simpa using h2
    exact ⟨(has_iff h.1 n).2 ⟨q, h1, e⟩, by omega⟩
  rdrs_has r tb key n h hn := by
    change n ∈ readP r tb key at hn
    show (!(ofP r n).isEmpty) = true
    obtain ⟨q, hq, e, _⟩ := mem_readP.1 hn
    exact (has_iff h.1 n).2 ⟨q, hq, e⟩
  len_le r h := h.2
  len_none r h h0 := by
    show r.n = 0
    have e : r.K = [] := by
      cases hK : r.K with
      | nil => rfl
      | cons q K =>
        have h2 : (!(ofP r q.1).isEmpty) = true := (has_iff h.1 q.1).2 ⟨q, by rw [hK]; exact List.mem_cons_self, rfl⟩
        have h3 : (!(ofP r q.1).isEmpty) = false := h0 q.1
        rw [h2] at h3
        cases h3
    rw [h.1.sum, e]
    rfl
end Go.Proofs.YthaoedfalkebbaaGreat
