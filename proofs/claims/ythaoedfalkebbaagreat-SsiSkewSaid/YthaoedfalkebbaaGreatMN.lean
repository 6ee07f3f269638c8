import Derived.Test.YthaoedfalkebbaaGreatML
namespace Go.Proofs.YthaoedfalkebbaaGreat
open Go.RowKit Go.Maps Go.Sort Go.Lib Go.Shelf Go.Proofs.YthaoedfalkebbaaGreatW.PrintWords Go.Proofs.YthaoedfalkebbaaGreatW.PrintLast Go.Proofs.YthaoedfalkebbaaGreatW.PrintMore
set_option linter.unusedVariables false
set_option linter.unusedSimpArgs false
set_option linter.unusedSectionVars false
/-! ### others -/
def encQ (q : Nat) : List Value := [ptr q]
theorem encQ_one (x : Nat) : ∀ u ∈ encQ x, u.oneCell' = true := fun u hu => by simp [encQ] at hu; rw [hu]; rfl
def dQ : Kd Nat := Kd.flat encQ 1 (fun _ => rfl) encQ_one
theorem info99 : (Tryz.prog.info? 99).map (fun i => (i.zero, i.size, i.bytes)) = some (some (.pointer none), 1, 8) := by kernel_rfl
section
variable {ops : Array Oper} {o : Oper} {Q : Exit → Act → World → Prop} {rest : List Oper} {a : Act}
theorem appQ {w W : World} {z : Nat} {s x : Operand} {v : Value} {xs : List Nat} {y : Nat} {ok : Nat → Prop} (hgd : o.guard = none) (ho : o.op = .call { callee := .builtin .append, args := #[s, x], argTypes := #[111, 111] })
    (hs : a.eval s = v) (hx : a.eval x = .slice (some ⟨z, 0, none⟩) 1 1) (HO : dQ.R 99 W w.heap.size ok v xs) (HB : Below w.heap.size w W) (hl : xs.length ≤ 65536) (hz : W.heap.size = z) (hfresh : ∀ k, W.heap.size ≤ k → ok k)
    (h : ∀ v1 w1, dQ.R 99 w1 w.heap.size ok v1 (xs ++ [y]) → Below w.heap.size w w1 → W.grownBy w1 v.ownBlock → wpList Tryz.prog ops Q rest (a.put o.dst v1) w1) : wpList Tryz.prog ops Q (o :: rest) a (W.alloc (.cells #[ptr y] 99)) := by
  subst hz
  refine Kd.R_append dQ (w0 := w) w.heap.size hgd s x 111 99 _ 8 ho Tryz.underlying111 info99 rfl (by decide) (by decide) v xs y [ptr y] ok (fun _ => False) hs hx rfl (fun _ hk => hk.elim) hfresh HO HB HB.size (by omega) ?_
  intro v1 w1 h1 h2 h3 _
  exact h v1 w1 h1 h2 h3
end
/-- a closure that tells of transactions -/
def PredT (w : World) (g : Nat) (lb : Array Value) (Q : Int → Nat) (so : Tx → Bool) (xs : List Tx) : Prop :=
  ∀ (W : World) (o : Tx), o ∈ xs → Below w.heap.size w W → Calls Tryz.prog g (#[ptr (Q o.num)] ++ lb) W fun e w' => e = .returned (.bool (so o)) ∧ Below W.heap.size W w'
def selQ (Q : Int → Nat) (t : Tx) (so : Tx → Bool) (l : List Tx) : List Nat := (l.filter (fun o => concB t o && so o)).map (fun o => Q o.num)
theorem selQ_le (Q : Int → Nat) (t : Tx) (so : Tx → Bool) (l : List Tx) : (selQ Q t so l).length ≤ l.length := by unfold selQ; rw [List.length_map]; exact List.length_filter_le _ _
def OtJ (w : World) (l : Loc) (t : Tx) (so : Tx → Bool) (txs : List Tx) (v : Value) (wr : World) : Prop :=
  ∃ vis rem : List Tx, (vis ++ rem).Perm txs ∧ RngT wr l.mb w.heap.size txs.length (txL l.Q txs) (txL l.Q rem) ∧ dQ.R 99 wr w.heap.size (fun k => w.heap.size < k) v (selQ l.Q t so vis) ∧ Below w.heap.size w wr
set_option maxHeartbeats 8000000 in
set_option maxRecDepth 100000 in
theorem others_s (base : Nat) (l : Loc) (S : Sm St) (t : Tx) (so : Tx → Bool) (g : Nat) (lb : Array Value) (eg : ∀ args w, (callFunc g args).run Tryz.prog w = .ok (.enter g args) w) (w : World) (h : Pm w base l S) (ht : t ∈ S.txs) (hp : PredT w g lb l.Q so S.txs) :
    Calls Tryz.prog 44 #[ptr l.p, ptr (l.Q t.num), .func (.func g) #[] lb] w fun e w' => ∃ v vis, e = .returned v ∧ vis.Perm S.txs ∧ dQ.R 99 w' w.heap.size (fun _ => True) v (selQ l.Q t so vis) ∧ Below w.heap.size w w' := by
  obtain ⟨_, _, _, _, _, _, _, c7, _, _⟩ := h.cells
  have hfew := h.few
  have hblt : l.mb < w.heap.size := h.tab.lt
  have htx := fun t (ht : t ∈ S.txs) => h.tx t ht
  have hqq := fun o (ho : o ∈ S.txs) => h.q ht ho
  obtain ⟨w2, hrun, hRg, hg2, hs2⟩ := Tab.range (t := 86) keyN Tryz.underlying86 h.tab
  have HT : ∀ W, Below w.heap.size w W → ∀ o ∈ S.txs, ∃ v, W.heap[l.Q o.num]? = some (txCells o v) := fun W B o ho => by
    obtain ⟨v, hv, _⟩ := htx o ho
    exact ⟨v, (B.block _ (Array.getElem?_eq_some_iff.1 hv).1).trans hv⟩
  have CC : ∀ W, Below w.heap.size w W → ∀ o ∈ S.txs, Calls Tryz.prog 85 #[ptr (l.Q t.num), ptr (l.Q o.num)] W fun e w' => e = .returned (.bool (concB t o)) ∧ ∃ n, w' = W.drewN n := fun W B o ho => by
    obtain ⟨v1, h1⟩ := HT W B t ht
    obtain ⟨v2, h2⟩ := HT W B o ho
    exact concurrent_c _ _ t o v1 v2 W h1 h2 (hqq o ho)
  clear h htx hqq HT
  generalize l.Q t.num = qt at CC ⊢
  replace CC := Aside0.mk CC
  replace hp := Aside0.mk hp
  go_enter Tryz.func44, Tryz.ntmps44
  go_wp2_with fail
  go_loopw [7] (fun v wr => OtJ w l t so S.txs v wr) (fun _ wr => wr.rangeLeft l.mb w.heap.size)
  case atStart =>
    exact ⟨[], S.txs, List.Perm.refl _, hRg, Kd.R_nil _ _ _ _ _, (Below.refl _ w).grown hg2 (Nat.le_refl _) (by simp)⟩
  case round =>
    obtain ⟨vis, rem, hpm, hr, hv, hB⟩ := hrel
    have hlenp := hpm.length_eq
    rw [List.length_append] at hlenp
    rcases hr.next keyN valQ 0 with ⟨hnil, hrun1⟩ | ⟨a, sv, w3, hmem, hok, hrun1, hr3, hlt, hg3, hs3, hent⟩
    · have hrem : rem = [] := by
        cases rem with
        | nil => rfl
        | cons t rem => unfold txL at hnil; cases hnil
      subst hrem
      rw [List.append_nil] at hpm
      clear hnil
      have F : ∃ vis : List Tx, vis.Perm S.txs ∧ dQ.R 99 wr w.heap.size (fun _ => True) u7 (selQ l.Q t so vis) ∧ Below w.heap.size w wr := ⟨vis, hpm, ⟨fun _ _ => trivial, hv.2⟩, hB⟩
      replace F := Aside0.mk F
      clear hr hv hpm
      go_wp2
      go_ret
      obtain ⟨vis, f1, f2, f3⟩ := F.out
      exact ⟨_, vis, rfl, f1, f2, f3⟩
    · obtain ⟨o, ho, rfl, rfl⟩ := txL_mem hmem
      have hom : o ∈ S.txs := hpm.mem_iff.1 (List.mem_append_right _ ho)
      have hB3 : Below w.heap.size w w3 := hB.grown hg3 hB.size (fun k e => by injection e with e; omega)
      have hv3 : dQ.R 99 w3 w.heap.size (fun k => w.heap.size < k) u7 (selQ l.Q t so vis) := Kd.R_grown hv hg3 (fun k hk e => by injection e with e; omega)
      have hrl : w.heap.size < wr.heap.size := hr.lt
      have C3 := CC.out w3 hB3 o hom
      rw [txL_filter] at hr3
      have hpn := tx_next (apart_txL hr.apart) hpm ho
      have hvl := selQ_le l.Q t so vis
      have hlen : (selQ l.Q t so vis).length ≤ 65536 := by omega
      unfold mkN mvQ at hrun1 hent
      have noadd : (concB t o && so o) = false → ∀ W, Below w3.heap.size w3 W → OtJ w l t so S.txs u7 W ∧ W.rangeLeft l.mb w.heap.size < wr.rangeLeft l.mb w.heap.size := by
        intro hx W BW
        obtain ⟨hr7, el2⟩ := hr3.kept (grown_of_below BW none) (by simp) (by simp)
        refine ⟨⟨vis ++ [o], _, hpn, hr7, ?_, below_then hB3 hB3.size BW⟩, by rw [el2]; exact hlt⟩
        have : selQ l.Q t so (vis ++ [o]) = selQ l.Q t so vis := by unfold selQ; rw [List.filter_append]; simp [hx]
        rw [this]
        exact Kd.R_below hv3 BW
      have addd : (concB t o && so o) = true → ∀ W v1 w6, Below w3.heap.size w3 W → dQ.R 99 w6 w.heap.size (fun k => w.heap.size < k) v1 (selQ l.Q t so vis ++ [l.Q o.num]) → Below w.heap.size w w6 → W.grownBy w6 u7.ownBlock → OtJ w l t so S.txs v1 w6 ∧ w6.rangeLeft l.mb w.heap.size < wr.rangeLeft l.mb w.heap.size := by
        intro hx W v1 w6 BW H6 B6 G6
        obtain ⟨hr7, el2⟩ := hr3.kept (grown_of_below BW none) (by simp) (by simp)
        have hbase0 := Kd.R_base hv3
        obtain ⟨hr8, el3⟩ := hr7.kept G6 (fun e => by have := hbase0 _ e.symm; omega) (fun e => by have := hv3.1 _ e.symm; omega)
        refine ⟨⟨vis ++ [o], _, hpn, hr8, ?_, B6⟩, by rw [el3, el2]; exact hlt⟩
        have : selQ l.Q t so (vis ++ [o]) = selQ l.Q t so vis ++ [l.Q o.num] := by unfold selQ; rw [List.filter_append]; simp [hx]
        rw [this]
        exact H6
      have hws3 : w.heap.size < w3.heap.size := by omega
      clear hmem hok hr hv hpn
      replace noadd := Aside0.mk noadd
      replace addd := Aside0.mk addd
      have HP := hp.out
      go_wp2_with fail
      refine C3.mono ?_
      rintro e W ⟨rfl, n, hWn⟩
      have BW : Below w3.heap.size w3 W := by rw [hWn]; exact (Below.refl _ w3).grown (drewNG w3 n) (Nat.le_refl _) (by simp)
      have hWs : W.heap.size = w3.heap.size := by rw [hWn]; rfl
      have P := HP W o hom (below_then hB3 hB3.size BW)
      have hv4 := Kd.R_below hv3 BW
      have hB4 := below_then hB3 hB3.size BW
      clear hWn C3 HP hv3 hrun1 hent hr3
      cases hcb : concB t o with
      | false =>
        have F := noadd.out (by rw [hcb]; rfl) W BW
        clear noadd addd P hv4
        replace F := Aside0.mk F
        replace hcb := Aside0.mk hcb
        go_wp2
        exact F.out
      | true =>
        cases hso : so o with
        | false =>
          rw [hso] at P
          have F := noadd.out (by rw [hcb, hso]; rfl)
          clear noadd addd hv4
          replace F := Aside0.mk F
          replace hcb := Aside0.mk hcb
          replace hso := Aside0.mk hso
          go_wp2_with (go_at_fn g; refine P.mono ?_; rintro e W5 ⟨rfl, B5⟩)
          exact F.out W5 (below_then BW BW.size B5)
        | true =>
          rw [hso] at P
          have F := addd.out (by rw [hcb, hso]; rfl)
          clear noadd addd
          replace F := Aside0.mk F
          replace hcb := Aside0.mk hcb
          replace hso := Aside0.mk hso
          go_wp2_with fail
          go_at_fn g
          refine P.mono ?_
          rintro e W5 ⟨rfl, B5⟩
          have hv5 := Kd.R_below hv4 B5
          have hB5 := below_then hB4 hB4.size B5
          have B35 := below_then BW BW.size B5
          have hs5 := B5.size
          clear hv4 P
          go_wp2_with (at_builtin; refine appQ (v := u7) rfl rfl rfl rfl hv5 hB5 hlen rfl (fun k hk => by omega) ?_; intro v1 w6 H6 B6 G6)
          exact F.out W5 _ _ B35 H6 B6 G6
end Go.Proofs.YthaoedfalkebbaaGreat
namespace Go.Proofs.YthaoedfalkebbaaGreat
open Go.RowKit Go.Maps Go.Sort Go.Lib Go.Shelf Go.Proofs.YthaoedfalkebbaaGreatW.PrintWords Go.Proofs.YthaoedfalkebbaaGreatW.PrintLast Go.Proofs.YthaoedfalkebbaaGreatW.PrintMore
set_option linter.unusedVariables false
set_option linter.unusedSimpArgs false
set_option linter.unusedSectionVars false
/-! ### the manager through steps -/
theorem Pm.fr {w w' : World} {base : Nat} {l : Loc} {S : Sm St} {O : Nat → Prop} (h : Pm w base l S) (f : Fr O w w') (hO : ∀ k, l.own S.txs k → ¬ O k) (hlp : ¬ O l.lp) (hr : ∀ k c e s, O k → w.heap[k]? = some (.cells c e s) → e ≠ 23 ∧ e ≠ 108) : Pm w' base l S := by
  constructor
  · exact f.block _ _ (hO _ (.inl rfl)) h.head
  · exact h.tab.fr f (hO _ (.inr (.inl rfl)))
  · intro t ht
    obtain ⟨v, h1, ws, h2, h3⟩ := h.tx t ht
    refine ⟨v, f.block _ _ (hO _ (.inr (.inr (.inr (.inr (.inr ⟨t, ht, rfl⟩)))))) h1, ws, h2.move fun g hg => ?_, h3⟩
    obtain ⟨_, _, cells, hc⟩ := h2.typed g hg
    exact (f.block g _ (fun h => (hr g _ _ _ h hc).1 rfl) hc).trans hc.symm
  · exact h.qinj
  · exact h.locks.fr f hlp (hO _ (.inr (.inr (.inl rfl))))
  · obtain ⟨c, s, hc⟩ := h.lkind
    exact ⟨c, s, f.block _ _ hlp hc⟩
  · exact h.reads.fr f (hO _ (.inr (.inr (.inr (.inl rfl))))) (hO _ (.inr (.inr (.inr (.inr (.inl rfl)))))) (fun k c s hk hc => (hr k c 108 s hk hc).2 rfl)
  · exact h.dist
  · exact h.nums
  · exact h.few
  · exact h.ne1
  · exact h.ne2
  · exact h.ne3
  · exact h.low
theorem Pm.below {w w' : World} {base : Nat} {l : Loc} {S : Sm St} (h : Pm w base l S) (b : Below w.heap.size w w') : Pm w' base l S :=
  h.fr (O := fun _ => False) (Fr.ofBelow b) (fun _ _ h => h) (fun h => h) (fun _ _ _ _ h => h.elim)
/-- kinds of blocks: none is another one -/
theorem Pm.kinds {w : World} {base : Nat} {l : Loc} {S : Sm St} (h : Pm w base l S) : (∀ t ∈ S.txs, l.Q t.num ≠ l.p ∧ l.Q t.num ≠ l.mb ∧ l.Q t.num ≠ l.lp ∧ l.Q t.num ≠ l.lb ∧ l.Q t.num ≠ l.rp ∧ l.Q t.num ≠ l.rb) ∧ l.p ≠ l.mb ∧ l.p ≠ l.lp ∧ l.p ≠ l.lb ∧ l.p ≠ l.rp ∧ l.p ≠ l.rb ∧ l.lp ≠ l.mb ∧ l.lp ≠ l.lb ∧ l.lp ≠ l.rp ∧ l.lp ≠ l.rb ∧ l.rp ≠ l.mb ∧ l.rp ≠ l.lb ∧ l.rp ≠ l.rb := by
  have hp := h.head
  obtain ⟨cl, sl, hl⟩ := h.lkind
  obtain ⟨cr, sr, hr⟩ := h.reads.is55
  obtain ⟨e1, c1, hm⟩ := h.tab.isMap
  obtain ⟨D, ⟨es, clock, hlm, _⟩, _⟩ := h.locks.tab
  obtain ⟨⟨L, M, _, _⟩, _⟩ := h.reads
  obtain ⟨e3, c3, hrm⟩ := M.tab.isMap
  have dif : ∀ {a b : Nat} {x y : Obj}, w.heap[a]? = some x → w.heap[b]? = some y → x ≠ y → a ≠ b := fun h1 h2 hne e => by
    subst e
    rw [h1] at h2
    injection h2 with h2
    exact hne h2
  refine ⟨fun t ht => ?_, dif hp hm (by unfold hdCells; simp), dif hp hl (by unfold hdCells; simp), dif hp hlm (by unfold hdCells; simp), dif hp hr (by unfold hdCells; simp), dif hp hrm (by unfold hdCells; simp), dif hl hm (by simp), dif hl hlm (by simp), dif hl hr (by simp), dif hl hrm (by simp), dif hr hm (by simp), dif hr hlm (by simp), dif hr hrm (by simp)⟩
  obtain ⟨v, hv, _⟩ := h.tx t ht
  exact ⟨dif hv hp (by unfold txCells hdCells; simp), dif hv hm (by unfold txCells; simp), dif hv hl (by unfold txCells; simp), dif hv hlm (by unfold txCells; simp), dif hv hr (by unfold txCells; simp), dif hv hrm (by unfold txCells; simp)⟩
/-- one transaction's flags have changed -/
theorem Pm.setTx {w w' : World} {base : Nat} {l : Loc} {S : Sm St} (h : Pm w base l S) {o o' : Tx} (ho : o ∈ S.txs) (hg : w.grownBy w' (some (l.Q o.num))) {v : Value} (hv : w.heap[l.Q o.num]? = some (txCells o v)) (hv' : w'.heap[l.Q o.num]? = some (txCells o' v)) (e1 : o'.num = o.num) (e2 : o'.wrote = o.wrote) :
    Pm w' base l { S with txs := S.txs.map (fun x => if x.num = o.num then o' else x) } := by
  obtain ⟨hk, k1, k2, k3, k4, k5, k6, k7, k8, k9, k10, k11, k12⟩ := h.kinds
  obtain ⟨q1, q2, q3, q4, q5, q6⟩ := hk o ho
  have f := Fr.grown hg
  have nu : ∀ x : Tx, (if x.num = o.num then o' else x).num = x.num := fun x => by
    split
    · rename_i e; rw [e1, e]
    · rfl
  have hL : txL l.Q (S.txs.map (fun x => if x.num = o.num then o' else x)) = txL l.Q S.txs := by
    unfold txL
    rw [List.map_map]
    apply List.map_congr_left
    intro x _
    simp only [Function.comp]
    rw [nu]
  have hm : ∀ t, t ∈ S.txs.map (fun x => if x.num = o.num then o' else x) → ∃ x ∈ S.txs, t = if x.num = o.num then o' else x := fun t ht => by
    obtain ⟨x, hx, e⟩ := List.mem_map.1 ht
    exact ⟨x, hx, e.symm⟩
  constructor
  · exact f.block _ _ (fun e => by injection e with e; exact q1 e) h.head
  · show TabT w' l.mb (S.txs.map _).length (txL l.Q (S.txs.map _))
    rw [hL, List.length_map]
    exact h.tab.kept hg (fun e => by injection e with e; exact q2 e.symm)
  · intro t ht
    obtain ⟨x, hx, rfl⟩ := hm t ht
    rw [nu]
    by_cases e : x.num = o.num
    · rw [if_pos e]
      obtain ⟨v2, h1, ws, h2, h3⟩ := h.tx o ho
      rw [hv] at h1
      injection h1 with h1
      have : v = v2 := by unfold txCells at h1; simpa using h1
      subst this
      refine ⟨v, by rw [e]; exact hv', ws, ?_, by rw [e2]; exact h3⟩
      refine h2.move fun g hgg => ?_
      obtain ⟨_, _, cells, hc⟩ := h2.typed g hgg
      exact (f.block g _ (fun e3 => by injection e3 with e3; rw [← e3, hv] at hc; unfold txCells at hc; simp at hc) hc).trans hc.symm
    · rw [if_neg e]
      obtain ⟨v2, h1, ws, h2, h3⟩ := h.tx x hx
      refine ⟨v2, f.block _ _ (fun e3 => by injection e3 with e3; exact e (h.qinj o ho x hx e3).symm) h1, ws, h2.move fun g hgg => ?_, h3⟩
      obtain ⟨_, _, cells, hc⟩ := h2.typed g hgg
      exact (f.block g _ (fun e3 => by injection e3 with e3; rw [← e3, hv] at hc; unfold txCells at hc; simp at hc) hc).trans hc.symm
  · intro t ht u hu e
    obtain ⟨x, hx, rfl⟩ := hm t ht
    obtain ⟨y, hy, rfl⟩ := hm u hu
    rw [nu, nu] at e ⊢
    exact h.qinj x hx y hy e
  · exact h.locks.fr f (fun e => by injection e with e; exact q3 e) (fun e => by injection e with e; exact q4 e)
  · obtain ⟨c, s, hc⟩ := h.lkind
    exact ⟨c, s, f.block _ _ (fun e => by injection e with e; exact q3 e) hc⟩
  · refine h.reads.fr f (fun e => by injection e with e; exact q5 e) (fun e => by injection e with e; exact q6 e) (fun k c s hk2 hc => ?_)
    injection hk2 with hk2
    rw [← hk2, hv] at hc
    unfold txCells at hc
    simp at hc
  · show (S.txs.map _).Pairwise _
    rw [List.pairwise_map]
    exact h.dist.imp (fun {a b} h => by rw [nu, nu]; exact h)
  · intro t ht
    obtain ⟨x, hx, rfl⟩ := hm t ht
    rw [nu]
    exact h.nums x hx
  · show (S.txs.map _).length ≤ _
    rw [List.length_map]
    exact h.few
  · exact h.ne1
  · exact h.ne2
  · exact h.ne3
  · refine ⟨h.low.1, h.low.2.1, h.low.2.2.1, h.low.2.2.2.1, h.low.2.2.2.2.1, fun t ht => ?_⟩
    obtain ⟨x, hx, rfl⟩ := hm t ht
    rw [nu]
    exact h.low.2.2.2.2.2 x hx
end Go.Proofs.YthaoedfalkebbaaGreat
namespace Go.Proofs.YthaoedfalkebbaaGreat
open Go.RowKit Go.Maps Go.Sort Go.Lib Go.Shelf Go.Proofs.YthaoedfalkebbaaGreatW.PrintWords Go.Proofs.YthaoedfalkebbaaGreatW.PrintLast Go.Proofs.YthaoedfalkebbaaGreatW.PrintMore
set_option linter.unusedVariables false
set_option linter.unusedSimpArgs false
set_option linter.unusedSectionVars false
/-! ### put -/
abbrev RowQ (w : World) (base : Nat) (v : Value) (xs : List Nat) : Prop := Lo encQ 1 99 w base v xs
theorem RowQ.at {w : World} {base g n c : Nat} {xs : List Nat} (h : RowQ w base (.slice (some ⟨g, 0, none⟩) n c) xs) (j : Nat) (x : Nat) (hj : xs[j]? = some x) : w.cell? ⟨g, j, none⟩ = some (ptr x) := by
  have H := h.cell (fun _ => rfl) rfl j x hj 0 _ rfl
  simpa using H
def badT (out : Bool) (o : Tx) : Bool := !o.act && bothB o.fin o.fout out (!out)
def someT (os : List Tx) : Bool := decide (0 < os.length)
def bad0 (t : Tx) (os : List Tx) (out : Bool) : Bool := bothB t.fin t.fout (!out && someT os) (out && someT os)
def badB (t : Tx) (os : List Tx) (out : Bool) : Bool := bad0 t os out || os.any (badT out)
/-- the transactions once some others' flags are set -/
def psi (t : Tx) (sm out : Bool) (os : List Tx) (x : Tx) : Tx := if x.num = t.num then (if sm = true then setF x (!out) else x) else if x.num ∈ os.map (fun o => o.num) then setF x out else x
theorem psi_num (t : Tx) (sm out : Bool) (os : List Tx) (x : Tx) : (psi t sm out os x).num = x.num := by unfold psi; split <;> split <;> rfl
def P1J (w : World) (t : Tx) (os : List Tx) (out : Bool) (v10 v35 : Value) (wr : World) : Prop := ∃ i : Nat, v35 = .int .i64 (i : Int) ∧ i ≤ os.length ∧ v10 = .bool (bad0 t os out || (os.take i).any (badT out)) ∧ Below w.heap.size w wr
def P2J (w : World) (base : Nat) (l : Loc) (S : Sm St) (t : Tx) (os : List Tx) (out : Bool) (nb : Nat) (u : Value) (v72 : Value) (wr : World) : Prop := ∃ i : Nat, v72 = .int .i64 (i : Int) ∧ i ≤ os.length ∧ Pm wr base l { S with txs := S.txs.map (psi t (someT os) out (os.take i)) } ∧ RowQ wr nb u (os.map (fun o => l.Q o.num)) ∧ Fr (l.own S.txs) w wr
def PutPost (base : Nat) (l : Loc) (S : Sm St) (t : Tx) (os : List Tx) (out : Bool) (w : World) (PG : World → Prop) (e : Ending) (w' : World) : Prop :=
  (badB t os out = true ∧ e = .returned (.int .i64 100) ∧ PG w') ∨ (badB t os out = false ∧ e = .returned (.int .i64 0) ∧ Pm w' base l { S with txs := S.txs.map (psi t (someT os) out os) } ∧ Fr (l.own S.txs) w w')
theorem own_map {l : Loc} {S : Sm St} {f : Tx → Tx} (hf : ∀ x, (f x).num = x.num) (k : Nat) : l.own (S.txs.map f) k ↔ l.own S.txs k := by
  unfold Loc.own
  constructor
  · rintro (h | h | h | h | h | ⟨t, ht, h⟩)
    · exact .inl h
    · exact .inr (.inl h)
    · exact .inr (.inr (.inl h))
    · exact .inr (.inr (.inr (.inl h)))
    · exact .inr (.inr (.inr (.inr (.inl h))))
    · obtain ⟨x, hx, rfl⟩ := List.mem_map.1 ht
      exact .inr (.inr (.inr (.inr (.inr ⟨x, hx, by rw [h, hf]⟩))))
  · rintro (h | h | h | h | h | ⟨t, ht, h⟩)
    · exact .inl h
    · exact .inr (.inl h)
    · exact .inr (.inr (.inl h))
    · exact .inr (.inr (.inr (.inl h)))
    · exact .inr (.inr (.inr (.inr (.inl h))))
    · exact .inr (.inr (.inr (.inr (.inr ⟨f t, List.mem_map.2 ⟨t, ht, rfl⟩, by rw [h, hf]⟩))))
/-- a set of one of them -/
theorem put_set {w w1 w2 : World} {base nb : Nat} {l : Loc} {S : Sm St} {f : Tx → Tx} {u : Value} {qs : List Nat} (hf : ∀ x, (f x).num = x.num) {x : Tx} (hx : x ∈ S.txs) {i : Bool} {v : Value} (P : Pm w1 base l { S with txs := S.txs.map f }) (R : RowQ w1 nb u qs) (F : Fr (l.own S.txs) w w1)
    (hv : w1.heap[l.Q x.num]? = some (txCells (f x) v)) (hv' : w2.heap[l.Q x.num]? = some (txCells (setF (f x) i) v)) (hg : w1.grownBy w2 (some (l.Q x.num))) :
    Pm w2 base l { S with txs := S.txs.map (fun y => if y.num = x.num then setF (f x) i else f y) } ∧ RowQ w2 nb u qs ∧ Fr (l.own S.txs) w w2 := by
  have hfx : f x ∈ S.txs.map f := List.mem_map.2 ⟨x, hx, rfl⟩
  have P2 := P.setTx (o := f x) (o' := setF (f x) i) hfx (by rw [hf]; exact hg) (by rw [hf]; exact hv) (by rw [hf]; exact hv') rfl rfl
  refine ⟨?_, R.grown hg (fun b hb e => ?_), F.trans (Fr.grown hg) (fun k hk _ => by injection hk with hk; exact .inr (.inr (.inr (.inr (.inr ⟨x, hx, hk.symm⟩)))))⟩
  · have e : (S.txs.map f).map (fun y => if y.num = (f x).num then setF (f x) i else y) = S.txs.map (fun y => if y.num = x.num then setF (f x) i else f y) := by
      rw [List.map_map]
      apply List.map_congr_left
      intro y _
      simp only [Function.comp]
      rw [hf, hf]
    have P3 : Pm w2 base l { S with txs := (S.txs.map f).map (fun y => if y.num = (f x).num then setF (f x) i else y) } := P2
    rw [e] at P3
    exact P3
  · injection hb with hb
    obtain ⟨_, _, cells, hc⟩ := R.typed b e
    rw [← hb, hv] at hc
    unfold txCells at hc
    simp at hc
theorem psi_step {txs : List Tx} (hd : txs.Pairwise (fun a b => a.num < b.num)) {t : Tx} {sm out : Bool} {os : List Tx} (hos : ∀ o ∈ os, o ∈ txs ∧ o.num ≠ t.num) (hnd : (os.map (fun o => o.num)).Nodup) {i : Nat} (hi : i < os.length) :
    psi t sm out (os.take i) os[i] = os[i] ∧ txs.map (fun y => if y.num = os[i].num then setF (psi t sm out (os.take i) os[i]) out else psi t sm out (os.take i) y) = txs.map (psi t sm out (os.take (i + 1))) := by
  obtain ⟨h1, h2⟩ := hos os[i] (List.getElem_mem hi)
  have hno : os[i].num ∉ (os.take i).map (fun o => o.num) := by
    intro hm
    obtain ⟨o, ho, e⟩ := List.mem_map.1 hm
    obtain ⟨j, hj, e2⟩ := List.mem_iff_getElem.1 ho
    rw [List.length_take] at hj
    rw [List.getElem_take] at e2
    rw [List.nodup_iff_pairwise_ne, List.pairwise_map, List.pairwise_iff_getElem] at hnd
    refine hnd j i (by omega) hi (by omega) ?_
    rw [e2]
    exact e
  have e1 : psi t sm out (os.take i) os[i] = os[i] := by
    unfold psi
    rw [if_neg h2, if_neg hno]
  refine ⟨e1, List.map_congr_left fun y hy => ?_⟩
  rw [e1]
  have hmem : y.num ∈ (os.take (i + 1)).map (fun o => o.num) ↔ y.num ∈ (os.take i).map (fun o => o.num) ∨ y.num = os[i].num := by
    rw [List.take_succ_eq_append_getElem hi, List.map_append, List.mem_append]
    simp
  by_cases e : y.num = os[i].num
  · rw [if_pos e]
    have ey : y = os[i] := dist_inj hd hy h1 e
    unfold psi
    rw [if_neg (by rw [e]; exact h2), if_pos (hmem.2 (.inr e)), ey]
  · rw [if_neg e]
    unfold psi
    by_cases et : y.num = t.num
    · rw [if_pos et, if_pos et]
    · rw [if_neg et, if_neg et]
      by_cases em : y.num ∈ (os.take i).map (fun o => o.num)
      · rw [if_pos em, if_pos (hmem.2 (.inl em))]
      · rw [if_neg em, if_neg (fun h => (hmem.1 h).elim em e)]
theorem psi_none {txs : List Tx} (t : Tx) (out : Bool) : txs.map (psi t false out []) = txs := by
  rw [show txs.map (psi t false out []) = txs.map id from List.map_congr_left (fun y _ => by unfold psi; simp)]
  simp
theorem psi_first {txs : List Tx} (hd : txs.Pairwise (fun a b => a.num < b.num)) {t : Tx} (ht : t ∈ txs) (out : Bool) : txs.map (fun y => if y.num = t.num then setF t (!out) else y) = txs.map (psi t true out []) := by
  refine List.map_congr_left fun y hy => ?_
  unfold psi
  by_cases e : y.num = t.num
  · rw [if_pos e, if_pos e, if_pos rfl, dist_inj hd hy ht e]
  · rw [if_neg e, if_neg e]
    simp
set_option maxHeartbeats 16000000 in
set_option maxRecDepth 100000 in
theorem put_s (base nb : Nat) (l : Loc) (S : Sm St) (t : Tx) (os : List Tx) (out : Bool) (u : Value) (w : World) (PG : World → Prop) (h : Pm w base l S) (ht : t ∈ S.txs) (hos : ∀ o ∈ os, o ∈ S.txs ∧ o.num ≠ t.num) (hnd : (os.map (fun o => o.num)).Nodup) (hu : RowQ w nb u (os.map (fun o => l.Q o.num))) (hl : os.length ≤ 65536)
    (HG : ∀ W, Below w.heap.size w W → Calls Tryz.prog 43 #[ptr l.p, ptr (l.Q t.num)] W fun e w' => e = .returned (.tuple #[]) ∧ PG w') :
    Calls Tryz.prog 48 #[ptr l.p, ptr (l.Q t.num), u, .bool out] w (PutPost base l S t os out w PG) := by
  obtain ⟨A, c, rfl, hlc, hA⟩ := hu.slice
  rw [List.length_map] at hlc hA
  have hlen : (os.map (fun o => l.Q o.num)).length = os.length := List.length_map _
  rw [hlen]
  obtain ⟨vt, hvt, _⟩ := h.tx t ht
  obtain ⟨_, _, _, _, _, t5, t6, _⟩ := tx_cells hvt
  have TXA : ∀ W, Below w.heap.size w W → ∀ o ∈ os, ∃ v, W.heap[l.Q o.num]? = some (txCells o v) := fun W B o ho => by
    obtain ⟨v, hv, _⟩ := h.tx o (hos o ho).1
    exact ⟨v, (B.block _ (Array.getElem?_eq_some_iff.1 hv).1).trans hv⟩
  have RW : ∀ W, Below w.heap.size w W → RowQ W nb (.slice A os.length c) (os.map (fun o => l.Q o.num)) := fun W B => by
    have := hu
    rw [hlen] at this
    exact this.grown (grown_of_below B none) (by simp)
  have hgl : ∀ k (hk : k < os.length), (os.map (fun o => l.Q o.num))[k]? = some (l.Q os[k].num) := fun k hk => by rw [List.getElem?_map, List.getElem?_eq_getElem hk]; rfl
  have stp : ∀ k (hk : k < os.length), (os.take (k + 1)).any (badT out) = ((os.take k).any (badT out) || badT out os[k]) := fun k hk => by rw [List.take_succ_eq_append_getElem hk, List.any_append]; simp
  have hdist := h.dist
  have VT : ∀ W, Below w.heap.size w W → W.heap[l.Q t.num]? = some (txCells t vt) := fun W B => (B.block _ (Array.getElem?_eq_some_iff.1 hvt).1).trans hvt
  have SETT : ∀ W W', Below w.heap.size w W → W'.heap[l.Q t.num]? = some (txCells (setF t (!out)) vt) → W.grownBy W' (some (l.Q t.num)) → true = someT os → P2J w base l S t os out nb (.slice A os.length c) (.int .i64 0) W' := by
    intro W W' B hv' hg hs
    have PW := h.below B
    have PWm : Pm W base l { S with txs := S.txs.map (fun x => x) } := by rw [List.map_id' ]; exact PW
    obtain ⟨p1, p2, p3⟩ := put_set (f := fun x => x) (fun _ => rfl) ht PWm (by have := hu; rw [hlen] at this; exact this.grown (grown_of_below B none) (by simp)) (Fr.ofBelow (O := l.own S.txs) B) (VT W B) hv' hg
    refine ⟨0, rfl, Nat.zero_le _, ?_, p2, p3⟩
    rw [← hs, List.take_zero, ← psi_first h.dist ht out]
    exact p1
  have SETN : ∀ W, Below w.heap.size w W → false = someT os → P2J w base l S t os out nb (.slice A os.length c) (.int .i64 0) W := by
    intro W B hs
    refine ⟨0, rfl, Nat.zero_le _, ?_, by have := hu; rw [hlen] at this; exact this.grown (grown_of_below B none) (by simp), Fr.ofBelow B⟩
    rw [← hs, List.take_zero, psi_none]
    exact h.below B
  have ROUND : ∀ (i : Nat) (hi : i < os.length) (wr : World), Pm wr base l { S with txs := S.txs.map (psi t (someT os) out (os.take i)) } → RowQ wr nb (.slice A os.length c) (os.map (fun o => l.Q o.num)) → Fr (l.own S.txs) w wr →
      ∃ v, wr.heap[l.Q os[i].num]? = some (txCells os[i] v) ∧ ∀ W', W'.heap[l.Q os[i].num]? = some (txCells (setF os[i] out) v) → wr.grownBy W' (some (l.Q os[i].num)) → P2J w base l S t os out nb (.slice A os.length c) (.int .i64 ((i : Int) + 1)) W' := by
    intro i hi wr P R F
    obtain ⟨s1, s2⟩ := psi_step (sm := someT os) (out := out) h.dist hos hnd hi
    obtain ⟨m1, m2⟩ := hos os[i] (List.getElem_mem hi)
    obtain ⟨v, hv, _⟩ := P.tx (psi t (someT os) out (os.take i) os[i]) (List.mem_map.2 ⟨_, m1, rfl⟩)
    rw [s1] at hv
    refine ⟨v, hv, fun W' hv' hg => ?_⟩
    obtain ⟨p1, p2, p3⟩ := put_set (f := psi t (someT os) out (os.take i)) (psi_num _ _ _ _) m1 P R F (by rw [s1]; exact hv) (by rw [s1]; exact hv') hg
    rw [s2] at p1
    exact ⟨i + 1, by simp, by omega, p1, p2, p3⟩
  replace SETT := Aside0.mk SETT
  replace SETN := Aside0.mk SETN
  replace ROUND := Aside0.mk ROUND
  replace VT := Aside0.mk VT
  replace hdist := Aside0.mk hdist
  clear h hu hvt
  replace TXA := Aside0.mk TXA
  replace RW := Aside0.mk RW
  replace hgl := Aside0.mk hgl
  replace stp := Aside0.mk stp
  replace HG := Aside0.mk HG
  replace hos := Aside0.mk hos
  replace hnd := Aside0.mk hnd
  have first : ∀ sm, sm = someT os → ∀ b, b = bothB t.fin t.fout (!out && sm) (out && sm) → b = bad0 t os out := fun sm hs b hb => by unfold bad0; rw [hb, hs]
  replace first := Aside0.mk first
  obtain ⟨qt, hqt⟩ : ∃ qt, qt = l.Q t.num := ⟨_, rfl⟩
  rw [← hqt] at t5 t6
  have HG' : ∀ W, Below w.heap.size w W → Calls Tryz.prog 43 #[ptr l.p, ptr qt] W fun e w' => e = .returned (.tuple #[]) ∧ PG w' := by rw [hqt]; exact HG.out
  replace HG' := Aside0.mk HG'
  rw [← hqt]
  clear HG
  replace hqt := Aside0.mk hqt
  have eg : ∀ args w, (callFunc 93 args).run Tryz.prog w = .ok (.enter 93 args) w := enters_of Tryz.func93 (by kernel_rfl) rfl
  by_cases hpos : 0 < os.length
  · have hsm : true = someT os := (decide_eq_true hpos).symm
    replace hsm := Aside0.mk hsm
    have hpos' : (0 : Int) < (os.length : Int) := by omega
    cases out
    · go_enter Tryz.func48, Tryz.ntmps48
      go_wp2_with fail
      refine (both_c _ _ _ _ _).mono ?_
      rintro e W1 ⟨rfl, B1⟩
      rw [show bothB t.fin t.fout true false = bad0 t os false from first.out true hsm.out _ rfl]
      have J0 : P1J w t os false (.bool (bad0 t os false)) (.int .i64 0) W1 := ⟨0, rfl, Nat.zero_le _, by simp, B1⟩
      clear B1
      go_wp2_with fail
      go_loopw [10, 35] (fun v10 v35 wr => P1J w t os false v10 v35 wr) (fun _ v35 _ => os.length - (intOf v35).toNat)
      case atStart => exact J0
      case round =>
        clear J0
        obtain ⟨i, rfl, hi, rfl, B⟩ := hrel
        by_cases hlt : i < os.length
        · have hil : (i : Int) < (os.length : Int) := by omega
          have hR := RW.out wr B
          obtain ⟨g, rfl, _⟩ := hA (by omega)
          have y0 := RowQ.at hR i _ (hgl.out i hlt)
          obtain ⟨vo, hvo⟩ := TXA.out wr B os[i] (List.getElem_mem hlt)
          obtain ⟨_, _, o2, _, _, o5, o6, _⟩ := tx_cells hvo
          have hst := stp.out i hlt
          have fin : ∀ b W, Below wr.heap.size wr W → b = ((bad0 t os false || (os.take i).any (badT false)) || badT false os[i]) → P1J w t os false (.bool b) (.int .i64 ((i : Int) + 1)) W := fun b W BX hb => ⟨i + 1, by simp, by omega, by rw [hb, hst, Bool.or_assoc], below_then B B.size BX⟩
          generalize os[i] = o at y0 hvo o2 o5 o6 fin
          generalize l.Q o.num = qo at y0 hvo o2 o5 o6
          clear hR hst hvo
          cases hb : (bad0 t os false || (os.take i).any (badT false)) with
          | true =>
            have F := fin true wr (Below.refl _ _) (by rw [hb]; rfl)
            clear fin
            replace F := Aside0.mk F
            replace hb := Aside0.mk hb
            go_wp2
            refine ⟨F.out, ?_⟩
            simp [intOf]
            omega
          | false =>
            cases ha : o.act with
            | true =>
              rw [ha] at o2
              have F := fin false wr (Below.refl _ _) (by rw [hb]; unfold badT; rw [ha]; rfl)
              clear fin
              replace F := Aside0.mk F
              replace hb := Aside0.mk hb
              replace ha := Aside0.mk ha
              go_wp2
              refine ⟨F.out, ?_⟩
              simp [intOf]
              omega
            | false =>
              rw [ha] at o2
              have F := fun W BX => fin (bothB o.fin o.fout false true) W BX (by rw [hb]; unfold badT; rw [ha]; rfl)
              clear fin
              replace F := Aside0.mk F
              replace hb := Aside0.mk hb
              replace ha := Aside0.mk ha
              go_wp2_with fail
              refine (both_c _ _ _ _ _).mono ?_
              rintro e W2 ⟨rfl, B2⟩
              have F2 := F.out W2 B2
              clear F y0 o2 o5 o6
              replace F2 := Aside0.mk F2
              go_wp2
              refine ⟨F2.out, ?_⟩
              simp [intOf]
              omega
        · have hie : i = os.length := by omega
          have hge : ¬ (i : Int) < (os.length : Int) := by omega
          have hbe : (bad0 t os false || (os.take i).any (badT false)) = badB t os false := by unfold badB; rw [hie, List.take_length]
          rw [hbe]
          clear hbe
          replace hie := Aside0.mk hie
          cases hbB : badB t os false with
          | true =>
            have G := HG'.out wr B
            replace hbB := Aside0.mk hbB
            go_wp2_with fail
            refine G.mono ?_
            rintro e W ⟨rfl, hpg⟩
            have K : PutPost base l S t os false w PG (.returned (.int .i64 100)) W := .inl ⟨hbB.out, rfl, hpg⟩
            replace K := Aside0.mk K
            clear G
            go_wp2
            go_ret
            exact K.out
          | false =>
            replace hbB := Aside0.mk hbB
            have SC := set_c qt t vt true wr (by rw [hqt.out]; exact VT.out wr B)
            go_wp2_with (go_at_fn 93; refine SC.mono ?_; rintro e W3 ⟨rfl, hv3, hg3⟩)
            have J2 : P2J w base l S t os false nb (.slice A os.length c) (.int .i64 0) W3 := SETT.out wr W3 B (by rw [← hqt.out]; exact hv3) (by rw [← hqt.out]; exact hg3) hsm.out
            clear SC hv3 hg3
            go_wp2_with fail
            go_loopw [72] (fun v72 wr => P2J w base l S t os false nb (.slice A os.length c) v72 wr) (fun v72 _ => os.length - (intOf v72).toNat)
            case atStart => exact J2
            case round =>
              clear J2
              obtain ⟨i, rfl, hi, P, R, F⟩ := hrel
              by_cases hlt2 : i < os.length
              · have hil : (i : Int) < (os.length : Int) := by omega
                obtain ⟨g, rfl, _⟩ := hA (by omega)
                have y0 := RowQ.at R i _ (hgl.out i hlt2)
                obtain ⟨vo, hvo, ST⟩ := ROUND.out i hlt2 wr P R F
                have SC := set_c _ os[i] vo false wr hvo
                generalize os[i] = o at y0 ST SC hvo
                generalize l.Q o.num = qo at y0 ST SC hvo
                clear P R F hvo
                replace ST := Aside0.mk ST
                go_wp2_with (go_at_fn 93; refine SC.mono ?_; rintro e W4 ⟨rfl, hv4, hg4⟩)
                have F2 := ST.out W4 hv4 hg4
                clear ST SC y0
                replace F2 := Aside0.mk F2
                go_wp2
                refine ⟨F2.out, ?_⟩
                simp [intOf]
                omega
              · have hie2 : i = os.length := by omega
                have hge2 : ¬ (i : Int) < (os.length : Int) := by omega
                rw [hie2, List.take_length] at P
                have K : PutPost base l S t os false w PG (.returned (.int .i64 0)) wr := .inr ⟨hbB.out, rfl, P, F⟩
                clear P R F
                replace K := Aside0.mk K
                replace hie2 := Aside0.mk hie2
                go_wp2
                go_ret
                exact K.out
    · go_enter Tryz.func48, Tryz.ntmps48
      go_wp2_with fail
      refine (both_c _ _ _ _ _).mono ?_
      rintro e W1 ⟨rfl, B1⟩
      rw [show bothB t.fin t.fout false true = bad0 t os true from first.out true hsm.out _ rfl]
      have J0 : P1J w t os true (.bool (bad0 t os true)) (.int .i64 0) W1 := ⟨0, rfl, Nat.zero_le _, by simp, B1⟩
      clear B1
      go_wp2_with fail
      go_loopw [10, 35] (fun v10 v35 wr => P1J w t os true v10 v35 wr) (fun _ v35 _ => os.length - (intOf v35).toNat)
      case atStart => exact J0
      case round =>
        clear J0
        obtain ⟨i, rfl, hi, rfl, B⟩ := hrel
        by_cases hlt : i < os.length
        · have hil : (i : Int) < (os.length : Int) := by omega
          have hR := RW.out wr B
          obtain ⟨g, rfl, _⟩ := hA (by omega)
          have y0 := RowQ.at hR i _ (hgl.out i hlt)
          obtain ⟨vo, hvo⟩ := TXA.out wr B os[i] (List.getElem_mem hlt)
          obtain ⟨_, _, o2, _, _, o5, o6, _⟩ := tx_cells hvo
          have hst := stp.out i hlt
          have fin : ∀ b W, Below wr.heap.size wr W → b = ((bad0 t os true || (os.take i).any (badT true)) || badT true os[i]) → P1J w t os true (.bool b) (.int .i64 ((i : Int) + 1)) W := fun b W BX hb => ⟨i + 1, by simp, by omega, by rw [hb, hst, Bool.or_assoc], below_then B B.size BX⟩
          generalize os[i] = o at y0 hvo o2 o5 o6 fin
          generalize l.Q o.num = qo at y0 hvo o2 o5 o6
          clear hR hst hvo
          cases hb : (bad0 t os true || (os.take i).any (badT true)) with
          | true =>
            have F := fin true wr (Below.refl _ _) (by rw [hb]; rfl)
            clear fin
            replace F := Aside0.mk F
            replace hb := Aside0.mk hb
            go_wp2
            refine ⟨F.out, ?_⟩
            simp [intOf]
            omega
          | false =>
            cases ha : o.act with
            | true =>
              rw [ha] at o2
              have F := fin false wr (Below.refl _ _) (by rw [hb]; unfold badT; rw [ha]; rfl)
              clear fin
              replace F := Aside0.mk F
              replace hb := Aside0.mk hb
              replace ha := Aside0.mk ha
              go_wp2
              refine ⟨F.out, ?_⟩
              simp [intOf]
              omega
            | false =>
              rw [ha] at o2
              have F := fun W BX => fin (bothB o.fin o.fout true false) W BX (by rw [hb]; unfold badT; rw [ha]; rfl)
              clear fin
              replace F := Aside0.mk F
              replace hb := Aside0.mk hb
              replace ha := Aside0.mk ha
              go_wp2_with fail
              refine (both_c _ _ _ _ _).mono ?_
              rintro e W2 ⟨rfl, B2⟩
              have F2 := F.out W2 B2
              clear F y0 o2 o5 o6
              replace F2 := Aside0.mk F2
              go_wp2
              refine ⟨F2.out, ?_⟩
              simp [intOf]
              omega
        · have hie : i = os.length := by omega
          have hge : ¬ (i : Int) < (os.length : Int) := by omega
          have hbe : (bad0 t os true || (os.take i).any (badT true)) = badB t os true := by unfold badB; rw [hie, List.take_length]
          rw [hbe]
          clear hbe
          replace hie := Aside0.mk hie
          cases hbB : badB t os true with
          | true =>
            have G := HG'.out wr B
            replace hbB := Aside0.mk hbB
            go_wp2_with fail
            refine G.mono ?_
            rintro e W ⟨rfl, hpg⟩
            have K : PutPost base l S t os true w PG (.returned (.int .i64 100)) W := .inl ⟨hbB.out, rfl, hpg⟩
            replace K := Aside0.mk K
            clear G
            go_wp2
            go_ret
            exact K.out
          | false =>
            replace hbB := Aside0.mk hbB
            have SC := set_c qt t vt false wr (by rw [hqt.out]; exact VT.out wr B)
            go_wp2_with (go_at_fn 93; refine SC.mono ?_; rintro e W3 ⟨rfl, hv3, hg3⟩)
            have J2 : P2J w base l S t os true nb (.slice A os.length c) (.int .i64 0) W3 := SETT.out wr W3 B (by rw [← hqt.out]; exact hv3) (by rw [← hqt.out]; exact hg3) hsm.out
            clear SC hv3 hg3
            go_wp2_with fail
            go_loopw [72] (fun v72 wr => P2J w base l S t os true nb (.slice A os.length c) v72 wr) (fun v72 _ => os.length - (intOf v72).toNat)
            case atStart => exact J2
            case round =>
              clear J2
              obtain ⟨i, rfl, hi, P, R, F⟩ := hrel
              by_cases hlt2 : i < os.length
              · have hil : (i : Int) < (os.length : Int) := by omega
                obtain ⟨g, rfl, _⟩ := hA (by omega)
                have y0 := RowQ.at R i _ (hgl.out i hlt2)
                obtain ⟨vo, hvo, ST⟩ := ROUND.out i hlt2 wr P R F
                have SC := set_c _ os[i] vo true wr hvo
                generalize os[i] = o at y0 ST SC hvo
                generalize l.Q o.num = qo at y0 ST SC hvo
                clear P R F hvo
                replace ST := Aside0.mk ST
                go_wp2_with (go_at_fn 93; refine SC.mono ?_; rintro e W4 ⟨rfl, hv4, hg4⟩)
                have F2 := ST.out W4 hv4 hg4
                clear ST SC y0
                replace F2 := Aside0.mk F2
                go_wp2
                refine ⟨F2.out, ?_⟩
                simp [intOf]
                omega
              · have hie2 : i = os.length := by omega
                have hge2 : ¬ (i : Int) < (os.length : Int) := by omega
                rw [hie2, List.take_length] at P
                have K : PutPost base l S t os true w PG (.returned (.int .i64 0)) wr := .inr ⟨hbB.out, rfl, P, F⟩
                clear P R F
                replace K := Aside0.mk K
                replace hie2 := Aside0.mk hie2
                go_wp2
                go_ret
                exact K.out
  · have hsm : false = someT os := (decide_eq_false hpos).symm
    replace hsm := Aside0.mk hsm
    have hpos' : ¬ (0 : Int) < (os.length : Int) := by omega
    cases out
    · go_enter Tryz.func48, Tryz.ntmps48
      go_wp2_with fail
      refine (both_c _ _ _ _ _).mono ?_
      rintro e W1 ⟨rfl, B1⟩
      rw [show bothB t.fin t.fout false false = bad0 t os false from first.out false hsm.out _ rfl]
      have J0 : P1J w t os false (.bool (bad0 t os false)) (.int .i64 0) W1 := ⟨0, rfl, Nat.zero_le _, by simp, B1⟩
      clear B1
      go_wp2_with fail
      go_loopw [10, 35] (fun v10 v35 wr => P1J w t os false v10 v35 wr) (fun _ v35 _ => os.length - (intOf v35).toNat)
      case atStart => exact J0
      case round =>
        clear J0
        obtain ⟨i, rfl, hi, rfl, B⟩ := hrel
        by_cases hlt : i < os.length
        · exact absurd hlt (by omega)
        · have hie : i = os.length := by omega
          have hge : ¬ (i : Int) < (os.length : Int) := by omega
          have hbe : (bad0 t os false || (os.take i).any (badT false)) = badB t os false := by unfold badB; rw [hie, List.take_length]
          rw [hbe]
          clear hbe
          replace hie := Aside0.mk hie
          cases hbB : badB t os false with
          | true =>
            have G := HG'.out wr B
            replace hbB := Aside0.mk hbB
            go_wp2_with fail
            refine G.mono ?_
            rintro e W ⟨rfl, hpg⟩
            have K : PutPost base l S t os false w PG (.returned (.int .i64 100)) W := .inl ⟨hbB.out, rfl, hpg⟩
            replace K := Aside0.mk K
            clear G
            go_wp2
            go_ret
            exact K.out
          | false =>
            replace hbB := Aside0.mk hbB
            have J2 : P2J w base l S t os false nb (.slice A os.length c) (.int .i64 0) wr := SETN.out wr B hsm.out
            go_wp2_with fail
            go_loopw [72] (fun v72 wr => P2J w base l S t os false nb (.slice A os.length c) v72 wr) (fun v72 _ => os.length - (intOf v72).toNat)
            case atStart => exact J2
            case round =>
              clear J2
              obtain ⟨i, rfl, hi, P, R, F⟩ := hrel
              by_cases hlt2 : i < os.length
              · exact absurd hlt2 (by omega)
              · have hie2 : i = os.length := by omega
                have hge2 : ¬ (i : Int) < (os.length : Int) := by omega
                rw [hie2, List.take_length] at P
                have K : PutPost base l S t os false w PG (.returned (.int .i64 0)) wr := .inr ⟨hbB.out, rfl, P, F⟩
                clear P R F
                replace K := Aside0.mk K
                replace hie2 := Aside0.mk hie2
                go_wp2
                go_ret
                exact K.out
    · go_enter Tryz.func48, Tryz.ntmps48
      go_wp2_with fail
      refine (both_c _ _ _ _ _).mono ?_
      rintro e W1 ⟨rfl, B1⟩
      rw [show bothB t.fin t.fout false false = bad0 t os true from first.out false hsm.out _ rfl]
      have J0 : P1J w t os true (.bool (bad0 t os true)) (.int .i64 0) W1 := ⟨0, rfl, Nat.zero_le _, by simp, B1⟩
      clear B1
      go_wp2_with fail
      go_loopw [10, 35] (fun v10 v35 wr => P1J w t os true v10 v35 wr) (fun _ v35 _ => os.length - (intOf v35).toNat)
      case atStart => exact J0
      case round =>
        clear J0
        obtain ⟨i, rfl, hi, rfl, B⟩ := hrel
        by_cases hlt : i < os.length
        · exact absurd hlt (by omega)
        · have hie : i = os.length := by omega
          have hge : ¬ (i : Int) < (os.length : Int) := by omega
          have hbe : (bad0 t os true || (os.take i).any (badT true)) = badB t os true := by unfold badB; rw [hie, List.take_length]
          rw [hbe]
          clear hbe
          replace hie := Aside0.mk hie
          cases hbB : badB t os true with
          | true =>
            have G := HG'.out wr B
            replace hbB := Aside0.mk hbB
            go_wp2_with fail
            refine G.mono ?_
            rintro e W ⟨rfl, hpg⟩
            have K : PutPost base l S t os true w PG (.returned (.int .i64 100)) W := .inl ⟨hbB.out, rfl, hpg⟩
            replace K := Aside0.mk K
            clear G
            go_wp2
            go_ret
            exact K.out
          | false =>
            replace hbB := Aside0.mk hbB
            have J2 : P2J w base l S t os true nb (.slice A os.length c) (.int .i64 0) wr := SETN.out wr B hsm.out
            go_wp2_with fail
            go_loopw [72] (fun v72 wr => P2J w base l S t os true nb (.slice A os.length c) v72 wr) (fun v72 _ => os.length - (intOf v72).toNat)
            case atStart => exact J2
            case round =>
              clear J2
              obtain ⟨i, rfl, hi, P, R, F⟩ := hrel
              by_cases hlt2 : i < os.length
              · exact absurd hlt2 (by omega)
              · have hie2 : i = os.length := by omega
                have hge2 : ¬ (i : Int) < (os.length : Int) := by omega
                rw [hie2, List.take_length] at P
                have K : PutPost base l S t os true w PG (.returned (.int .i64 0)) wr := .inr ⟨hbB.out, rfl, P, F⟩
                clear P R F
                replace K := Aside0.mk K
                replace hie2 := Aside0.mk hie2
                go_wp2
                go_ret
                exact K.out
end Go.Proofs.YthaoedfalkebbaaGreat
