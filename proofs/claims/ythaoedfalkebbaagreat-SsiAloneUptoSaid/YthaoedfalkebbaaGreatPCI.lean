/- Cut by a program out of the seat's texts (YH YI YJ YK YL YM YN): what the theorem needs, one behind the other. -/
import Derived.Test.YthaoedfalkebbaaGreatPCH
import Derived.Test.YthaoedfalkebbaaGreatPCG
import Derived.Shelf.SlGeneric
import Derived.Shelf.SortM.Plain
import Derived.Shelf.SortM.SortNone
import Derived.Shelf.SlicesE.Clone
import Derived.Shelf.SlicesE.Compact
import Derived.Shelf.SlMaps.Clone
import Derived.Ground.SlgnProg
import Derived.Ground.SlgmProg
import Derived.Ground.SlmcProg
import Derived.Test.YthaoedfalkebbaaGreatProg
namespace Go.Proofs.YthaoedfalkebbaaGreat
open Go.RowKit Go.Maps Go.Sort Go.Lib Go.Shelf Go.Proofs.YthaoedfalkebbaaGreatW.PrintWords Go.Proofs.YthaoedfalkebbaaGreatW.PrintLast Go.Proofs.YthaoedfalkebbaaGreatW.PrintMore
set_option linter.unusedVariables false
set_option linter.unusedSimpArgs false
set_option linter.unusedSectionVars false
abbrev RowQ (w : World) (base : Nat) (v : Value) (xs : List Nat) : Prop := Lo encQ 1 99 w base v xs
theorem RowQ.at {w : World} {base g n c : Nat} {xs : List Nat} (h : RowQ w base (.slice (some ⟨g, 0, none⟩) n c) xs) (j : Nat) (x : Nat) (hj : xs[j]? = some x) : w.cell? ⟨g, j, none⟩ = some (ptr x) := by
  have H := h.cell (fun _ => rfl) rfl j x hj 0 _ rfl
  simpa using H
def badT (out : Bool) (o : Tx) : Bool := !o.act && bothB o.fin o.fout out (!out)
def someT (os : List Tx) : Bool := decide (0 < os.length)
def bad0 (t : Tx) (os : List Tx) (out : Bool) : Bool := bothB t.fin t.fout (!out && someT os) (out && someT os)
def badB (t : Tx) (os : List Tx) (out : Bool) : Bool := bad0 t os out || os.any (badT out)
/-- the transactions once some others' flags are set -/
def psi (t : Tx) (sm out : Bool) (os : List Tx) (x : Tx) : Tx := if x.num = t.num then (if sm = true then setF x (!out) else x) else if x.num ∈ os.map (fun o => o.num) then setF x out else x
theorem psi_num (t : Tx) (sm out : Bool) (os : List Tx) (x : Tx) : (psi t sm out os x).num = x.num := by unfold psi; split <;> split <;> rfl
def P1J (w : World) (t : Tx) (os : List Tx) (out : Bool) (v10 v35 : Value) (wr : World) : Prop := ∃ i : Nat, v35 = .int .i64 (i : Int) ∧ i ≤ os.length ∧ v10 = .bool (bad0 t os out || (os.take i).any (badT out)) ∧ Below w.heap.size w wr
def P2J (w : World) (base : Nat) (l : Loc) (S : Sm St) (t : Tx) (os : List Tx) (out : Bool) (nb : Nat) (u : Value) (v72 : Value) (wr : World) : Prop := ∃ i : Nat, v72 = .int .i64 (i : Int) ∧ i ≤ os.length ∧ Pm wr base l { S with txs := S.txs.map (psi t (someT os) out (os.take i)) } ∧ RowQ wr nb u (os.map (fun o => l.Q o.num)) ∧ Fr (l.own S.txs) w wr
def PutPost (base : Nat) (l : Loc) (S : Sm St) (t : Tx) (os : List Tx) (out : Bool) (w : World) (PG : World → Prop) (e : Ending) (w' : World) : Prop :=
  (badB t os out = true ∧ e = .returned (.int .i64 100) ∧ PG w') ∨ (badB t os out = false ∧ e = .returned (.int .i64 0) ∧ Pm w' base l { S with txs := S.txs.map (psi t (someT os) out os) } ∧ Fr (l.own S.txs) w w')
/-- a set of one of them -/
theorem put_set {w w1 w2 : World} {base nb : Nat} {l : Loc} {S : Sm St} {f : Tx → Tx} {u : Value} {qs : List Nat} (hf : ∀ x, (f x).num = x.num) {x : Tx} (hx : x ∈ S.txs) {i : Bool} {v : Value} (P : Pm w1 base l { S with txs := S.txs.map f }) (R : RowQ w1 nb u qs) (F : Fr (l.own S.txs) w w1)
    (hv : w1.heap[l.Q x.num]? = some (txCells (f x) v)) (hv' : w2.heap[l.Q x.num]? = some (txCells (setF (f x) i) v)) (hg : w1.grownBy w2 (some (l.Q x.num))) :
    Pm w2 base l { S with txs := S.txs.map (fun y => if y.num = x.num then setF (f x) i else f y) } ∧ RowQ w2 nb u qs ∧ Fr (l.own S.txs) w w2 := by
  have hfx : f x ∈ S.txs.map f := List.mem_map.2 ⟨x, hx, rfl⟩
  have P2 := P.setTx (o := f x) (o' := setF (f x) i) hfx (by rw [hf]; exact hg) (by rw [hf]; exact hv) (by rw [hf]; exact hv') rfl rfl
  refine ⟨?_, R.grown hg (fun b hb e => ?_), F.trans (Fr.grown hg) (fun k hk _ => by injection hk with hk; exact .inr (.inr (.inr (.inr (.inr ⟨x, hx, hk.symm⟩)))))⟩
  · have e : (S.txs.map f).map (fun y => if y.num = (f x).num then setF (f x) i else y) = S.txs.map (fun y => if y.num = x.num then setF (f x) i else f y) := by
      rw [List.map_map]
      apply List.map_congr_left
      intro y _
      simp only [Function.comp]
      rw [hf, hf]
    have P3 : Pm w2 base l { S with txs := (S.txs.map f).map (fun y => if y.num = (f x).num then setF (f x) i else y) } := P2
    rw [e] at P3
    exact P3
  · injection hb with hb
    obtain ⟨_, _, cells, hc⟩ := R.typed b e
    rw [← hb, hv] at hc
    unfold txCells at hc
    simp at hc
theorem psi_step {txs : List Tx} (hd : txs.Pairwise (fun a b => a.num < b.num)) {t : Tx} {sm out : Bool} {os : List Tx} (hos : ∀ o ∈ os, o ∈ txs ∧ o.num ≠ t.num) (hnd : (os.map (fun o => o.num)).Nodup) {i : Nat} (hi : i < os.length) :
    psi t sm out (os.take i) os[i] = os[i] ∧ txs.map (fun y => if y.num = os[i].num then setF (psi t sm out (os.take i) os[i]) out else psi t sm out (os.take i) y) = txs.map (psi t sm out (os.take (i + 1))) := by
  obtain ⟨h1, h2⟩ := hos os[i] (List.getElem_mem hi)
  have hno : os[i].num ∉ (os.take i).map (fun o => o.num) := by
    intro hm
    obtain ⟨o, ho, e⟩ := List.mem_map.1 hm
    obtain ⟨j, hj, e2⟩ := List.mem_iff_getElem.1 ho
    rw [List.length_take] at hj
    rw [List.getElem_take] at e2
    rw [List.nodup_iff_pairwise_ne, List.pairwise_map, List.pairwise_iff_getElem] at hnd
    refine hnd j i (by omega) hi (by omega) ?_
    rw [e2]
    exact e
  have e1 : psi t sm out (os.take i) os[i] = os[i] := by
    unfold psi
    rw [if_neg h2, if_neg hno]
  refine ⟨e1, List.map_congr_left fun y hy => ?_⟩
  rw [e1]
  have hmem : y.num ∈ (os.take (i + 1)).map (fun o => o.num) ↔ y.num ∈ (os.take i).map (fun o => o.num) ∨ y.num = os[i].num := by
    rw [List.take_succ_eq_append_getElem hi, List.map_append, List.mem_append]
    simp
  by_cases e : y.num = os[i].num
  · rw [if_pos e]
    have ey : y = os[i] := dist_inj hd hy h1 e
    unfold psi
    rw [if_neg (by rw [e]; exact h2), if_pos (hmem.2 (.inr e)), ey]
  · rw [if_neg e]
    unfold psi
    by_cases et : y.num = t.num
    · rw [if_pos et, if_pos et]
    · rw [if_neg et, if_neg et]
      by_cases em : y.num ∈ (os.take i).map (fun o => o.num)
      · rw [if_pos em, if_pos (hmem.2 (.inl em))]
      · rw [if_neg em, if_neg (fun h => (hmem.1 h).elim em e)]
theorem psi_none {txs : List Tx} (t : Tx) (out : Bool) : txs.map (psi t false out []) = txs := by
  rw [show txs.map (psi t false out []) = txs.map id from List.map_congr_left (fun y _ => by unfold psi; simp)]
  simp
theorem psi_first {txs : List Tx} (hd : txs.Pairwise (fun a b => a.num < b.num)) {t : Tx} (ht : t ∈ txs) (out : Bool) : txs.map (fun y => if y.num = t.num then setF t (!out) else y) = txs.map (psi t true out []) := by
  refine List.map_congr_left fun y hy => ?_
  unfold psi
  by_cases e : y.num = t.num
  · rw [if_pos e, if_pos e, if_pos rfl, dist_inj hd hy ht e]
  · rw [if_neg e, if_neg e]
    simp
set_option maxHeartbeats 16000000 in
set_option maxRecDepth 100000 in
theorem put_s (base nb : Nat) (l : Loc) (S : Sm St) (t : Tx) (os : List Tx) (out : Bool) (u : Value) (w : World) (PG : World → Prop) (h : Pm w base l S) (ht : t ∈ S.txs) (hos : ∀ o ∈ os, o ∈ S.txs ∧ o.num ≠ t.num) (hnd : (os.map (fun o => o.num)).Nodup) (hu : RowQ w nb u (os.map (fun o => l.Q o.num))) (hl : os.length ≤ 65536)
    (HG : ∀ W, Below w.heap.size w W → Calls Tryz.prog 43 #[ptr l.p, ptr (l.Q t.num)] W fun e w' => e = .returned (.tuple #[]) ∧ PG w') :
    Calls Tryz.prog 48 #[ptr l.p, ptr (l.Q t.num), u, .bool out] w (PutPost base l S t os out w PG) := by
  obtain ⟨A, c, rfl, hlc, hA⟩ := hu.slice
  rw [List.length_map] at hlc hA
  have hlen : (os.map (fun o => l.Q o.num)).length = os.length := List.length_map _
  rw [hlen]
  obtain ⟨vt, hvt, _⟩ := h.tx t ht
  obtain ⟨_, _, _, _, _, t5, t6, _⟩ := tx_cells hvt
  have TXA : ∀ W, Below w.heap.size w W → ∀ o ∈ os, ∃ v, W.heap[l.Q o.num]? = some (txCells o v) := fun W B o ho => by
    obtain ⟨v, hv, _⟩ := h.tx o (hos o ho).1
    exact ⟨v, (B.block _ (Array.getElem?_eq_some_iff.1 hv).1).trans hv⟩
  have RW : ∀ W, Below w.heap.size w W → RowQ W nb (.slice A os.length c) (os.map (fun o => l.Q o.num)) := fun W B => by
    have := hu
    rw [hlen] at this
    exact this.grown (grown_of_below B none) (by simp)
  have hgl : ∀ k (hk : k < os.length), (os.map (fun o => l.Q o.num))[k]? = some (l.Q os[k].num) := fun k hk => by rw [List.getElem?_map, List.getElem?_eq_getElem hk]; rfl
  have stp : ∀ k (hk : k < os.length), (os.take (k + 1)).any (badT out) = ((os.take k).any (badT out) || badT out os[k]) := fun k hk => by rw [List.take_succ_eq_append_getElem hk, List.any_append]; simp
  have hdist := h.dist
  have VT : ∀ W, Below w.heap.size w W → W.heap[l.Q t.num]? = some (txCells t vt) := fun W B => (B.block _ (Array.getElem?_eq_some_iff.1 hvt).1).trans hvt
  have SETT : ∀ W W', Below w.heap.size w W → W'.heap[l.Q t.num]? = some (txCells (setF t (!out)) vt) → W.grownBy W' (some (l.Q t.num)) → true = someT os → P2J w base l S t os out nb (.slice A os.length c) (.int .i64 0) W' := by
    intro W W' B hv' hg hs
    have PW := h.below B
    have PWm : Pm W base l { S with txs := S.txs.map (fun x => x) } := by rw [List.map_id' ]; exact PW
    obtain ⟨p1, p2, p3⟩ := put_set (f := fun x => x) (fun _ => rfl) ht PWm (by have := hu; rw [hlen] at this; exact this.grown (grown_of_below B none) (by simp)) (Fr.ofBelow (O := l.own S.txs) B) (VT W B) hv' hg
    refine ⟨0, rfl, Nat.zero_le _, ?_, p2, p3⟩
    rw [← hs, List.take_zero, ← psi_first h.dist ht out]
    exact p1
  have SETN : ∀ W, Below w.heap.size w W → false = someT os → P2J w base l S t os out nb (.slice A os.length c) (.int .i64 0) W := by
    intro W B hs
    refine ⟨0, rfl, Nat.zero_le _, ?_, by have := hu; rw [hlen] at this; exact this.grown (grown_of_below B none) (by simp), Fr.ofBelow B⟩
    rw [← hs, List.take_zero, psi_none]
    exact h.below B
  have ROUND : ∀ (i : Nat) (hi : i < os.length) (wr : World), Pm wr base l { S with txs := S.txs.map (psi t (someT os) out (os.take i)) } → RowQ wr nb (.slice A os.length c) (os.map (fun o => l.Q o.num)) → Fr (l.own S.txs) w wr →
      ∃ v, wr.heap[l.Q os[i].num]? = some (txCells os[i] v) ∧ ∀ W', W'.heap[l.Q os[i].num]? = some (txCells (setF os[i] out) v) → wr.grownBy W' (some (l.Q os[i].num)) → P2J w base l S t os out nb (.slice A os.length c) (.int .i64 ((i : Int) + 1)) W' := by
    intro i hi wr P R F
    obtain ⟨s1, s2⟩ := psi_step (sm := someT os) (out := out) h.dist hos hnd hi
    obtain ⟨m1, m2⟩ := hos os[i] (List.getElem_mem hi)
    obtain ⟨v, hv, _⟩ := P.tx (psi t (someT os) out (os.take i) os[i]) (List.mem_map.2 ⟨_, m1, rfl⟩)
    rw [s1] at hv
    refine ⟨v, hv, fun W' hv' hg => ?_⟩
    obtain ⟨p1, p2, p3⟩ := put_set (f := psi t (someT os) out (os.take i)) (psi_num _ _ _ _) m1 P R F (by rw [s1]; exact hv) (by rw [s1]; exact hv') hg
    rw [s2] at p1
    exact ⟨i + 1, by simp, by omega, p1, p2, p3⟩
  replace SETT := Aside0.mk SETT
  replace SETN := Aside0.mk SETN
  replace ROUND := Aside0.mk ROUND
  replace VT := Aside0.mk VT
  replace hdist := Aside0.mk hdist
  clear h hu hvt
  replace TXA := Aside0.mk TXA
  replace RW := Aside0.mk RW
  replace hgl := Aside0.mk hgl
  replace stp := Aside0.mk stp
  replace HG := Aside0.mk HG
  replace hos := Aside0.mk hos
  replace hnd := Aside0.mk hnd
  have first : ∀ sm, sm = someT os → ∀ b, b = bothB t.fin t.fout (!out && sm) (out && sm) → b = bad0 t os out := fun sm hs b hb => by unfold bad0; rw [hb, hs]
  replace first := Aside0.mk first
  obtain ⟨qt, hqt⟩ : ∃ qt, qt = l.Q t.num := ⟨_, rfl⟩
  rw [← hqt] at t5 t6
  have HG' : ∀ W, Below w.heap.size w W → Calls Tryz.prog 43 #[ptr l.p, ptr qt] W fun e w' => e = .returned (.tuple #[]) ∧ PG w' := by rw [hqt]; exact HG.out
  replace HG' := Aside0.mk HG'
  rw [← hqt]
  clear HG
  replace hqt := Aside0.mk hqt
  have eg : ∀ args w, (callFunc 93 args).run Tryz.prog w = .ok (.enter 93 args) w := enters_of Tryz.func93 (by kernel_rfl) rfl
  by_cases hpos : 0 < os.length
  · have hsm : true = someT os := (decide_eq_true hpos).symm
    replace hsm := Aside0.mk hsm
    have hpos' : (0 : Int) < (os.length : Int) := by omega
    cases out
    · go_enter Tryz.func48, Tryz.ntmps48
      go_wp2_with fail
      refine (both_c _ _ _ _ _).mono ?_
      rintro e W1 ⟨rfl, B1⟩
      rw [show bothB t.fin t.fout true false = bad0 t os false from first.out true hsm.out _ rfl]
      have J0 : P1J w t os false (.bool (bad0 t os false)) (.int .i64 0) W1 := ⟨0, rfl, Nat.zero_le _, by simp, B1⟩
      clear B1
      go_wp2_with fail
      go_loopw [10, 35] (fun v10 v35 wr => P1J w t os false v10 v35 wr) (fun _ v35 _ => os.length - (intOf v35).toNat)
      case atStart => exact J0
      case round =>
        clear J0
        obtain ⟨i, rfl, hi, rfl, B⟩ := hrel
        by_cases hlt : i < os.length
        · have hil : (i : Int) < (os.length : Int) := by omega
          have hR := RW.out wr B
          obtain ⟨g, rfl, _⟩ := hA (by omega)
          have y0 := RowQ.at hR i _ (hgl.out i hlt)
          obtain ⟨vo, hvo⟩ := TXA.out wr B os[i] (List.getElem_mem hlt)
          obtain ⟨_, _, o2, _, _, o5, o6, _⟩ := tx_cells hvo
          have hst := stp.out i hlt
          have fin : ∀ b W, Below wr.heap.size wr W → b = ((bad0 t os false || (os.take i).any (badT false)) || badT false os[i]) → P1J w t os false (.bool b) (.int .i64 ((i : Int) + 1)) W := fun b W BX hb => ⟨i + 1, by simp, by omega, by rw [hb, hst, Bool.or_assoc], below_then B B.size BX⟩
          generalize os[i] = o at y0 hvo o2 o5 o6 fin
          generalize l.Q o.num = qo at y0 hvo o2 o5 o6
          clear hR hst hvo
          cases hb : (bad0 t os false || (os.take i).any (badT false)) with
          | true =>
            have F := fin true wr (Below.refl _ _) (by rw [hb]; rfl)
            clear fin
            replace F := Aside0.mk F
            replace hb := Aside0.mk hb
            go_wp2
            refine ⟨F.out, ?_⟩
            simp [intOf]
            omega
          | false =>
            cases ha : o.act with
            | true =>
              rw [ha] at o2
              have F := fin false wr (Below.refl _ _) (by rw [hb]; unfold badT; rw [ha]; rfl)
              clear fin
              replace F := Aside0.mk F
              replace hb := Aside0.mk hb
              replace ha := Aside0.mk ha
              go_wp2
              refine ⟨F.out, ?_⟩
              simp [intOf]
              omega
            | false =>
              rw [ha] at o2
              have F := fun W BX => fin (bothB o.fin o.fout false true) W BX (by rw [hb]; unfold badT; rw [ha]; rfl)
              clear fin
              replace F := Aside0.mk F
              replace hb := Aside0.mk hb
              replace ha := Aside0.mk ha
              go_wp2_with fail
              refine (both_c _ _ _ _ _).mono ?_
              rintro e W2 ⟨rfl, B2⟩
              have F2 := F.out W2 B2
              clear F y0 o2 o5 o6
              replace F2 := Aside0.mk F2
              go_wp2
              refine ⟨F2.out, ?_⟩
              simp [intOf]
              omega
        · have hie : i = os.length := by omega
          have hge : ¬ (i : Int) < (os.length : Int) := by omega
          have hbe : (bad0 t os false || (os.take i).any (badT false)) = badB t os false := by unfold badB; rw [hie, List.take_length]
          rw [hbe]
          clear hbe
          replace hie := Aside0.mk hie
          cases hbB : badB t os false with
          | true =>
            have G := HG'.out wr B
            replace hbB := Aside0.mk hbB
            go_wp2_with fail
            refine G.mono ?_
            rintro e W ⟨rfl, hpg⟩
            have K : PutPost base l S t os false w PG (.returned (.int .i64 100)) W := .inl ⟨hbB.out, rfl, hpg⟩
            replace K := Aside0.mk K
            clear G
            go_wp2
            go_ret
            exact K.out
          | false =>
            replace hbB := Aside0.mk hbB
            have SC := set_c qt t vt true wr (by rw [hqt.out]; exact VT.out wr B)
            go_wp2_with (go_at_fn 93; refine SC.mono ?_; rintro e W3 ⟨rfl, hv3, hg3⟩)
            have J2 : P2J w base l S t os false nb (.slice A os.length c) (.int .i64 0) W3 := SETT.out wr W3 B (by rw [← hqt.out]; exact hv3) (by rw [← hqt.out]; exact hg3) hsm.out
            clear SC hv3 hg3
            go_wp2_with fail
            go_loopw [72] (fun v72 wr => P2J w base l S t os false nb (.slice A os.length c) v72 wr) (fun v72 _ => os.length - (intOf v72).toNat)
            case atStart => exact J2
            case round =>
              clear J2
              obtain ⟨i, rfl, hi, P, R, F⟩ := hrel
              by_cases hlt2 : i < os.length
              · have hil : (i : Int) < (os.length : Int) := by omega
                obtain ⟨g, rfl, _⟩ := hA (by omega)
                have y0 := RowQ.at R i _ (hgl.out i hlt2)
                obtain ⟨vo, hvo, ST⟩ := ROUND.out i hlt2 wr P R F
                have SC := set_c _ os[i] vo false wr hvo
                generalize os[i] = o at y0 ST SC hvo
                generalize l.Q o.num = qo at y0 ST SC hvo
                clear P R F hvo
                replace ST := Aside0.mk ST
                go_wp2_with (go_at_fn 93; refine SC.mono ?_; rintro e W4 ⟨rfl, hv4, hg4⟩)
                have F2 := ST.out W4 hv4 hg4
                clear ST SC y0
                replace F2 := Aside0.mk F2
                go_wp2
                refine ⟨F2.out, ?_⟩
                simp [intOf]
                omega
              · have hie2 : i = os.length := by omega
                have hge2 : ¬ (i : Int) < (os.length : Int) := by omega
                rw [hie2, List.take_length] at P
                have K : PutPost base l S t os false w PG (.returned (.int .i64 0)) wr := .inr ⟨hbB.out, rfl, P, F⟩
                clear P R F
                replace K := Aside0.mk K
                replace hie2 := Aside0.mk hie2
                go_wp2
                go_ret
                exact K.out
    · go_enter Tryz.func48, Tryz.ntmps48
      go_wp2_with fail
      refine (both_c _ _ _ _ _).mono ?_
      rintro e W1 ⟨rfl, B1⟩
      rw [show bothB t.fin t.fout false true = bad0 t os true from first.out true hsm.out _ rfl]
      have J0 : P1J w t os true (.bool (bad0 t os true)) (.int .i64 0) W1 := ⟨0, rfl, Nat.zero_le _, by simp, B1⟩
      clear B1
      go_wp2_with fail
      go_loopw [10, 35] (fun v10 v35 wr => P1J w t os true v10 v35 wr) (fun _ v35 _ => os.length - (intOf v35).toNat)
      case atStart => exact J0
      case round =>
        clear J0
        obtain ⟨i, rfl, hi, rfl, B⟩ := hrel
        by_cases hlt : i < os.length
        · have hil : (i : Int) < (os.length : Int) := by omega
          have hR := RW.out wr B
          obtain ⟨g, rfl, _⟩ := hA (by omega)
          have y0 := RowQ.at hR i _ (hgl.out i hlt)
          obtain ⟨vo, hvo⟩ := TXA.out wr B os[i] (List.getElem_mem hlt)
          obtain ⟨_, _, o2, _, _, o5, o6, _⟩ := tx_cells hvo
          have hst := stp.out i hlt
          have fin : ∀ b W, Below wr.heap.size wr W → b = ((bad0 t os true || (os.take i).any (badT true)) || badT true os[i]) → P1J w t os true (.bool b) (.int .i64 ((i : Int) + 1)) W := fun b W BX hb => ⟨i + 1, by simp, by omega, by rw [hb, hst, Bool.or_assoc], below_then B B.size BX⟩
          generalize os[i] = o at y0 hvo o2 o5 o6 fin
          generalize l.Q o.num = qo at y0 hvo o2 o5 o6
          clear hR hst hvo
          cases hb : (bad0 t os true || (os.take i).any (badT true)) with
          | true =>
            have F := fin true wr (Below.refl _ _) (by rw [hb]; rfl)
            clear fin
            replace F := Aside0.mk F
            replace hb := Aside0.mk hb
            go_wp2
            refine ⟨F.out, ?_⟩
            simp [intOf]
            omega
          | false =>
            cases ha : o.act with
            | true =>
              rw [ha] at o2
              have F := fin false wr (Below.refl _ _) (by rw [hb]; unfold badT; rw [ha]; rfl)
              clear fin
              replace F := Aside0.mk F
              replace hb := Aside0.mk hb
              replace ha := Aside0.mk ha
              go_wp2
              refine ⟨F.out, ?_⟩
              simp [intOf]
              omega
            | false =>
              rw [ha] at o2
              have F := fun W BX => fin (bothB o.fin o.fout true false) W BX (by rw [hb]; unfold badT; rw [ha]; rfl)
              clear fin
              replace F := Aside0.mk F
              replace hb := Aside0.mk hb
              replace ha := Aside0.mk ha
              go_wp2_with fail
              refine (both_c _ _ _ _ _).mono ?_
              rintro e W2 ⟨rfl, B2⟩
              have F2 := F.out W2 B2
              clear F y0 o2 o5 o6
              replace F2 := Aside0.mk F2
              go_wp2
              refine ⟨F2.out, ?_⟩
              simp [intOf]
              omega
        · have hie : i = os.length := by omega
          have hge : ¬ (i : Int) < (os.length : Int) := by omega
          have hbe : (bad0 t os true || (os.take i).any (badT true)) = badB t os true := by unfold badB; rw [hie, List.take_length]
          rw [hbe]
          clear hbe
          replace hie := Aside0.mk hie
          cases hbB : badB t os true with
          | true =>
            have G := HG'.out wr B
            replace hbB := Aside0.mk hbB
            go_wp2_with fail
            refine G.mono ?_
            rintro e W ⟨rfl, hpg⟩
            have K : PutPost base l S t os true w PG (.returned (.int .i64 100)) W := .inl ⟨hbB.out, rfl, hpg⟩
            replace K := Aside0.mk K
            clear G
            go_wp2
            go_ret
            exact K.out
          | false =>
            replace hbB := Aside0.mk hbB
            have SC := set_c qt t vt false wr (by rw [hqt.out]; exact VT.out wr B)
            go_wp2_with (go_at_fn 93; refine SC.mono ?_; rintro e W3 ⟨rfl, hv3, hg3⟩)
            have J2 : P2J w base l S t os true nb (.slice A os.length c) (.int .i64 0) W3 := SETT.out wr W3 B (by rw [← hqt.out]; exact hv3) (by rw [← hqt.out]; exact hg3) hsm.out
            clear SC hv3 hg3
            go_wp2_with fail
            go_loopw [72] (fun v72 wr => P2J w base l S t os true nb (.slice A os.length c) v72 wr) (fun v72 _ => os.length - (intOf v72).toNat)
            case atStart => exact J2
            case round =>
              clear J2
              obtain ⟨i, rfl, hi, P, R, F⟩ := hrel
              by_cases hlt2 : i < os.length
              · have hil : (i : Int) < (os.length : Int) := by omega
                obtain ⟨g, rfl, _⟩ := hA (by omega)
                have y0 := RowQ.at R i _ (hgl.out i hlt2)
                obtain ⟨vo, hvo, ST⟩ := ROUND.out i hlt2 wr P R F
                have SC := set_c _ os[i] vo true wr hvo
                generalize os[i] = o at y0 ST SC hvo
                generalize l.Q o.num = qo at y0 ST SC hvo
                clear P R F hvo
                replace ST := Aside0.mk ST
                go_wp2_with (go_at_fn 93; refine SC.mono ?_; rintro e W4 ⟨rfl, hv4, hg4⟩)
                have F2 := ST.out W4 hv4 hg4
                clear ST SC y0
                replace F2 := Aside0.mk F2
                go_wp2
                refine ⟨F2.out, ?_⟩
                simp [intOf]
                omega
              · have hie2 : i = os.length := by omega
                have hge2 : ¬ (i : Int) < (os.length : Int) := by omega
                rw [hie2, List.take_length] at P
                have K : PutPost base l S t os true w PG (.returned (.int .i64 0)) wr := .inr ⟨hbB.out, rfl, P, F⟩
                clear P R F
                replace K := Aside0.mk K
                replace hie2 := Aside0.mk hie2
                go_wp2
                go_ret
                exact K.out
  · have hsm : false = someT os := (decide_eq_false hpos).symm
    replace hsm := Aside0.mk hsm
    have hpos' : ¬ (0 : Int) < (os.length : Int) := by omega
    cases out
    · go_enter Tryz.func48, Tryz.ntmps48
      go_wp2_with fail
      refine (both_c _ _ _ _ _).mono ?_
      rintro e W1 ⟨rfl, B1⟩
      rw [show bothB t.fin t.fout false false = bad0 t os false from first.out false hsm.out _ rfl]
      have J0 : P1J w t os false (.bool (bad0 t os false)) (.int .i64 0) W1 := ⟨0, rfl, Nat.zero_le _, by simp, B1⟩
      clear B1
      go_wp2_with fail
      go_loopw [10, 35] (fun v10 v35 wr => P1J w t os false v10 v35 wr) (fun _ v35 _ => os.length - (intOf v35).toNat)
      case atStart => exact J0
      case round =>
        clear J0
        obtain ⟨i, rfl, hi, rfl, B⟩ := hrel
        by_cases hlt : i < os.length
        · exact absurd hlt (by omega)
        · have hie : i = os.length := by omega
          have hge : ¬ (i : Int) < (os.length : Int) := by omega
          have hbe : (bad0 t os false || (os.take i).any (badT false)) = badB t os false := by unfold badB; rw [hie, List.take_length]
          rw [hbe]
          clear hbe
          replace hie := Aside0.mk hie
          cases hbB : badB t os false with
          | true =>
            have G := HG'.out wr B
            replace hbB := Aside0.mk hbB
            go_wp2_with fail
            refine G.mono ?_
            rintro e W ⟨rfl, hpg⟩
            have K : PutPost base l S t os false w PG (.returned (.int .i64 100)) W := .inl ⟨hbB.out, rfl, hpg⟩
            replace K := Aside0.mk K
            clear G
            go_wp2
            go_ret
            exact K.out
          | false =>
            replace hbB := Aside0.mk hbB
            have J2 : P2J w base l S t os false nb (.slice A os.length c) (.int .i64 0) wr := SETN.out wr B hsm.out
            go_wp2_with fail
            go_loopw [72] (fun v72 wr => P2J w base l S t os false nb (.slice A os.length c) v72 wr) (fun v72 _ => os.length - (intOf v72).toNat)
            case atStart => exact J2
            case round =>
              clear J2
              obtain ⟨i, rfl, hi, P, R, F⟩ := hrel
              by_cases hlt2 : i < os.length
              · exact absurd hlt2 (by omega)
              · have hie2 : i = os.length := by omega
                have hge2 : ¬ (i : Int) < (os.length : Int) := by omega
                rw [hie2, List.take_length] at P
                have K : PutPost base l S t os false w PG (.returned (.int .i64 0)) wr := .inr ⟨hbB.out, rfl, P, F⟩
                clear P R F
                replace K := Aside0.mk K
                replace hie2 := Aside0.mk hie2
                go_wp2
                go_ret
                exact K.out
    · go_enter Tryz.func48, Tryz.ntmps48
      go_wp2_with fail
      refine (both_c _ _ _ _ _).mono ?_
      rintro e W1 ⟨rfl, B1⟩
      rw [show bothB t.fin t.fout false false = bad0 t os true from first.out false hsm.out _ rfl]
      have J0 : P1J w t os true (.bool (bad0 t os true)) (.int .i64 0) W1 := ⟨0, rfl, Nat.zero_le _, by simp, B1⟩
      clear B1
      go_wp2_with fail
      go_loopw [10, 35] (fun v10 v35 wr => P1J w t os true v10 v35 wr) (fun _ v35 _ => os.length - (intOf v35).toNat)
      case atStart => exact J0
      case round =>
        clear J0
        obtain ⟨i, rfl, hi, rfl, B⟩ := hrel
        by_cases hlt : i < os.length
        · exact absurd hlt (by omega)
        · have hie : i = os.length := by omega
          have hge : ¬ (i : Int) < (os.length : Int) := by omega
          have hbe : (bad0 t os true || (os.take i).any (badT true)) = badB t os true := by unfold badB; rw [hie, List.take_length]
          rw [hbe]
          clear hbe
          replace hie := Aside0.mk hie
          cases hbB : badB t os true with
          | true =>
            have G := HG'.out wr B
            replace hbB := Aside0.mk hbB
            go_wp2_with fail
            refine G.mono ?_
            rintro e W ⟨rfl, hpg⟩
            have K : PutPost base l S t os true w PG (.returned (.int .i64 100)) W := .inl ⟨hbB.out, rfl, hpg⟩
            replace K := Aside0.mk K
            clear G
            go_wp2
            go_ret
            exact K.out
          | false =>
            replace hbB := Aside0.mk hbB
            have J2 : P2J w base l S t os true nb (.slice A os.length c) (.int .i64 0) wr := SETN.out wr B hsm.out
            go_wp2_with fail
            go_loopw [72] (fun v72 wr => P2J w base l S t os true nb (.slice A os.length c) v72 wr) (fun v72 _ => os.length - (intOf v72).toNat)
            case atStart => exact J2
            case round =>
              clear J2
              obtain ⟨i, rfl, hi, P, R, F⟩ := hrel
              by_cases hlt2 : i < os.length
              · exact absurd hlt2 (by omega)
              · have hie2 : i = os.length := by omega
                have hge2 : ¬ (i : Int) < (os.length : Int) := by omega
                rw [hie2, List.take_length] at P
                have K : PutPost base l S t os true w PG (.returned (.int .i64 0)) wr := .inr ⟨hbB.out, rfl, P, F⟩
                clear P R F
                replace K := Aside0.mk K
                replace hie2 := Aside0.mk hie2
                go_wp2
                go_ret
                exact K.out
end Go.Proofs.YthaoedfalkebbaaGreat
namespace Go.Proofs.YthaoedfalkebbaaGreat
open Go.RowKit Go.Maps Go.Sort Go.Lib Go.Shelf Go.Proofs.YthaoedfalkebbaaGreatW.PrintWords Go.Proofs.YthaoedfalkebbaaGreatW.PrintLast Go.Proofs.YthaoedfalkebbaaGreatW.PrintMore
set_option linter.unusedVariables false
set_option linter.unusedSimpArgs false
set_option linter.unusedSectionVars false
/-- the machine's notes -/
def iS (most : Int) : RdI St := ⟨fun r t x => noteP r most t x, fun r t => (dropP r t).2, readP, fun r t => !(ofP r t).isEmpty, fun r => r.n⟩
/-- some go, and notes with them -/
theorem Pm.turn {w w' : World} {base : Nat} {l : Loc} {S S' : Sm St} {O : Nat → Prop} (h : Pm w base l S) (f : Fr O w w') (hO : ∀ k, O k → k = l.mb ∨ k = l.rp ∨ k = l.rb) (e1 : S'.caps = S.caps) (e2 : S'.now = S.now) (e3 : S'.last = S.last) (e4 : S'.clock = S.clock) (e5 : S'.locks = S.locks) (hs : S'.txs.Sublist S.txs)
    (ht : TabT w' l.mb S'.txs.length (txL l.Q S'.txs)) (hr : MrS w' base l.rp l.rb S.caps.reads S'.reads) : Pm w' base l S' := by
  obtain ⟨hk, k1, k2, k3, k4, k5, k6, k7, k8, k9, k10, k11, k12⟩ := h.kinds
  have hm : ∀ t, t ∈ S'.txs → t ∈ S.txs := fun t ht => hs.subset ht
  have no : ∀ k, (k ≠ l.mb ∧ k ≠ l.rp ∧ k ≠ l.rb) → ¬ O k := fun k hk h => by
    rcases hO k h with e | e | e
    · exact hk.1 e
    · exact hk.2.1 e
    · exact hk.2.2 e
  obtain ⟨es1, c1, hmap⟩ := h.tab.isMap
  obtain ⟨cr, sr, hrr⟩ := h.reads.is55
  obtain ⟨⟨L, M, _, _⟩, _⟩ := h.reads
  obtain ⟨e3', c3', hrm⟩ := M.tab.isMap
  constructor
  · have := f.block _ _ (no l.p ⟨k1, k4, k5⟩) h.head
    unfold hdCells at this ⊢
    rw [e1, e2, e3, e4]
    exact this
  · exact ht
  · intro t htm
    obtain ⟨v, h1, ws, h2, h3⟩ := h.tx t (hm t htm)
    obtain ⟨q1, q2, q3, q4, q5, q6⟩ := hk t (hm t htm)
    refine ⟨v, f.block _ _ (no _ ⟨q2, q5, q6⟩) h1, ws, h2.move fun g hg => ?_, h3⟩
    obtain ⟨_, _, cells, hc⟩ := h2.typed g hg
    refine (f.block g _ (no g ⟨fun e => ?_, fun e => ?_, fun e => ?_⟩) hc).trans hc.symm
    · rw [e, hmap] at hc; cases hc
    · rw [e, hrr] at hc; simp at hc
    · rw [e, hrm] at hc; cases hc
  · exact fun t ht u hu e => h.qinj t (hm t ht) u (hm u hu) e
  · rw [e1, e5]
    exact h.locks.fr f (no _ ⟨k6, k8, k9⟩) (no _ ⟨fun e => h.ne1 e.symm, fun e => k11 e.symm, h.ne3⟩)
  · obtain ⟨c, s, hc⟩ := h.lkind
    exact ⟨c, s, f.block _ _ (no _ ⟨k6, k8, k9⟩) hc⟩
  · rw [e1]; exact hr
  · exact h.dist.sublist hs
  · intro t ht
    rw [e3]
    exact h.nums t (hm t ht)
  · exact Nat.le_trans hs.length_le h.few
  · exact h.ne1
  · exact h.ne2
  · exact h.ne3
  · exact ⟨h.low.1, h.low.2.1, h.low.2.2.1, h.low.2.2.2.1, h.low.2.2.2.2.1, fun t ht => h.low.2.2.2.2.2 t (hm t ht)⟩
def dropA (S : St) (ns : List Int) : St := ns.foldl (fun r n => (dropP r n).2) S
theorem dropP_pos (S : St) {n : Int} (h : 1 ≤ n) : (dropP S n).2 = dropS S n := by unfold dropP; rw [if_neg (by omega)]
theorem dropS_comm (S : St) (a b : Int) : dropS (dropS S a) b = dropS (dropS S b) a := by
  have hR : dropR (dropR S.R a) b = dropR (dropR S.R b) a := by
    funext q
    unfold dropR
    by_cases h1 : q.1 = a <;> by_cases h2 : q.1 = b <;> simp [h1, h2]
  have hK : (S.K.filter (fun q => q.1 != a)).filter (fun q => q.1 != b) = (S.K.filter (fun q => q.1 != b)).filter (fun q => q.1 != a) := by
    rw [List.filter_filter, List.filter_filter]
    congr 1
    funext q
    exact Bool.and_comm _ _
  unfold dropS
  simp only [hR, hK]
theorem dropA_perm {xs ys : List Int} (h : xs.Perm ys) : ∀ (S : St), (∀ n ∈ xs, 1 ≤ n) → dropA S xs = dropA S ys := by
  induction h with
  | nil => intro S _; rfl
  | cons x _ ih =>
    intro S hp
    show dropA (dropP S x).2 _ = dropA (dropP S x).2 _
    exact ih _ (fun n hn => hp n (List.mem_cons_of_mem _ hn))
  | swap x y l =>
    intro S hp
    show dropA (dropP (dropP S y).2 x).2 l = dropA (dropP (dropP S x).2 y).2 l
    have hx : 1 ≤ x := hp x (by simp)
    have hy : 1 ≤ y := hp y (by simp)
    rw [dropP_pos S hy, dropP_pos _ hx, dropP_pos S hx, dropP_pos _ hy, dropS_comm]
  | trans h1 _ ih1 ih2 =>
    intro S hp
    rw [ih1 S hp]
    exact ih2 S (fun n hn => hp n (h1.mem_iff.2 hn))
theorem forget_eq (most : Int) (S : Sm St) : S.forget (iS most) = { S with txs := S.txs.filter (keepB S.txs), reads := dropA S.reads ((S.txs.filter (fun t => !keepB S.txs t)).map (fun t => t.num)) } := by
  unfold Sm.forget dropA
  rw [List.foldl_map]
  rfl
end Go.Proofs.YthaoedfalkebbaaGreat
namespace Go.Proofs.YthaoedfalkebbaaGreat
open Go.RowKit Go.Maps Go.Sort Go.Lib Go.Shelf Go.Proofs.YthaoedfalkebbaaGreatW.PrintWords Go.Proofs.YthaoedfalkebbaaGreatW.PrintLast Go.Proofs.YthaoedfalkebbaaGreatW.PrintMore
set_option linter.unusedVariables false
set_option linter.unusedSimpArgs false
set_option linter.unusedSectionVars false
section
variable {P : Program} {α β : Type} {k : TypeId} {mk : α → Value} {ok : α → Prop} {R : Value → Option (DataW Unit × List MemPlace)} {cd : β → DataW Unit}
theorem Rng.isIter {w : World} {b r n : Nat} {L rem : List (α × β)} (h : Rng P k mk ok R cd w b r n L rem) : ∃ m s se c, w.heap[r]? = some (.mapIter m s se c) := by
  obtain ⟨D, left, ⟨es, clock, since, seen, c0, _, _, _, _, h5, _⟩, _⟩ := h
  exact ⟨_, _, _, _, h5⟩
theorem Rng.move {w w' : World} {b r n : Nat} {L rem : List (α × β)} (h : Rng P k mk ok R cd w b r n L rem) (e1 : w'.heap[b]? = w.heap[b]?) (e2 : w'.heap[r]? = w.heap[r]?) : Rng P k mk ok R cd w' b r n L rem ∧ w'.rangeLeft b r = w.rangeLeft b r := by
  have el : w'.rangeLeft b r = w.rangeLeft b r := by unfold World.rangeLeft; rw [e1, e2]
  obtain ⟨D, left, h1, h2⟩ := h
  refine ⟨⟨D, left, ?_, h2⟩, el⟩
  rw [el]
  unfold World.ranges at h1 ⊢
  rw [e1, e2]
  exact h1
end
/-- what goes -/
def deadN (txs vis : List Tx) : List Int := (vis.filter (fun t => !keepB txs t)).map (fun t => t.num)
def curT (txs : List Tx) (ds : List Int) : List Tx := txs.filter (fun t => decide (t.num ∉ ds))
theorem curT_nil (txs : List Tx) : curT txs [] = txs := by unfold curT; exact List.filter_eq_self.2 (fun _ _ => by simp)
theorem dead_act {txs vis : List Tx} (hd : txs.Pairwise (fun a b => a.num < b.num)) (hv : ∀ t ∈ vis, t ∈ txs) {t : Tx} (ht : t ∈ txs) : t.num ∈ deadN txs vis ↔ t ∈ vis ∧ keepB txs t = false := by
  unfold deadN
  constructor
  · intro h
    obtain ⟨u, hu, e⟩ := List.mem_map.1 h
    obtain ⟨h1, h2⟩ := List.mem_filter.1 hu
    have : u = t := dist_inj hd (hv u h1) ht e
    subst this
    exact ⟨h1, by simpa using h2⟩
  · rintro ⟨h1, h2⟩
    exact List.mem_map.2 ⟨t, List.mem_filter.2 ⟨h1, by simp [h2]⟩, rfl⟩
/-- those under way stay -/
theorem cur_act {txs vis : List Tx} (hd : txs.Pairwise (fun a b => a.num < b.num)) (hv : ∀ t ∈ vis, t ∈ txs) : (curT txs (deadN txs vis)).filter (fun t => t.act) = txs.filter (fun t => t.act) := by
  unfold curT
  rw [List.filter_filter]
  apply List.filter_congr
  intro t ht
  cases ha : t.act with
  | false => simp
  | true =>
    have : t.num ∉ deadN txs vis := fun h => by
      have := ((dead_act hd hv ht).1 h).2
      unfold keepB at this
      rw [ha] at this
      cases this
    simp [this]
theorem forget_done {most : Int} {S : Sm St} {vis : List Tx} (hd : S.txs.Pairwise (fun a b => a.num < b.num)) (hp : vis.Perm S.txs) (hpos : ∀ t ∈ S.txs, 1 ≤ t.num) :
    ({ S with txs := curT S.txs (deadN S.txs vis), reads := dropA S.reads (deadN S.txs vis) } : Sm St) = S.forget (iS most) := by
  rw [forget_eq]
  have e1 : curT S.txs (deadN S.txs vis) = S.txs.filter (keepB S.txs) := by
    unfold curT
    apply List.filter_congr
    intro t ht
    have h := dead_act hd (fun u hu => hp.mem_iff.1 hu) ht
    have h2 : t ∈ vis := hp.mem_iff.2 ht
    cases hk : keepB S.txs t with
    | true =>
      have : t.num ∉ deadN S.txs vis := fun h3 => by have := (h.1 h3).2; rw [hk] at this; cases this
      simp [this]
    | false =>
      have : t.num ∈ deadN S.txs vis := h.2 ⟨h2, hk⟩
      simp [this]
  have e2 : dropA S.reads (deadN S.txs vis) = dropA S.reads ((S.txs.filter (fun t => !keepB S.txs t)).map (fun t => t.num)) := by
    refine dropA_perm ((hp.filter _).map _) S.reads (fun n hn => ?_)
    obtain ⟨t, ht, rfl⟩ := List.mem_map.1 hn
    exact hpos t (hp.mem_iff.1 (List.mem_filter.1 ht).1)
  rw [e1, e2]
def own3 (l : Loc) (k : Nat) : Prop := k = l.mb ∨ k = l.rp ∨ k = l.rb
def FoJ (w : World) (base : Nat) (l : Loc) (S : Sm St) (wr : World) : Prop :=
  ∃ vis rem : List Tx, (vis ++ rem).Perm S.txs ∧ RngT wr l.mb w.heap.size S.txs.length (txL l.Q (curT S.txs (deadN S.txs vis))) (txL l.Q rem) ∧ MrS wr base l.rp l.rb S.caps.reads (dropA S.reads (deadN S.txs vis)) ∧ Fr (own3 l) w wr
/-- the manager within forget -/
theorem FoJ.pm {w wr : World} {base : Nat} {l : Loc} {S : Sm St} (h : Pm w base l S) {vis : List Tx} {n : Nat} {rem' : List (Int × Option Nat)} (hr : RngT wr l.mb w.heap.size n (txL l.Q (curT S.txs (deadN S.txs vis))) rem') (hM : MrS wr base l.rp l.rb S.caps.reads (dropA S.reads (deadN S.txs vis))) (hF : Fr (own3 l) w wr) :
    Pm wr base l { S with txs := curT S.txs (deadN S.txs vis), reads := dropA S.reads (deadN S.txs vis) } := by
  refine h.turn hF (fun _ h => h) rfl rfl rfl rfl rfl List.filter_sublist ?_ hM
  have := hr.tab.exact
  have e : (txL l.Q (curT S.txs (deadN S.txs vis))).length = (curT S.txs (deadN S.txs vis)).length := by unfold txL; rw [List.length_map]
  rw [e] at this
  exact this
end Go.Proofs.YthaoedfalkebbaaGreat
namespace Go.Proofs.YthaoedfalkebbaaGreat
open Go.RowKit Go.Maps Go.Sort Go.Lib Go.Shelf Go.Proofs.YthaoedfalkebbaaGreatW.PrintWords Go.Proofs.YthaoedfalkebbaaGreatW.PrintLast Go.Proofs.YthaoedfalkebbaaGreatW.PrintMore
set_option linter.unusedVariables false
set_option linter.unusedSimpArgs false
set_option linter.unusedSectionVars false
def keptA (t : Tx) (ac : List Tx) : Bool   := ac.any (fun a => decide (a.begun < t.ended))
def L2J (W4 : World) (t : Tx) (ac : List Tx) (v4 v24 : Value) (wr : World) : Prop := ∃ i : Nat, v24 = .int .i64 (i : Int) ∧ i ≤ ac.length ∧ v4 = .bool (keptA t (ac.take i)) ∧ Below W4.heap.size W4 wr
theorem keptA_all {txs : List Tx} {t : Tx} (ha : t.act = false) : keptA t (txs.filter (fun a => a.act)) = keepB txs t := by
  unfold keptA keepB
  rw [ha, Bool.false_or, List.any_filter]
theorem dead_snoc (txs vis : List Tx) (t : Tx) : deadN txs (vis ++ [t]) = if keepB txs t = true then deadN txs vis else deadN txs vis ++ [t.num] := by
  unfold deadN
  rw [List.filter_append]
  cases h : keepB txs t <;> simp [h]
theorem curT_snoc (txs : List Tx) (ds : List Int) (n : Int) : curT txs (ds ++ [n]) = (curT txs ds).filter (fun u => decide (u.num ≠ n)) := by
  unfold curT
  rw [List.filter_filter]
  apply List.filter_congr
  intro u _
  by_cases h1 : u.num ∈ ds <;> by_cases h2 : u.num = n <;> simp [h1, h2]
theorem dropA_snoc (S : St) (ds : List Int) (n : Int) : dropA S (ds ++ [n]) = (dropP (dropA S ds) n).2 := by unfold dropA; rw [List.foldl_append]; rfl
set_option maxHeartbeats 16000000 in
set_option maxRecDepth 100000 in
theorem forget_s (base : Nat) (l : Loc) (S : Sm St) (w : World) (h : Pm w base l S) :
    Calls Tryz.prog 55 #[ptr l.p] w fun e w' => e = .returned (.tuple #[]) ∧ Pm w' base l (S.forget (iS S.caps.reads)) ∧ Fr (own3 l) w w' := by
  obtain ⟨_, _, _, _, _, _, _, c7, _, c9⟩ := h.cells
  obtain ⟨hk, k1, k2, k3, k4, k5, k6, k7, k8, k9, k10, k11, k12⟩ := h.kinds
  have hlt : l.p < w.heap.size := (Array.getElem?_eq_some_iff.1 h.head).1
  have hmlt : l.mb < w.heap.size := h.tab.lt
  have hrlt : l.rp < w.heap.size := h.reads.lt
  obtain ⟨w2, hrun, hRg, hg2, hs2⟩ := Tab.range (t := 86) keyN Tryz.underlying86 h.tab
  have hdist := h.dist
  have hpos : ∀ t ∈ S.txs, 1 ≤ t.num ∧ okN t.num := fun t ht => ⟨(h.nums t ht).1, (h.nums t ht).2.2⟩
  have hrblt : ∀ W, Fr (own3 l) w W → True := fun _ _ => trivial
  have CELL : ∀ W, Fr (own3 l) w W → W.cell? ⟨l.p, 7, none⟩ = some (.map (some l.mb)) ∧ W.cell? ⟨l.p, 9, none⟩ = some (ptr l.rp) := fun W F => by
    have no : ¬ own3 l l.p := fun h => by rcases h with e | e | e <;> omega
    exact ⟨F.cell c7 no, F.cell c9 no⟩
  have TXC : ∀ W, Fr (own3 l) w W → ∀ t ∈ S.txs, ∃ v, W.heap[l.Q t.num]? = some (txCells t v) := fun W F t ht => by
    obtain ⟨v, hv, _⟩ := h.tx t ht
    obtain ⟨q1, q2, q3, q4, q5, q6⟩ := hk t ht
    exact ⟨v, F.block _ _ (fun h => by rcases h with e | e | e <;> omega) hv⟩
  have QQ : ∀ a ∈ S.txs, ∀ t ∈ S.txs, (l.Q t.num = l.Q a.num ↔ t.num = a.num) := fun a ha t ht => h.q ha ht
  have PM : ∀ wr (vis : List Tx) (n : Nat) rem', RngT wr l.mb w.heap.size n (txL l.Q (curT S.txs (deadN S.txs vis))) rem' → MrS wr base l.rp l.rb S.caps.reads (dropA S.reads (deadN S.txs vis)) → Fr (own3 l) w wr → Pm wr base l { S with txs := curT S.txs (deadN S.txs vis), reads := dropA S.reads (deadN S.txs vis) } := fun wr vis n rem' a b c => FoJ.pm h a b c
  have J0 : FoJ w base l S w2 := by
    refine ⟨[], S.txs, List.Perm.refl _, by rw [show deadN S.txs [] = [] from rfl, curT_nil]; exact hRg, ?_, (Fr.grown hg2).mono (fun k hk _ => by cases hk)⟩
    exact h.reads.kept hg2
  have hne1 := h.ne1
  have hne2 := h.ne2
  have hne3 := h.ne3
  clear h hRg
  replace PM := Aside0.mk PM
  replace TXC := Aside0.mk TXC
  replace QQ := Aside0.mk QQ
  replace CELL := Aside0.mk CELL
  replace hdist := Aside0.mk hdist
  replace hpos := Aside0.mk hpos
  clear hk hrblt
  go_enter Tryz.func55, Tryz.ntmps55
  go_wp2_with fail
  go_loopw [2] (fun _ wr => FoJ w base l S wr) (fun _ wr => wr.rangeLeft l.mb w.heap.size)
  case atStart => exact J0
  case round =>
    clear J0
    obtain ⟨vis, rem, hpm, hr, hM, hF⟩ := hrel
    rcases hr.next keyN valQ 0 with ⟨hnil, hrun1⟩ | ⟨a, sv, w3, hmem, hok, hrun1, hr3, hlt3, hg3, hs3, hent⟩
    · have hrem : rem = [] := by
        cases rem with
        | nil => rfl
        | cons t rem => unfold txL at hnil; cases hnil
      subst hrem
      rw [List.append_nil] at hpm
      have K : Pm wr base l (S.forget (iS S.caps.reads)) ∧ Fr (own3 l) w wr := by
        refine ⟨?_, hF⟩
        rw [← forget_done (most := S.caps.reads) hdist.out hpm (fun t ht => (hpos.out t ht).1)]
        exact PM.out wr vis _ _ hr hM hF
      replace K := Aside0.mk K
      clear hnil hr hM hF hpm
      go_wp2
      go_end0
      exact ⟨rfl, K.out⟩
    · obtain ⟨t, ht, rfl, rfl⟩ := txL_mem hmem
      have htm : t ∈ S.txs := hpm.mem_iff.1 (List.mem_append_right _ ht)
      have hvm : ∀ u ∈ vis, u ∈ S.txs := fun u hu => hpm.mem_iff.1 (List.mem_append_left _ hu)
      rw [txL_filter] at hr3
      have hpn := tx_next (apart_txL hr.apart) hpm ht
      obtain ⟨m0, s0, se0, c0, hit⟩ := hr.isIter
      have hF3 : Fr (own3 l) w w3 := hF.trans (Fr.grown hg3) (fun k hk hlt => by injection hk with hk; omega)
      obtain ⟨sv1, sv2, sv3, sv4, sv5⟩ := hM
      have hrb : l.rb ≠ w.heap.size := by
        intro e
        obtain ⟨L, Mr0', _, _⟩ := sv1
        obtain ⟨es, cl, hmap⟩ := Mr0'.tab.isMap
        rw [e, hit] at hmap
        cases hmap
      have hM3 : MrS w3 base l.rp l.rb S.caps.reads (dropA S.reads (deadN S.txs vis)) := MrS.fr ⟨sv1, sv2, sv3, sv4, sv5⟩ (Fr.grown hg3) (fun e => by injection e with e; omega) (fun e => by injection e with e; exact hrb e.symm) (fun k c s hk hc => by injection hk with hk; rw [← hk, hit] at hc; cases hc)
      have P3 := PM.out w3 vis _ _ hr3 hM3 hF3
      obtain ⟨vt, hvt⟩ := TXC.out w3 hF3 t htm
      obtain ⟨_, _, t2, _⟩ := tx_cells hvt
      unfold mkN mvQ at hrun1 hent
      have keep3 : keepB S.txs t = true → ∀ W, Below w3.heap.size w3 W → FoJ w base l S W ∧ W.rangeLeft l.mb w.heap.size < wr.rangeLeft l.mb w.heap.size := by
        intro hkp W BW
        obtain ⟨hr7, el2⟩ := hr3.kept (grown_of_below BW none) (by simp) (by simp)
        have e : deadN S.txs (vis ++ [t]) = deadN S.txs vis := by rw [dead_snoc, if_pos hkp]
        refine ⟨⟨vis ++ [t], _, hpn, by rw [e]; exact hr7, by rw [e]; exact hM3.kept (grown_of_below BW none), hF3.trans (Fr.ofBelow (O := fun _ => False) BW) (fun _ h _ => h.elim)⟩, by rw [el2]; exact hlt3⟩
      clear sv1 sv2 sv3 sv4 sv5 hok hmem
      cases ha : t.act with
      | true =>
        rw [ha] at t2
        have F := keep3 (by unfold keepB; rw [ha]; rfl) w3 (Below.refl _ _)
        clear keep3 hr hr3 hM3 P3 hpn hF hF3 hlt3
        replace F := Aside0.mk F
        replace ha := Aside0.mk ha
        go_wp2
        exact F.out
      | false =>
        rw [ha] at t2
        have hact := cur_act hdist.out hvm
        have AC := Active_s base l _ w3 P3
        have hrow : actN (curT S.txs (deadN S.txs vis)) = (S.txs.filter (fun a => a.act)).map (fun a => a.num) := by unfold actN; rw [hact]
        replace AC : Calls Tryz.prog 26 #[ptr l.p] w3 fun e w' => ∃ v, e = .returned v ∧ dI.R 2 w' w3.heap.size (fun _ => True) v ((S.txs.filter (fun a => a.act)).map (fun a => a.num)) ∧ Below w3.heap.size w3 w' := by rw [← hrow]; exact AC
        obtain ⟨ac, hac⟩ : ∃ ac, ac = S.txs.filter (fun a => a.act) := ⟨_, rfl⟩
        rw [← hac] at AC
        have hacm : ∀ a ∈ ac, a ∈ S.txs ∧ a.act = true ∧ a ∈ curT S.txs (deadN S.txs vis) := fun a haa => by
          rw [hac, ← hact] at haa
          obtain ⟨h1, h2⟩ := List.mem_filter.1 haa
          exact ⟨(List.mem_filter.1 h1).1, h2, h1⟩
        have hacl : ac.length ≤ 65536 := by
          have h1 := P3.few
          have h2 : ac.length ≤ (curT S.txs (deadN S.txs vis)).length := by rw [hac, ← hact]; exact List.length_filter_le _ _
          exact Nat.le_trans h2 h1
        have LOOK : ∀ W, Below w3.heap.size w3 W → ∀ a ∈ ac, (Instr.lookup 86 (.map (some l.mb)) (.int .i64 a.num) false).run Tryz.prog W = .ok (ptr (l.Q a.num)) W := fun W BW a haa => by
          obtain ⟨h1, h2, h3⟩ := hacm a haa
          have hl := Tab.look1 (t := 86) (e := 99) keyN valQ Tryz.underlying86 (P3.below BW).tab (z := none) (zero99 W) (hpos.out a h1).2
          rw [got_tx] at hl
          have hd2 : (curT S.txs (deadN S.txs vis)).Pairwise (fun a b => a.num < b.num) := hdist.out.sublist List.filter_sublist
          rw [show (curT S.txs (deadN S.txs vis)).find? (fun u => u.num == a.num) = some a from find_num hd2 h3 rfl] at hl
          exact hl
        have CONC : ∀ W, Below w3.heap.size w3 W → ∀ a ∈ ac, Calls Tryz.prog 85 #[ptr (l.Q a.num), ptr (l.Q t.num)] W fun e w' => e = .returned (.bool (decide (a.begun < t.ended))) ∧ ∃ n, w' = W.drewN n := fun W BW a haa => by
          obtain ⟨h1, h2, h3⟩ := hacm a haa
          have hFW : Fr (own3 l) w W := hF3.trans (Fr.ofBelow (O := fun _ => False) BW) (fun _ h _ => h.elim)
          obtain ⟨v1, c1⟩ := TXC.out W hFW a h1
          obtain ⟨v2, c2⟩ := TXC.out W hFW t htm
          have hc := concurrent_c (l.Q a.num) (l.Q t.num) a t v1 v2 W c1 c2 (QQ.out a h1 t htm)
          have hne : ¬ t.num = a.num := fun e => by
            have := dist_inj hdist.out htm h1 e
            rw [this, h2] at ha
            cases ha
          have e : concB a t = decide (a.begun < t.ended) := by unfold concB; simp [hne, ha]
          rw [e] at hc
          exact hc
        have CEL : ∀ W, Below w3.heap.size w3 W → W.cell? ⟨l.p, 7, none⟩ = some (.map (some l.mb)) ∧ W.cell? ⟨l.p, 9, none⟩ = some (ptr l.rp) := fun W BW => CELL.out W (hF3.trans (Fr.ofBelow (O := fun _ => False) BW) (fun _ h _ => h.elim))
        have hkall : keptA t ac = keepB S.txs t := by rw [hac]; exact keptA_all ha
        have GO : keepB S.txs t = false → ∀ W, Below w3.heap.size w3 W → Calls Tryz.prog 54 #[ptr l.rp, .int .i64 t.num] W fun e w5 => (∃ k, e = .returned (.int .i64 k)) ∧ w5.cell? ⟨l.p, 7, none⟩ = some (.map (some l.mb)) ∧ ∃ w6, (Builtin.delete_ #[86, 2] 0 #[.map (some l.mb), .int .i64 t.num]).run Tryz.prog w5 = .ok (.tuple #[]) w6 ∧ FoJ w base l S w6 ∧ w6.rangeLeft l.mb w.heap.size < wr.rangeLeft l.mb w.heap.size := by
          intro hkp W BW
          obtain ⟨hrW, elW⟩ := hr3.kept (grown_of_below BW none) (by simp) (by simp)
          have hMW := hM3.kept (grown_of_below BW none)
          have hFW : Fr (own3 l) w W := hF3.trans (Fr.ofBelow (O := fun _ => False) BW) (fun _ h _ => h.elim)
          refine (Drop_S base l.rp l.rb S.caps.reads _ t.num W hMW).mono ?_
          rintro e w5 ⟨rfl, hM5, hB5⟩
          obtain ⟨es, cl, hmap⟩ := hrW.tab.isMap
          obtain ⟨m1, s1, se1, c1', hit1⟩ := hrW.isIter
          have hF5 : Fr (own3 l) w w5 := hFW.trans (Fr.ofBut hB5) (fun k hk _ => by rcases hk with e | e; exact .inr (.inl e); exact .inr (.inr e))
          obtain ⟨hr5, el5⟩ := hrW.move ((hB5.cells _ _ (fun e => k10 e.symm) hne2 hmap).trans hmap.symm) ((hB5.cells _ _ (by omega) (fun e => hrb e.symm) hit1).trans hit1.symm)
          obtain ⟨w6, hdel, hr6, hle6, hturn⟩ := hr5.drop (t := 86) (e := 99) keyN Tryz.underlying86 (hpos.out t htm).2 0
          refine ⟨⟨_, rfl⟩, (CELL.out w5 hF5).1, w6, hdel, ⟨vis ++ [t], _, hpn, ?_, ?_, ?_⟩, by rw [el5, elW] at hle6; omega⟩
          · have e : deadN S.txs (vis ++ [t]) = deadN S.txs vis ++ [t.num] := by rw [dead_snoc, if_neg (by rw [hkp]; decide)]
            rw [e, curT_snoc]
            rw [txL_filter, txL_filter, List.filter_filter] at hr6
            simp only [Bool.and_self] at hr6
            exact hr6
          · have e : deadN S.txs (vis ++ [t]) = deadN S.txs vis ++ [t.num] := by rw [dead_snoc, if_neg (by rw [hkp]; decide)]
            rw [e, dropA_snoc]
            obtain ⟨es5, cl5, hmap5⟩ := hr5.tab.isMap
            refine hM5.fr (Fr.grown (turned_grown hturn)) (fun e => by injection e with e; exact k10 e.symm) (fun e => by injection e with e; exact hne2 e) (fun k c s hk hc => ?_)
            injection hk with hk
            rw [← hk, hmap5] at hc
            cases hc
          · exact hF5.trans (Fr.grown (turned_grown hturn)) (fun k hk _ => by injection hk with hk; exact .inl hk.symm)
        clear hr hr3 hM3 P3 hpn hF hlt3 hact hrow hacm hit
        replace LOOK := Aside0.mk LOOK
        replace CONC := Aside0.mk CONC
        replace CEL := Aside0.mk CEL
        replace GO := Aside0.mk GO
        replace keep3 := Aside0.mk keep3
        replace hkall := Aside0.mk hkall
        replace hac := Aside0.mk hac
        replace ha := Aside0.mk ha
        replace hF3 := Aside0.mk hF3
        go_wp2_with fail
        refine AC.mono ?_
        rintro e W4 ⟨v, rfl, hv, B4⟩
        obtain ⟨A, c, rfl, hlc, hA⟩ := (Lo.ofR hv).slice
        have hln : (ac.map (fun a => a.num)).length = ac.length := List.length_map _
        have R4 := Lo.ofR hv
        rw [hln] at R4 hlc hA ⊢
        have J2 : L2J W4 t ac (.bool false) (.int .i64 0) W4 := ⟨0, rfl, Nat.zero_le _, rfl, Below.refl _ _⟩
        have hgl : ∀ k (hk : k < ac.length), (ac.map (fun a => a.num))[k]? = some ac[k].num := fun k hk => by rw [List.getElem?_map, List.getElem?_eq_getElem hk]; rfl
        replace hgl := Aside0.mk hgl
        clear hv AC t2
        go_wp2_with fail
        go_loopw [4, 24] (fun v4 v24 wr => L2J W4 t ac v4 v24 wr) (fun _ v24 _ => ac.length - (intOf v24).toNat)
        case atStart => exact J2
        case round =>
          clear J2
          obtain ⟨i, rfl, hi, rfl, B⟩ := hrel
          have B34 := below_then B4 B4.size B
          obtain ⟨d7, d9⟩ := CEL.out wr B34
          by_cases hlt : i < ac.length
          · have hil : (i : Int) < (ac.length : Int) := by omega
            obtain ⟨g, rfl, _⟩ := hA (by omega)
            have y0 := RowI.at (R4.grown (grown_of_below B none) (by simp)) i _ (hgl.out i hlt)
            have hmem := List.getElem_mem hlt
            have LK := LOOK.out wr B34 ac[i] hmem
            have CC := CONC.out wr B34 ac[i] hmem
            have hst : keptA t (ac.take (i + 1)) = (keptA t (ac.take i) || decide (ac[i].begun < t.ended)) := by
              unfold keptA
              rw [List.take_succ_eq_append_getElem hlt, List.any_append]
              simp
            have fin : ∀ b W, Below wr.heap.size wr W → b = keptA t (ac.take (i + 1)) → L2J W4 t ac (.bool b) (.int .i64 ((i : Int) + 1)) W := fun b W BX hb => ⟨i + 1, by simp, by omega, by rw [hb], below_then B B.size BX⟩
            rw [hst] at fin
            generalize ac[i] = a at y0 LK CC fin
            generalize l.Q a.num = qa at LK CC
            clear hst hmem
            cases hb : keptA t (ac.take i) with
            | true =>
              have F := fin true wr (Below.refl _ _) (by rw [hb]; rfl)
              clear fin
              replace F := Aside0.mk F
              replace hb := Aside0.mk hb
              go_wp2
              refine ⟨F.out, ?_⟩
              simp [intOf]
              omega
            | false =>
              have F := fun W BX => fin (decide (a.begun < t.ended)) W BX (by rw [hb]; rfl)
              clear fin
              replace F := Aside0.mk F
              replace hb := Aside0.mk hb
              go_wp2_with fail
              refine CC.mono ?_
              rintro e W5 ⟨rfl, n, hWn⟩
              have F2 := F.out W5 (by rw [hWn]; exact (Below.refl _ wr).grown (drewNG wr n) (Nat.le_refl _) (by simp))
              generalize decide (a.begun < t.ended) = bb at F2 ⊢
              clear F LK CC y0 hWn
              replace F2 := Aside0.mk F2
              go_wp2
              refine ⟨F2.out, ?_⟩
              simp [intOf]
              omega
          · have hie : i = ac.length := by omega
            have hge : ¬ (i : Int) < (ac.length : Int) := by omega
            rw [hie, List.take_length, hkall.out]
            replace hie := Aside0.mk hie
            cases hkp : keepB S.txs t with
            | true =>
              have F := keep3.out hkp wr B34
              clear keep3 GO LOOK CONC
              replace F := Aside0.mk F
              replace hkp := Aside0.mk hkp
              go_wp2
              exact F.out
            | false =>
              have G := GO.out hkp wr B34
              clear keep3 GO LOOK CONC
              replace hkp := Aside0.mk hkp
              go_wp2_with fail
              refine G.mono ?_
              rintro e w5 ⟨⟨kk, rfl⟩, e7, w6, hdel, hJ, hlt6⟩
              clear G d7 d9
              replace hJ := Aside0.mk hJ
              replace hlt6 := Aside0.mk hlt6
              go_wp2
              exact ⟨hJ.out, hlt6.out⟩
end Go.Proofs.YthaoedfalkebbaaGreat
namespace Go.Proofs.YthaoedfalkebbaaGreat
open Go.RowKit Go.Maps Go.Sort Go.Lib Go.Shelf Go.Proofs.YthaoedfalkebbaaGreatW.PrintWords Go.Proofs.YthaoedfalkebbaaGreatW.PrintLast Go.Proofs.YthaoedfalkebbaaGreatW.PrintMore
set_option linter.unusedVariables false
set_option linter.unusedSimpArgs false
set_option linter.unusedSectionVars false
/-- some go, notes and locks with them -/
theorem Pm.turn2 {w w' : World} {base : Nat} {l : Loc} {S S' : Sm St} {O : Nat → Prop} (h : Pm w base l S) (f : Fr O w w') (hO : ∀ k, O k → k = l.mb ∨ k = l.rp ∨ k = l.rb ∨ k = l.lb) (e1 : S'.caps = S.caps) (e2 : S'.now = S.now) (e3 : S'.last = S.last) (e4 : S'.clock = S.clock) (hs : S'.txs.Sublist S.txs)
    (ht : TabT w' l.mb S'.txs.length (txL l.Q S'.txs)) (hr : MrS w' base l.rp l.rb S.caps.reads S'.reads) (hl : Lck.Mg w' l.lp l.lb S.caps.locks S'.locks) : Pm w' base l S' := by
  obtain ⟨hk, k1, k2, k3, k4, k5, k6, k7, k8, k9, k10, k11, k12⟩ := h.kinds
  have hm : ∀ t, t ∈ S'.txs → t ∈ S.txs := fun t ht => hs.subset ht
  have no : ∀ k, (k ≠ l.mb ∧ k ≠ l.rp ∧ k ≠ l.rb ∧ k ≠ l.lb) → ¬ O k := fun k hk h => by
    rcases hO k h with e | e | e | e
    · exact hk.1 e
    · exact hk.2.1 e
    · exact hk.2.2.1 e
    · exact hk.2.2.2 e
  obtain ⟨es1, c1, hmap⟩ := h.tab.isMap
  obtain ⟨cr, sr, hrr⟩ := h.reads.is55
  obtain ⟨⟨L, M, _, _⟩, _⟩ := h.reads
  obtain ⟨e3', c3', hrm⟩ := M.tab.isMap
  obtain ⟨D, ⟨es, clock, hlm, _⟩, _⟩ := h.locks.tab
  constructor
  · have := f.block _ _ (no l.p ⟨k1, k4, k5, k3⟩) h.head
    unfold hdCells at this ⊢
    rw [e1, e2, e3, e4]
    exact this
  · exact ht
  · intro t htm
    obtain ⟨v, h1, ws, h2, h3⟩ := h.tx t (hm t htm)
    obtain ⟨q1, q2, q3, q4, q5, q6⟩ := hk t (hm t htm)
    refine ⟨v, f.block _ _ (no _ ⟨q2, q5, q6, q4⟩) h1, ws, h2.move fun g hg => ?_, h3⟩
    obtain ⟨_, _, cells, hc⟩ := h2.typed g hg
    refine (f.block g _ (no g ⟨fun e => ?_, fun e => ?_, fun e => ?_, fun e => ?_⟩) hc).trans hc.symm
    · rw [e, hmap] at hc; cases hc
    · rw [e, hrr] at hc; simp at hc
    · rw [e, hrm] at hc; cases hc
    · rw [e, hlm] at hc; cases hc
  · exact fun t ht u hu e => h.qinj t (hm t ht) u (hm u hu) e
  · rw [e1]; exact hl
  · obtain ⟨c, s, hc⟩ := h.lkind
    exact ⟨c, s, f.block _ _ (no _ ⟨k6, k8, k9, k7⟩) hc⟩
  · rw [e1]; exact hr
  · exact h.dist.sublist hs
  · intro t ht
    rw [e3]
    exact h.nums t (hm t ht)
  · exact Nat.le_trans hs.length_le h.few
  · exact h.ne1
  · exact h.ne2
  · exact h.ne3
  · exact ⟨h.low.1, h.low.2.1, h.low.2.2.1, h.low.2.2.2.1, h.low.2.2.2.2.1, fun t ht => h.low.2.2.2.2.2 t (hm t ht)⟩
def own4 (l : Loc) (k : Nat) : Prop := k = l.mb ∨ k = l.rp ∨ k = l.rb ∨ k = l.lb
theorem Fr.drewN {O : Nat → Prop} (w : World) (n : Nat) : Fr O w (w.drewN n) := ⟨rfl, rfl, rfl, Nat.le_refl _, fun _ _ _ h => h⟩
theorem drewB2 (w : World) (n : Nat) : Below w.heap.size w (w.drewN n) := (Below.refl _ w).grown (drewNG w n) (Nat.le_refl _) (by simp)
set_option maxHeartbeats 16000000 in
set_option maxRecDepth 100000 in
theorem gone_s (base : Nat) (l : Loc) (S : Sm St) (t : Tx) (w : World) (h : Pm w base l S) (ht : t ∈ S.txs) (hlk : S.locks.length ≤ 4096) :
    Calls Tryz.prog 43 #[ptr l.p, ptr (l.Q t.num)] w fun e w' => e = .returned (.tuple #[]) ∧ Pm w' base l (S.gone (iS S.caps.reads) t.num) ∧ Fr (own4 l) w w' := by
  obtain ⟨_, _, _, _, _, _, _, c7, c8, c9⟩ := h.cells
  obtain ⟨hk, k1, k2, k3, k4, k5, k6, k7, k8, k9, k10, k11, k12⟩ := h.kinds
  obtain ⟨q1, q2, q3, q4, q5, q6⟩ := hk t ht
  obtain ⟨vt, hvt, _⟩ := h.tx t ht
  obtain ⟨t0, _⟩ := tx_cells hvt
  have hok := (h.nums t ht).2.2
  have CELL : ∀ W, Fr (own4 l) w W → W.cell? ⟨l.p, 7, none⟩ = some (.map (some l.mb)) ∧ W.cell? ⟨l.p, 8, none⟩ = some (ptr l.lp) ∧ W.cell? ⟨l.p, 9, none⟩ = some (ptr l.rp) ∧ W.cell? ⟨l.Q t.num, 0, none⟩ = some (.int .i64 t.num) := fun W F => by
    have no : ¬ own4 l l.p := fun h => by rcases h with e | e | e | e <;> omega
    have no2 : ¬ own4 l (l.Q t.num) := fun h => by rcases h with e | e | e | e <;> omega
    exact ⟨F.cell c7 no, F.cell c8 no, F.cell c9 no, F.cell t0 no2⟩
  have R1 : ∀ n, Calls Tryz.prog 53 #[ptr l.lp, .int .i64 t.num] (w.drewN n) fun e w1 => (∃ k, e = .returned (.int .i64 k)) ∧ Lck.Mg w1 l.lp l.lb S.caps.locks (S.locks.filter (fun p => p.2 ≠ t.num)) ∧ Fr (fun k => k = l.lb) w w1 := fun n => by
    have hM := (h.below (drewB2 w n)).locks
    refine (Lck.Release_calls l.lp l.lb S.caps.locks S.locks t.num (w.drewN n) hM hlk).mono ?_
    rintro e w1 ⟨rfl, h1, h2⟩
    exact ⟨⟨_, rfl⟩, h1, (Fr.drewN w n).trans (Fr.grown h2) (fun k hk _ => by injection hk with hk; exact hk.symm)⟩
  have R2 : ∀ w1, Fr (fun k => k = l.lb) w w1 → ∀ n, Calls Tryz.prog 54 #[ptr l.rp, .int .i64 t.num] (w1.drewN n) fun e w2 => (∃ k, e = .returned (.int .i64 k)) ∧ MrS w2 base l.rp l.rb S.caps.reads (dropP S.reads t.num).2 ∧ Fr (fun k => k = l.rp ∨ k = l.rb) w1 w2 := fun w1 F1 n => by
    have hM1 : MrS w1 base l.rp l.rb S.caps.reads S.reads := h.reads.fr F1 (fun e => k11 e) (fun e => h.ne3 e.symm) (fun k c s hk hc => by
      obtain ⟨D, ⟨es, clock, hlm, _⟩, _⟩ := h.locks.tab
      have hk : k = l.lb := hk
      rw [hk, hlm] at hc; cases hc)
    refine (Drop_S base l.rp l.rb S.caps.reads S.reads t.num (w1.drewN n) (hM1.kept (drewNG w1 n))).mono ?_
    rintro e w2 ⟨rfl, h1, h2⟩
    exact ⟨⟨_, rfl⟩, h1, (Fr.drewN w1 n).trans (Fr.ofBut h2) (fun k hk _ => hk)⟩
  have R3 : ∀ w1 w2, Lck.Mg w1 l.lp l.lb S.caps.locks (S.locks.filter (fun p => p.2 ≠ t.num)) → Fr (fun k => k = l.lb) w w1 → MrS w2 base l.rp l.rb S.caps.reads (dropP S.reads t.num).2 → Fr (fun k => k = l.rp ∨ k = l.rb) w1 w2 →
      ∃ w3, (Builtin.delete_ #[86, 2] 0 #[.map (some l.mb), .int .i64 t.num]).run Tryz.prog w2.drew = .ok (.tuple #[]) w3 ∧ Fr (own4 l) w w3 ∧ Pm w3 base l { S with locks := S.locks.filter (fun p => p.2 != t.num), reads := (dropP S.reads t.num).2, txs := S.txs.filter (fun u => u.num != t.num) } := by
    intro w1 w2 hL1 F1 hM2 F2
    have F12 : Fr (own4 l) w w2 := (F1.mono (fun k hk _ => .inr (.inr (.inr hk)))).trans F2 (fun k hk _ => by rcases hk with e | e; exact .inr (.inl e); exact .inr (.inr (.inl e)))
    have F12d : Fr (own4 l) w w2.drew := F12.trans (Fr.drewN (O := fun _ => False) w2 1) (fun _ h _ => h.elim)
    have T2 : TabT w2.drew l.mb S.txs.length (txL l.Q S.txs) := by
      have T1 := h.tab.fr F1 (fun e => h.ne1 e)
      have := T1.fr F2 (fun e => by rcases e with e | e; exact k10 e.symm; exact h.ne2 e)
      exact this.fr (Fr.drewN (O := fun _ => False) w2 1) (fun h => h)
    obtain ⟨w3, hdel, T3, hturn⟩ := T2.drop (t := 86) (e := 99) keyN Tryz.underlying86 hok 0
    obtain ⟨es5, cl5, hmap5⟩ := T2.isMap
    have G3 := Fr.grown (turned_grown hturn)
    have F3 : Fr (own4 l) w w3 := F12d.trans G3 (fun k hk _ => by injection hk with hk; exact .inl hk.symm)
    refine ⟨w3, hdel, F3, h.turn2 F3 (fun _ h => h) rfl rfl rfl rfl List.filter_sublist ?_ ?_ ?_⟩
    · rw [txL_filter] at T3
      have T4 := T3.exact
      have e : S.txs.filter (fun u => decide (u.num ≠ t.num)) = S.txs.filter (fun u => u.num != t.num) := List.filter_congr (fun u _ => by by_cases h : u.num = t.num <;> simp [h])
      rw [e] at T4
      have e2 : (txL l.Q (S.txs.filter (fun u => u.num != t.num))).length = (S.txs.filter (fun u => u.num != t.num)).length := by unfold txL; rw [List.length_map]
      rw [e2] at T4
      exact T4
    · have hMd : MrS w2.drew base l.rp l.rb S.caps.reads (dropP S.reads t.num).2 := hM2.kept (drewG w2)
      refine hMd.fr G3 (fun e => by injection e with e; exact k10 e.symm) (fun e => by injection e with e; exact h.ne2 e) (fun k c s hk hc => ?_)
      injection hk with hk
      rw [← hk, hmap5] at hc
      cases hc
    · have e : S.locks.filter (fun p => decide (p.2 ≠ t.num)) = S.locks.filter (fun p => p.2 != t.num) := List.filter_congr (fun p _ => by by_cases h : p.2 = t.num <;> simp [h])
      rw [← e]
      have L2 := hL1.fr F2 (fun e => by rcases e with e | e; exact k8 e; exact k9 e) (fun e => by rcases e with e | e; exact k11 e.symm; exact h.ne3 e)
      have L2d := L2.fr (Fr.drewN (O := fun _ => False) w2 1) (fun h => h) (fun h => h)
      exact L2d.fr G3 (fun e => by injection e with e; exact k6 e.symm) (fun e => by injection e with e; exact h.ne1 e)
  have R4 : ∀ w3, Fr (own4 l) w w3 → Pm w3 base l { S with locks := S.locks.filter (fun p => p.2 != t.num), reads := (dropP S.reads t.num).2, txs := S.txs.filter (fun u => u.num != t.num) } → Calls Tryz.prog 55 #[ptr l.p] w3 fun e w' => e = .returned (.tuple #[]) ∧ Pm w' base l (S.gone (iS S.caps.reads) t.num) ∧ Fr (own4 l) w w' := fun w3 F3 P3 => by
    refine (forget_s base l _ w3 P3).mono ?_
    rintro e w' ⟨rfl, h1, h2⟩
    exact ⟨rfl, h1, F3.trans h2 (fun k hk _ => by rcases hk with e | e | e; exact .inl e; exact .inr (.inl e); exact .inr (.inr (.inl e)))⟩
  have F0 := fun w1 (F1 : Fr (fun k => k = l.lb) w w1) => F1.mono (O2 := own4 l) (fun k hk _ => .inr (.inr (.inr hk)))
  have F00 := fun w1 w2 (F1 : Fr (fun k => k = l.lb) w w1) (F2 : Fr (fun k => k = l.rp ∨ k = l.rb) w1 w2) => (F0 w1 F1).trans F2 (fun k hk _ => by rcases hk with e | e; exact .inr (.inl e); exact .inr (.inr (.inl e)))
  clear h hk hvt q1 q2 q3 q4 q5 q6 k1 k2 k3 k4 k5 k6 k7 k8 k9 k10 k11 k12 hok ht hlk
  replace CELL := Aside0.mk CELL
  replace R2 := Aside0.mk R2
  replace R3 := Aside0.mk R3
  replace R4 := Aside0.mk R4
  replace F0 := Aside0.mk F0
  replace F00 := Aside0.mk F00
  generalize hqt : l.Q t.num = qt at *
  replace hqt := Aside0.mk hqt
  go_enter Tryz.func43, Tryz.ntmps43
  go_wp2_with fail
  go_region_held3 (fun V => V.cell? ⟨l.p, 8, none⟩ = some (ptr l.lp) ∧ V.cell? ⟨qt, 0, none⟩ = some (.int .i64 t.num)) (first | exact ⟨c8, t0⟩ | exact ⟨K9.2.1, K9.2.2.2⟩)
    ((go_at_call 53; refine (R1 _).mono ?_; rintro e w1 ⟨⟨kk, rfl⟩, hL1, hF1⟩; have K9 := CELL.out w1 (F0.out w1 hF1)))
  clear R1 c7 c8 c9 t0
  obtain ⟨d7, d8, d9, e0⟩ := K9
  have R2 := R2.out w1 hF1
  go_wp2_with fail
  go_region_held3 (fun V => V.cell? ⟨l.p, 9, none⟩ = some (ptr l.rp) ∧ V.cell? ⟨qt, 0, none⟩ = some (.int .i64 t.num)) (first | exact ⟨d9, e0⟩ | exact ⟨K10.2.2.1, K10.2.2.2⟩)
    ((go_at_call 54; refine (R2 _).mono ?_; rintro e w2 ⟨⟨kk2, rfl⟩, hM2, hF2⟩; have K10 := CELL.out w2 (F00.out w1 w2 hF1 hF2)))
  clear R2 d7 d8 d9 e0
  obtain ⟨d7, d8, d9, e0⟩ := K10
  obtain ⟨w3, hdel, hF3, P3⟩ := R3.out w1 w2 hL1 hF1 hM2 hF2
  have R4 := R4.out w3 hF3 P3
  obtain ⟨g7, _, _, g0⟩ := CELL.out w3 hF3
  clear P3 hF3 hM2 hF2 hL1 hF1
  go_wp2_with fail
  go_region_held3 (fun V => V.cell? ⟨l.p, 7, none⟩ = some (.map (some l.mb)) ∧ V.cell? ⟨qt, 0, none⟩ = some (.int .i64 t.num)) (first | exact ⟨d7, e0⟩ | exact ⟨g7, g0⟩) (fail)
  clear hdel d7 d8 d9 e0 g7 g0
  go_wp2_with fail
  refine R4.mono ?_
  rintro e w4 ⟨rfl, hP, hF⟩
  replace hP := Aside0.mk hP
  replace hF := Aside0.mk hF
  go_wp2
  go_end0
  exact ⟨rfl, hP.out, hF.out⟩
end Go.Proofs.YthaoedfalkebbaaGreat
namespace Go.Proofs.YthaoedfalkebbaaGreat
open Go.RowKit Go.Maps Go.Sort Go.Lib Go.Shelf Go.Proofs.YthaoedfalkebbaaGreatW.PrintWords Go.Proofs.YthaoedfalkebbaaGreatW.PrintLast Go.Proofs.YthaoedfalkebbaaGreatW.PrintMore
set_option linter.unusedVariables false
set_option linter.unusedSimpArgs false
set_option linter.unusedSectionVars false
abbrev RowL (w : World) (base : Nat) (v : Value) (xs : List Lk) : Prop := Lo Lck.cellsL 2 23 w base v xs
theorem RowL.at {w : World} {base g n c : Nat} {xs : List Lk} (h : RowL w base (.slice (some ⟨g, 0, none⟩) n c) xs) (j : Nat) (x : Lk) (hj : xs[j]? = some x) :
    w.cell? ⟨g, j * 2, none⟩ = some (.string x.1) ∧ w.cell? ⟨g, j * 2 + 1, none⟩ = some (.string x.2) := by
  have H := h.cell (fun _ => rfl) rfl j x hj
  exact ⟨by simpa using H 0 _ rfl, H 1 _ rfl⟩
def PredL (w : World) (g : Nat) (lb : Array Value) (p : Lk → Bool) (xs : List Lk) : Prop :=
  ∀ (W : World) (x : Lk), x ∈ xs → Below w.heap.size w W → Calls Tryz.prog g (#[.agg #[.string x.1, .string x.2]] ++ lb) W fun e w' => e = .returned (.bool (p x)) ∧ Below W.heap.size W w'
def idxL (p : Lk → Bool) (xs : List Lk) : Int := if xs.findIdx p < xs.length then xs.findIdx p else -1
theorem idxL_hit {p : Lk → Bool} {xs : List Lk} {j : Nat} (hj : j < xs.length) (h : p xs[j] = true) (hn : ∀ i (hi : i < xs.length), i < j → p xs[i] = false) : xs.findIdx p = j := by
  rw [List.findIdx_eq hj]
  exact ⟨h, fun i hi => hn i (by omega) hi⟩
theorem idxL_none {p : Lk → Bool} {xs : List Lk} (h : ∀ i (hi : i < xs.length), p xs[i] = false) : xs.findIdx p = xs.length := by
  rw [List.findIdx_eq_length]
  intro x hx
  obtain ⟨i, hi, rfl⟩ := List.getElem_of_mem hx
  exact h i hi
set_option maxHeartbeats 4000000 in
set_option maxRecDepth 100000 in
theorem IndexFuncL_calls (base : Nat) (v : Value) (xs : List Lk) (p : Lk → Bool) (g : Nat) (lb : Array Value) (eg : ∀ args w, (callFunc g args).run Tryz.prog w = .ok (.enter g args) w) (w : World) (h : RowL w base v xs) (hl : xs.length ≤ 9223372036854775806) (hp : PredL w g lb p xs) :
    Calls Tryz.prog 163 #[v, .func (.func g) #[] lb] w fun e w' => e = .returned (.int .i64 (idxL p xs)) ∧ Below w.heap.size w w' := by
  obtain ⟨A, c, rfl, hlc, hA⟩ := h.slice
  go_enter Tryz.func163, Tryz.ntmps163
  go_wp2_with fail
  go_loopw [5, 8] (fun _ iv wr => ∃ j : Nat, j ≤ xs.length ∧ iv = .int .i64 j ∧ RowL wr base (.slice A xs.length c) xs ∧ Below w.heap.size w wr ∧ (∀ i (hi : i < xs.length), i < j → p xs[i] = false)) (fun _ iv _ => xs.length - (intOf iv).toNat)
  case atStart => exact ⟨0, Nat.zero_le _, rfl, h, Below.refl _ _, fun i _ hi => by omega⟩
  case round =>
    clear h
    obtain ⟨j, hj, rfl, h, hb, hn⟩ := hrel
    by_cases hjl : j < xs.length
    · obtain ⟨k, rfl, _⟩ := hA (by omega)
      obtain ⟨y0, y1⟩ := RowL.at h j xs[j] (List.getElem?_eq_getElem hjl)
      have hcall := hp wr xs[j] (List.getElem_mem hjl) hb
      have hx := idxL_hit (p := p) hjl
      generalize hy : xs[j] = x at y0 y1 hcall hx
      replace hy := Aside0.mk hy
      replace hn := Aside0.mk hn
      replace h := Aside0.mk h
      cases hq : p x with
      | true =>
        rw [hq] at hcall
        go_wp2_with (go_at_fn g; refine hcall.mono ?_; rintro e w' ⟨rfl, hb'⟩)
        go_ret
        have := hx hq hn.out
        exact ⟨by rw [idxL, this, if_pos hjl]; rfl, below_then hb hb.size hb'⟩
      | false =>
        rw [hq] at hcall
        go_wp2_with (go_at_fn g; refine hcall.mono ?_; rintro e w' ⟨rfl, hb'⟩)
        go_roundw
        case rel =>
          refine ⟨j + 1, by omega, by go_num, h.out.grown (grown_of_below hb' none) (by simp), below_then hb hb.size hb', fun i hi hij => ?_⟩
          rcases Nat.lt_or_ge i j with h1 | h1
          · exact hn.out i hi h1
          · obtain rfl : i = j := by omega
            rw [hy.out]; exact hq
        case measure => simp [intOf]; omega
    · obtain rfl : j = xs.length := by omega
      have := idxL_none (p := p) (xs := xs) fun i hi => hn i hi hi
      go_wp2
      go_ret
      exact ⟨by rw [idxL, this, if_neg (by omega)]; rfl, hb⟩
theorem idxL_any (p : Lk → Bool) (xs : List Lk) : decide (0 ≤ idxL p xs) = xs.any p := by
  unfold idxL
  cases h : xs.any p with
  | true =>
    rw [if_pos (List.findIdx_lt_length.2 (by simpa using h))]
    simp
  | false =>
    rw [if_neg (by
      rw [List.findIdx_lt_length]
      rintro ⟨x, hx, h2⟩
      have : xs.any p = true := List.any_eq_true.2 ⟨x, hx, h2⟩
      rw [h] at this; cases this)]
    simp
set_option maxHeartbeats 4000000 in
set_option maxRecDepth 100000 in
theorem ContainsFuncL_calls (base : Nat) (v : Value) (xs : List Lk) (p : Lk → Bool) (g : Nat) (lb : Array Value) (eg : ∀ args w, (callFunc g args).run Tryz.prog w = .ok (.enter g args) w) (w : World) (h : RowL w base v xs) (hl : xs.length ≤ 9223372036854775806) (hp : PredL w g lb p xs) :
    Calls Tryz.prog 133 #[v, .func (.func g) #[] lb] w fun e w' => e = .returned (.bool (xs.any p)) ∧ Below w.heap.size w w' := by
  have C := IndexFuncL_calls base v xs p g lb eg w h hl hp
  rw [← idxL_any]
  clear h hp eg
  generalize idxL p xs = i at C ⊢
  go_enter Tryz.func133, Tryz.ntmps133
  go_wp2_with (go_at_call 163; refine C.mono ?_; rintro e w' ⟨rfl, hb⟩)
  go_ret
  exact ⟨rfl, hb⟩
theorem enters134 : ∀ args w, (callFunc 134 args).run Tryz.prog w = .ok (.enter 134 args) w := enters_of Tryz.func134 (by kernel_rfl) rfl
theorem isEmpty_eq (l : List UInt8) : (l == []) = l.isEmpty := by cases l <;> rfl
set_option maxHeartbeats 4000000 in
set_option maxRecDepth 100000 in
theorem pred134 (tb f u : ByteArray) (b1 b2 b3 : Nat) (xs : List Lk) (w : World) (hb : b1 < w.heap.size ∧ b2 < w.heap.size ∧ b3 < w.heap.size) (h1 : w.cell? ⟨b1, 0, none⟩ = some (.string tb)) (h2 : w.cell? ⟨b2, 0, none⟩ = some (.string f)) (h3 : w.cell? ⟨b3, 0, none⟩ = some (.string u)) :
    PredL w 134 #[ptr b1, ptr b2, ptr b3] (fun l => eqS l.1 tb && inR l.2 f u) xs := by
  intro W x hx B
  obtain ⟨q1, q2, q3⟩ := hb
  have c1 : W.cell? ⟨b1, 0, none⟩ = some (.string tb) := (B.cell (p := ⟨b1, 0, none⟩) q1).trans h1
  have c2 : W.cell? ⟨b2, 0, none⟩ = some (.string f) := (B.cell (p := ⟨b2, 0, none⟩) q2).trans h2
  have c3 : W.cell? ⟨b3, 0, none⟩ = some (.string u) := (B.cell (p := ⟨b3, 0, none⟩) q3).trans h3
  obtain ⟨w1, hw1⟩ : ∃ w1, w1 = W.alloc (.cells #[.string x.1, .string x.2] 23) := ⟨_, rfl⟩
  have B1 : Below W.heap.size W w1 := by rw [hw1]; exact (Below.refl _ W).alloc (Nat.le_refl _) _
  have oy : w1.heap[W.heap.size]? = some (.cells #[.string x.1, .string x.2] 23 (0, 0)) := by rw [hw1]; exact heap_alloc_new W _
  have y0 : w1.cell? ⟨W.heap.size, 0, none⟩ = some (.string x.1) := by simp [World.cell?, oy]
  have y1 : w1.cell? ⟨W.heap.size, 1, none⟩ = some (.string x.2) := by simp [World.cell?, oy]
  have d1 : w1.cell? ⟨b1, 0, none⟩ = some (.string tb) := (B1.cell (p := ⟨b1, 0, none⟩) (by have := B.size; show b1 < _; omega)).trans c1
  have d2 : w1.cell? ⟨b2, 0, none⟩ = some (.string f) := (B1.cell (p := ⟨b2, 0, none⟩) (by have := B.size; show b2 < _; omega)).trans c2
  have d3 : w1.cell? ⟨b3, 0, none⟩ = some (.string u) := (B1.cell (p := ⟨b3, 0, none⟩) (by have := B.size; show b3 < _; omega)).trans c3
  have hleq := leq_less f.toList x.2.toList
  show Calls Tryz.prog 134 #[.agg #[.string x.1, .string x.2], ptr b1, ptr b2, ptr b3] W fun e w' => e = .returned (.bool (eqS x.1 tb && inR x.2 f u)) ∧ Below W.heap.size W w'
  clear oy c1 c2 c3 h1 h2 h3 q1 q2 q3
  go_enter Tryz.func134, Tryz.ntmps134
  go_upto_region 1 with (fail)
  rw [← hw1]
  clear hw1
  go_wp2
  all_goals
    go_ret
    refine ⟨?_, B1⟩
    clear B1 B
    simp_all [eqS, inR, leq_less, leq_iff]
end Go.Proofs.YthaoedfalkebbaaGreat
namespace Go.Proofs.YthaoedfalkebbaaGreat
open Go.RowKit Go.Maps Go.Sort Go.Lib Go.Shelf Go.Proofs.YthaoedfalkebbaaGreatW.PrintWords Go.Proofs.YthaoedfalkebbaaGreatW.PrintLast Go.Proofs.YthaoedfalkebbaaGreatW.PrintMore
set_option linter.unusedVariables false
set_option linter.unusedSimpArgs false
set_option linter.unusedSectionVars false
theorem RowL.later {w w1 : World} {base : Nat} {v : Value} {xs : List Lk} (h : RowL w base v xs) (B : Below w.heap.size w w1) : RowL w1 base v xs := h.grown (grown_of_below B none) (by simp)
def eqB (a : Lk) (y : Lk) : Bool := decide (a = y)
set_option maxHeartbeats 4000000 in
set_option maxRecDepth 100000 in
theorem IndexL_calls (base : Nat) (v : Value) (xs : List Lk) (a : Lk) (w : World) (h : RowL w base v xs) (hl : xs.length ≤ 65536) :
    Calls Tryz.prog 86 #[v, .agg #[.string a.1, .string a.2]] w fun e w' => e = .returned (.int .i64 (idxL (eqB a) xs)) ∧ Below w.heap.size w w' := by
  obtain ⟨w1, hw1⟩ : ∃ w1, w1 = w.alloc (.cells #[.string a.1, .string a.2] 23) := ⟨_, rfl⟩
  have hB : Below w.heap.size w w1 := by rw [hw1]; exact (Below.refl _ w).alloc (Nat.le_refl _) _
  have hc1 : w1.cell? ⟨w.heap.size, 0, none⟩ = some (.string a.1) := by rw [hw1]; simp [go_sem]
  have hc2 : w1.cell? ⟨w.heap.size, 1, none⟩ = some (.string a.2) := by rw [hw1]; simp [go_sem]
  have h1 := h.later hB
  obtain ⟨A, c, rfl, hlc, hA⟩ := h.slice
  clear h
  go_enter Tryz.func86, Tryz.ntmps86
  go_upto_region 1 with (fail)
  rw [← hw1]
  clear hw1
  go_wp2_with fail
  go_loopw [5, 8] (fun _ iv wr => ∃ j : Nat, j ≤ xs.length ∧ iv = .int .i64 j ∧ RowL wr base (.slice A xs.length c) xs ∧ wr.cell? ⟨w.heap.size, 0, none⟩ = some (.string a.1) ∧ wr.cell? ⟨w.heap.size, 1, none⟩ = some (.string a.2) ∧ Below w.heap.size w wr ∧ (∀ i (hi : i < xs.length), i < j → eqB a xs[i] = false)) (fun _ iv _ => xs.length - (intOf iv).toNat)
  case atStart => exact ⟨0, Nat.zero_le _, rfl, h1, hc1, hc2, hB, fun i _ hi => by omega⟩
  case round =>
    clear h1 hc1 hc2 hB
    obtain ⟨j, hj, rfl, h, hc1, hc2, hb, hn⟩ := hrel
    by_cases hjl : j < xs.length
    · obtain ⟨g, rfl, _⟩ := hA (by omega)
      obtain ⟨y0, y1⟩ := RowL.at h j xs[j] (List.getElem?_eq_getElem hjl)
      have hx := idxL_hit (p := eqB a) hjl
      generalize hy : xs[j] = y at y0 y1 hx
      have heq : ∀ W, _ := fun W => Lck.eqLk a y W
      have e1 : eqB a y = decide (a = y) := rfl
      rw [← e1] at heq
      have h2 := h.grown (w1 := wr.drew) (row := none) ⟨rfl, rfl, rfl, Nat.le_refl _, fun _ _ _ => rfl⟩ (by simp)
      replace hy := Aside0.mk hy
      replace hn := Aside0.mk hn
      replace h := Aside0.mk h
      replace h2 := Aside0.mk h2
      replace e1 := Aside0.mk e1
      cases hq : eqB a y with
      | true =>
        rw [hq] at heq
        have hi := hx hq hn.out
        replace hi := Aside0.mk hi
        clear hx hq
        go_wp2_with fail
        go_region_held3 (fun W => W.cell? ⟨w.heap.size, 0, none⟩ = some (.string a.1) ∧ W.cell? ⟨w.heap.size, 1, none⟩ = some (.string a.2) ∧ W.cell? ⟨g, j * 2, none⟩ = some (.string y.1) ∧ W.cell? ⟨g, j * 2 + 1, none⟩ = some (.string y.2)) (exact ⟨hc1, hc2, y0, y1⟩) (fail)
        go_wp2
        go_ret
        exact ⟨by rw [idxL, hi.out, if_pos hjl]; rfl, hb.os, hb.tape, hb.output, hb.size, hb.block⟩
      | false =>
        rw [hq] at heq
        replace hq := Aside0.mk hq
        clear hx
        go_wp2_with fail
        go_region_held3 (fun W => W.cell? ⟨w.heap.size, 0, none⟩ = some (.string a.1) ∧ W.cell? ⟨w.heap.size, 1, none⟩ = some (.string a.2) ∧ W.cell? ⟨g, j * 2, none⟩ = some (.string y.1) ∧ W.cell? ⟨g, j * 2 + 1, none⟩ = some (.string y.2)) (exact ⟨hc1, hc2, y0, y1⟩) (fail)
        go_wp2
        go_roundw
        case rel =>
          refine ⟨j + 1, by omega, by go_num, h2.out, hc1, hc2, ⟨hb.os, hb.tape, hb.output, hb.size, hb.block⟩, fun i hi hij => ?_⟩
          rcases Nat.lt_or_ge i j with h1 | h1
          · exact hn.out i hi h1
          · obtain rfl : i = j := by omega
            rw [hy.out]; exact hq.out
        case measure => simp [intOf]; omega
    · obtain rfl : j = xs.length := by omega
      have := idxL_none (p := eqB a) (xs := xs) fun i hi => hn i hi hi
      go_wp2
      go_ret
      exact ⟨by rw [idxL, this, if_neg (by omega)]; rfl, hb⟩
theorem any_eqB (a : Lk) (xs : List Lk) : xs.any (eqB a) = decide (a ∈ xs) := by
  rw [Bool.eq_iff_iff, List.any_eq_true, decide_eq_true_iff]
  constructor
  · rintro ⟨x, hx, h⟩
    have : a = x := of_decide_eq_true h
    rw [this]; exact hx
  · exact fun h => ⟨a, h, decide_eq_true rfl⟩
set_option maxHeartbeats 4000000 in
set_option maxRecDepth 100000 in
theorem ContainsL_calls (base : Nat) (v : Value) (xs : List Lk) (a : Lk) (w : World) (h : RowL w base v xs) (hl : xs.length ≤ 65536) :
    Calls Tryz.prog 46 #[v, .agg #[.string a.1, .string a.2]] w fun e w' => e = .returned (.bool (decide (a ∈ xs))) ∧ Below w.heap.size w w' := by
  obtain ⟨w1, hw1⟩ : ∃ w1, w1 = w.alloc (.cells #[.string a.1, .string a.2] 23) := ⟨_, rfl⟩
  have hB : Below w.heap.size w w1 := by rw [hw1]; exact (Below.refl _ w).alloc (Nat.le_refl _) _
  have hc1 : w1.cell? ⟨w.heap.size, 0, none⟩ = some (.string a.1) := by rw [hw1]; simp [go_sem]
  have hc2 : w1.cell? ⟨w.heap.size, 1, none⟩ = some (.string a.2) := by rw [hw1]; simp [go_sem]
  have C := IndexL_calls base v xs a w1 (h.later hB) hl
  rw [← any_eqB, ← idxL_any]
  clear h
  generalize idxL (eqB a) xs = i at C ⊢
  go_enter Tryz.func46, Tryz.ntmps46
  go_upto_region 1 with (fail)
  rw [← hw1]
  clear hw1
  go_wp2_with (go_at_call 86; refine C.mono ?_; rintro e w' ⟨rfl, hb⟩)
  go_ret
  exact ⟨rfl, below_then hB hB.size hb⟩
end Go.Proofs.YthaoedfalkebbaaGreat
