import Derived.Test.YtedcnpaomphffaaMA
import Derived.Laws.StructEq
namespace Go.Proofs.Ytedcnpaomphffaa
open Go.RowKit Go.Maps Go.Sort Go.Lib Go.Proofs.YtedcnpaomphffaaW.PrintWords Go.Proofs.YtedcnpaomphffaaW.PrintLast Go.Proofs.YtedcnpaomphffaaW.PrintMore
set_option linter.unusedVariables false
set_option linter.unusedSimpArgs false
set_option linter.unusedSectionVars false
/-! ### how lists lie in memory; at, place, writes -/
def encI (x : Int) : List Value := [.int .i64 x]
theorem encI_one (x : Int) : ∀ u ∈ encI x, u.oneCell' = true := fun u hu => by simp [encI] at hu; rw [hu]; rfl
def dI : Kd Int := Kd.flat encI 1 (fun _ => rfl) encI_one
def encD (x : Dp) : List Value := [.int .i64 x.f, .int .i64 x.t, .int .i64 x.k]
theorem encD_one (x : Dp) : ∀ u ∈ encD x, u.oneCell' = true := fun u hu => by
  simp only [encD, List.mem_cons, List.not_mem_nil, or_false] at hu
  rcases hu with rfl | rfl | rfl <;> rfl
def dD : Kd Dp := Kd.flat encD 3 (fun _ => rfl) encD_one
def encA (x : Ac) : List Value := [.int .i64 x.t, .bool x.wr, .string x.item, .int .i64 x.v]
theorem encA_one (x : Ac) : ∀ u ∈ encA x, u.oneCell' = true := fun u hu => by
  simp only [encA, List.mem_cons, List.not_mem_nil, or_false] at hu
  rcases hu with rfl | rfl | rfl | rfl <;> rfl
def dA : Kd Ac := Kd.flat encA 4 (fun _ => rfl) encA_one
abbrev mkD (x : Dp) : Value := .agg #[.int .i64 x.f, .int .i64 x.t, .int .i64 x.k]
abbrev mkA (x : Ac) : Value := .agg #[.int .i64 x.t, .bool x.wr, .string x.item, .int .i64 x.v]
theorem C_of_src {α : Type} {enc : α → List Value} {k : Nat} {hn : ∀ x, (enc x).length = k} {h1 : ∀ x, ∀ u ∈ enc x, u.oneCell' = true} {W : World} {A : Option Addr} {xs : List α} (h : Src enc k W A xs) (hl : xs.length ≤ 9223372036854775807) : (Kd.flat enc k hn h1).C W A xs.length xs := by
  obtain ⟨inner, hil, hr, hc⟩ := h
  refine ⟨rfl, hl, fun hpos => ?_⟩
  obtain ⟨ad, rfl, hcell⟩ := hc hpos
  refine ⟨ad, rfl, fun j p hp => ⟨enc p, hn p, rfl, fun i u hu => ?_⟩⟩
  have h2 : (inner.drop (j * k)).take k = enc p := hr.2 j p hp
  have hik : i < k := by
    have := (List.getElem?_eq_some_iff.1 hu).1
    rw [hn] at this
    exact this
  refine hcell (j * k + i) u ?_
  rw [← h2, List.getElem?_take, if_pos hik, List.getElem?_drop] at hu
  exact hu
theorem C_of_lo {α : Type} {enc : α → List Value} {k e base : Nat} {hn : ∀ x, (enc x).length = k} {h1 : ∀ x, ∀ u ∈ enc x, u.oneCell' = true} {W : World} {A : Option Addr} {c : Nat} {xs : List α} (h : Lo enc k e W base (.slice A xs.length c) xs) (hl : xs.length ≤ 9223372036854775807) : (Kd.flat enc k hn h1).C W A xs.length xs := C_of_src (Lo.src h rfl) hl
theorem CI_at {W : World} {A : Option Addr} {xs : List Int} (h : dI.C W A xs.length xs) (j : Nat) (hj : j < xs.length) : ∃ ad, A = some ad ∧ W.cell? (ad.add j) = some (.int .i64 xs[j]) := by
  obtain ⟨ad, rfl, hc⟩ := h.2.2 (by omega)
  obtain ⟨cs, _, hk, hcc⟩ := hc j xs[j] (List.getElem?_eq_getElem hj)
  obtain rfl : cs = encI xs[j] := hk
  refine ⟨ad, rfl, ?_⟩
  have := hcc 0 _ rfl
  have e : j * dI.sz + 0 = j := Nat.mul_one j
  rw [e] at this
  exact this
theorem CD_at {W : World} {A : Option Addr} {xs : List Dp} (h : dD.C W A xs.length xs) (j : Nat) (hj : j < xs.length) : ∃ ad, A = some ad ∧ W.cell? (ad.add (j * 3)) = some (.int .i64 xs[j].f) ∧ W.cell? ⟨(ad.add (j * 3)).block, (ad.add (j * 3)).off + 1, none⟩ = some (.int .i64 xs[j].t) ∧ W.cell? ⟨(ad.add (j * 3)).block, (ad.add (j * 3)).off + 2, none⟩ = some (.int .i64 xs[j].k) := by
  obtain ⟨ad, rfl, hc⟩ := h.2.2 (by omega)
  obtain ⟨cs, _, hk, hcc⟩ := hc j xs[j] (List.getElem?_eq_getElem hj)
  obtain rfl : cs = encD xs[j] := hk
  refine ⟨ad, rfl, hcc 0 _ rfl, ?_, ?_⟩ <;> rw [← add_field _ _ _ (by omega)]
  · exact hcc 1 _ rfl
  · exact hcc 2 _ rfl
theorem CA_at {W : World} {A : Option Addr} {xs : List Ac} (h : dA.C W A xs.length xs) (j : Nat) (hj : j < xs.length) : ∃ ad, A = some ad ∧ W.cell? (ad.add (j * 4)) = some (.int .i64 xs[j].t) ∧ W.cell? ⟨(ad.add (j * 4)).block, (ad.add (j * 4)).off + 1, none⟩ = some (.bool xs[j].wr) ∧ W.cell? ⟨(ad.add (j * 4)).block, (ad.add (j * 4)).off + 2, none⟩ = some (.string xs[j].item) ∧ W.cell? ⟨(ad.add (j * 4)).block, (ad.add (j * 4)).off + 3, none⟩ = some (.int .i64 xs[j].v) := by
  obtain ⟨ad, rfl, hc⟩ := h.2.2 (by omega)
  obtain ⟨cs, _, hk, hcc⟩ := hc j xs[j] (List.getElem?_eq_getElem hj)
  obtain rfl : cs = encA xs[j] := hk
  refine ⟨ad, rfl, hcc 0 _ rfl, ?_, ?_, ?_⟩ <;> rw [← add_field _ _ _ (by omega)]
  · exact hcc 1 _ rfl
  · exact hcc 2 _ rfl
  · exact hcc 3 _ rfl
theorem plc_first {xs : List Int} {n : Int} {j : Nat} (hj : j < xs.length) (h : xs[j] = n) (hb : ∀ i (hi : i < xs.length), i < j → xs[i] ≠ n) : plc xs n = (j : Int) := by
  have hm : n ∈ xs := h ▸ List.getElem_mem hj
  rw [(plc_mem hm).1]
  have hlt := List.idxOf_lt_length_of_mem hm
  have hge := List.getElem_idxOf hlt
  rcases Nat.lt_trichotomy (xs.idxOf n) j with e | e | e
  · exact absurd hge (hb _ hlt e)
  · rw [e]
  · have : ¬ j < xs.idxOf n := by
      intro hlt2
      have := List.not_of_lt_findIdx (p := (· == n)) (xs := xs) (i := j) hlt2
      rw [h] at this
      simp at this
    omega
theorem plc_out {xs : List Int} {n : Int} (hb : ∀ i (hi : i < xs.length), xs[i] ≠ n) : plc xs n = -1 := plc_not (fun hm => by
  obtain ⟨i, hi, e⟩ := List.mem_iff_getElem.1 hm
  exact hb i hi e)
def AtJ (w : World) (xs : List Int) (n : Int) (v : Value) (wr : World) : Prop := ∃ j : Nat, v = .int .i64 (j : Int) ∧ j ≤ xs.length ∧ (∀ i (hi : i < xs.length), i < j → xs[i] ≠ n) ∧ wr = w
set_option maxHeartbeats 1000000 in
set_option maxRecDepth 100000 in
theorem at_calls (A : Option Addr) (c : Nat) (xs : List Int) (n : Int) (w : World) (h : dI.C w A xs.length xs) (hl : xs.length ≤ 9223372036854775806) :
    Calls Try.prog 36 #[.slice A xs.length c, .int .i64 n] w fun e w' => e = .returned (.int .i64 (plc xs n)) ∧ w = w' := by
  go_enter Try.func36, Try.ntmps36
  go_wp2_with fail
  go_loopw [5] (fun v wr => AtJ w xs n v wr) (fun v _ => xs.length - (intOf v).toNat)
  case atStart => exact ⟨0, rfl, Nat.zero_le _, fun _ _ h => by omega, rfl⟩
  case round =>
    obtain ⟨j, rfl, hj, hb, rfl⟩ := hrel
    by_cases hlt : j < xs.length
    · obtain ⟨ad, rfl, q0⟩ := CI_at h j hlt
      by_cases he : xs[j] = n
      · have hp := plc_first hlt he hb
        have he' : (xs[j] == n) = true := by simpa using he
        clear hb h
        replace he := Aside0.mk he
        replace hp := Aside0.mk hp
        go_wp2
        go_ret
        exact ⟨by rw [hp.out]; rfl, rfl⟩
      · have fin : AtJ wr xs n (.int .i64 ((j : Int) + 1)) wr := ⟨j + 1, by simp, by omega, fun i hi hij => by
          rcases Nat.lt_or_ge i j with h2 | h2
          · exact hb i hi h2
          · obtain rfl : i = j := by omega
            exact he, rfl⟩
        have he' : (xs[j] == n) = false := by simpa using he
        clear hb h
        replace fin := Aside0.mk fin
        go_wp2
        refine ⟨fin.out, ?_⟩
        simp [intOf]
        omega
    · have hp := plc_out (n := n) (fun i hi => hb i hi (by omega))
      have hge : ¬ (j : Int) < (xs.length : Int) := by omega
      clear hb h
      replace hp := Aside0.mk hp
      go_wp2
      go_ret
      exact ⟨by rw [hp.out]; rfl, rfl⟩
end Go.Proofs.Ytedcnpaomphffaa
namespace Go.Proofs.Ytedcnpaomphffaa
open Go.RowKit Go.Maps Go.Sort Go.Lib Go.Proofs.YtedcnpaomphffaaW.PrintWords Go.Proofs.YtedcnpaomphffaaW.PrintLast Go.Proofs.YtedcnpaomphffaaW.PrintMore
set_option linter.unusedVariables false
set_option linter.unusedSimpArgs false
set_option linter.unusedSectionVars false
/-! ### a history as it lies; place, writes, next, act, Check -/
structure HV where
  A1 : Option Addr
  c1 : Nat
  A2 : Option Addr
  c2 : Nat
  h : Hs
abbrev mkH (z : HV) : Value := .agg #[.slice z.A1 z.h.C.length z.c1, .slice z.A2 z.h.A.length z.c2]
structure HV.OK (z : HV) (w : World) : Prop where
  c : dI.C w z.A1 z.h.C.length z.h.C
  a : dA.C w z.A2 z.h.A.length z.h.A
  lc : z.h.C.length ≤ 17592186044416
  la : z.h.A.length ≤ 17592186044416
  capc : z.h.C.length ≤ z.c1
  capa : z.h.A.length ≤ z.c2
  cw : ∀ x ∈ z.h.C, (Lit.int .i64 x).wf = true
  aw : ∀ x ∈ z.h.A, (Lit.int .i64 x.t).wf = true ∧ (Lit.int .i64 x.v).wf = true ∧ x.item.size ≤ reachBytes
theorem HV.OK.below {z : HV} {w w1 : World} (h : z.OK w) (B : Below w.heap.size w w1) : z.OK w1 := ⟨Kd.C_below h.c B, Kd.C_below h.a B, h.lc, h.la, h.capc, h.capa, h.cw, h.aw⟩
theorem hv_box (z : HV) (w : World) (hz : z.OK w) : ∃ w1, w1 = w.alloc (.cells #[.slice z.A1 z.h.C.length z.c1, .slice z.A2 z.h.A.length z.c2] 25) ∧ Below w.heap.size w w1 ∧ z.OK w1 ∧
    w1.cell? ⟨w.heap.size, 0, none⟩ = some (.slice z.A1 z.h.C.length z.c1) ∧ w1.cell? ⟨w.heap.size, 1, none⟩ = some (.slice z.A2 z.h.A.length z.c2) := by
  have B : Below w.heap.size w (w.alloc (.cells #[.slice z.A1 z.h.C.length z.c1, .slice z.A2 z.h.A.length z.c2] 25)) := (Below.refl _ w).alloc (Nat.le_refl _) _
  have ob := heap_alloc_new w (.cells #[.slice z.A1 z.h.C.length z.c1, .slice z.A2 z.h.A.length z.c2] 25)
  exact ⟨_, rfl, B, hz.below B, cell_of_row _ _ 0 _ 25 (0, 0) ob, cell_of_row _ _ 1 _ 25 (0, 0) ob⟩
set_option maxHeartbeats 1000000 in
set_option maxRecDepth 100000 in
theorem place_calls (z : HV) (n : Int) (w : World) (hz : z.OK w) :
    Calls Try.prog 18 #[mkH z, .int .i64 n] w fun e w' => e = .returned (.int .i64 (plc z.h.C n)) ∧ Below w.heap.size w w' := by
  obtain ⟨w1, hw1, B1, hz1, b0, b1⟩ := hv_box z w hz
  obtain ⟨bx, hbx⟩ : ∃ bx, bx = w.heap.size := ⟨_, rfl⟩
  have hl := hz.lc
  have hC := hz1.c
  clear hz hz1
  go_enter Try.func18, Try.ntmps18
  go_upto_region 1 with (fail)
  rw [← hw1, ← hbx]
  rw [← hbx] at b0 b1
  clear hw1
  replace hbx := Aside0.mk hbx
  go_wp2_with fail
  go_loopw [5] (fun v wr => AtJ w1 z.h.C n v wr) (fun v _ => z.h.C.length - (intOf v).toNat)
  case atStart => exact ⟨0, rfl, Nat.zero_le _, fun _ _ h => by omega, rfl⟩
  case round =>
    obtain ⟨j, rfl, hj, hb, rfl⟩ := hrel
    by_cases hlt : j < z.h.C.length
    · obtain ⟨ad, e1, q0⟩ := CI_at hC j hlt
      by_cases he : z.h.C[j] = n
      · have hp := plc_first hlt he hb
        have he' : (z.h.C[j] == n) = true := by simpa using he
        clear hb hC
        replace he := Aside0.mk he
        replace hp := Aside0.mk hp
        go_wp2
        go_ret
        exact ⟨by rw [hp.out]; rfl, B1⟩
      · have fin : AtJ wr z.h.C n (.int .i64 ((j : Int) + 1)) wr := ⟨j + 1, by simp, by omega, fun i hi hij => by
          rcases Nat.lt_or_ge i j with h2 | h2
          · exact hb i hi h2
          · obtain rfl : i = j := by omega
            exact he, rfl⟩
        have he' : (z.h.C[j] == n) = false := by simpa using he
        clear hb hC
        replace fin := Aside0.mk fin
        go_wp2
        refine ⟨fin.out, ?_⟩
        simp [intOf]
        omega
    · have hp := plc_out (n := n) (fun i hi => hb i hi (by omega))
      have hge : ¬ (j : Int) < (z.h.C.length : Int) := by omega
      clear hb hC
      replace hp := Aside0.mk hp
      go_wp2
      go_ret
      exact ⟨by rw [hp.out]; rfl, B1⟩
def WrJ (w : World) (A : List Ac) (t : Int) (item : ByteArray) (v : Value) (wr : World) : Prop := ∃ j : Nat, v = .int .i64 (j : Int) ∧ j ≤ A.length ∧ wrs (A.take j) t item = false ∧ wr = w
theorem wrs_snoc (A : List Ac) (a : Ac) (t : Int) (item : ByteArray) : wrs (A ++ [a]) t item = (wrs A t item || isW t item a) := by unfold wrs; simp [List.any_append]
theorem wrs_hit {A : List Ac} {t : Int} {item : ByteArray} {j : Nat} (hj : j < A.length) (h : isW t item A[j] = true) : wrs A t item = true := by
  unfold wrs
  rw [List.any_eq_true]
  exact ⟨A[j], List.getElem_mem hj, h⟩
set_option maxHeartbeats 2000000 in
set_option maxRecDepth 100000 in
theorem writes_calls (z : HV) (t : Int) (item : ByteArray) (w : World) (hz : z.OK w) :
    Calls Try.prog 37 #[mkH z, .int .i64 t, .string item] w fun e w' => e = .returned (.bool (wrs z.h.A t item)) ∧ Below w.heap.size w w' := by
  obtain ⟨w1, hw1, B1, hz1, b0, b1⟩ := hv_box z w hz
  obtain ⟨bx, hbx⟩ : ∃ bx, bx = w.heap.size := ⟨_, rfl⟩
  have hl := hz.la
  have hA := hz1.a
  clear hz hz1
  go_enter Try.func37, Try.ntmps37
  go_upto_region 1 with (fail)
  rw [← hw1, ← hbx]
  rw [← hbx] at b0 b1
  clear hw1
  replace hbx := Aside0.mk hbx
  go_wp2_with fail
  go_loopw [7] (fun v wr => WrJ w1 z.h.A t item v wr) (fun v _ => z.h.A.length - (intOf v).toNat)
  case atStart => exact ⟨0, rfl, Nat.zero_le _, rfl, rfl⟩
  case round =>
    obtain ⟨j, rfl, hj, hb, rfl⟩ := hrel
    by_cases hlt : j < z.h.A.length
    · obtain ⟨ad, e1, q0, q1, q2, q3⟩ := CA_at hA j hlt
      have htk : z.h.A.take (j + 1) = z.h.A.take j ++ [z.h.A[j]] := List.take_succ_eq_append_getElem hlt
      have hhit := wrs_hit (t := t) (item := item) hlt
      generalize z.h.A[j] = a at q0 q1 q2 q3 htk hhit
      have fin : isW t item a = false → WrJ wr z.h.A t item (.int .i64 ((j : Int) + 1)) wr := fun hx => ⟨j + 1, by simp, by omega, by rw [htk, wrs_snoc, hb, hx]; rfl, rfl⟩
      clear hb hA htk
      cases k1 : a.wr with
      | false =>
        have F := fin (by unfold isW; rw [k1]; rfl)
        rw [k1] at q1
        clear fin hhit
        replace F := Aside0.mk F
        replace k1 := Aside0.mk k1
        go_wp2
        refine ⟨F.out, ?_⟩
        simp [intOf]
        omega
      | true =>
        rw [k1] at q1
        cases k2 : a.t == t with
        | false =>
          have F := fin (by unfold isW; rw [k2]; simp)
          clear fin hhit
          replace F := Aside0.mk F
          replace k1 := Aside0.mk k1
          go_wp2
          refine ⟨F.out, ?_⟩
          simp [intOf]
          omega
        | true =>
          cases k3 : a.item.toList == item.toList with
          | false =>
            have F := fin (by unfold isW; rw [k3]; simp)
            have k3' : ¬ a.item.toList = item.toList := by simpa using k3
            clear fin hhit
            replace F := Aside0.mk F
            replace k1 := Aside0.mk k1
            go_wp2
            refine ⟨F.out, ?_⟩
            simp [intOf]
            omega
          | true =>
            have H := hhit (by unfold isW; rw [k1, k2, k3]; rfl)
            have k3' : a.item.toList = item.toList := by simpa using k3
            clear fin hhit
            replace H := Aside0.mk H
            replace k1 := Aside0.mk k1
            go_wp2
            go_ret
            exact ⟨by rw [H.out]; rfl, B1⟩
    · have hje : j = z.h.A.length := by omega
      have hge : ¬ (j : Int) < (z.h.A.length : Int) := by omega
      rw [hje, List.take_length] at hb
      clear hA
      replace hje := Aside0.mk hje
      replace hb := Aside0.mk hb
      go_wp2
      go_ret
      exact ⟨by rw [hb.out]; rfl, B1⟩
end Go.Proofs.Ytedcnpaomphffaa
namespace Go.Proofs.Ytedcnpaomphffaa
open Go.RowKit Go.Maps Go.Sort Go.Lib Go.Proofs.YtedcnpaomphffaaW.PrintWords Go.Proofs.YtedcnpaomphffaaW.PrintLast Go.Proofs.YtedcnpaomphffaaW.PrintMore
set_option linter.unusedVariables false
set_option linter.unusedSimpArgs false
set_option linter.unusedSectionVars false
/-! ### next -/
def frm (h : Hs) (ver : Int) : Nat := if ver = 0 then 0 else (plc h.C ver + 1).toNat
theorem frm_le (h : Hs) (ver : Int) : frm h ver ≤ h.C.length ∧ (ver ≠ 0 → plc h.C ver + 1 = (frm h ver : Int)) := by
  unfold frm
  by_cases hm : ver ∈ h.C
  · obtain ⟨e, hl⟩ := plc_mem hm
    rw [e]
    refine ⟨?_, fun h0 => ?_⟩
    · split <;> omega
    · rw [if_neg h0]; omega
  · rw [plc_not hm]
    refine ⟨?_, fun h0 => ?_⟩
    · split <;> omega
    · rw [if_neg h0]; rfl
theorem nxt_some {h : Hs} {item : ByteArray} {ver : Int} {i : Nat} (h1 : frm h ver ≤ i) (hi : i < h.C.length) (hb : ∀ k (hk : k < h.C.length), frm h ver ≤ k → k < i → wrs h.A h.C[k] item = false) (hw : wrs h.A h.C[i] item = true) : nxt h item ver = h.C[i] := by
  have e : nxt h item ver = ((h.C.drop (frm h ver)).find? (fun c => wrs h.A c item)).getD 0 := rfl
  have e2 : (h.C.drop (frm h ver)).find? (fun c => wrs h.A c item) = some h.C[i] := by
    rw [List.find?_eq_some_iff_getElem]
    refine ⟨hw, i - frm h ver, by rw [List.length_drop]; omega, ?_, fun j hj => ?_⟩
    · rw [List.getElem_drop]
      congr 1
      omega
    · rw [List.getElem_drop, hb _ (by omega) (by omega) (by omega)]
      rfl
  rw [e, e2]
  rfl
theorem nxt_none {h : Hs} {item : ByteArray} {ver : Int} (hb : ∀ k (hk : k < h.C.length), frm h ver ≤ k → wrs h.A h.C[k] item = false) : nxt h item ver = 0 := by
  have e : nxt h item ver = ((h.C.drop (frm h ver)).find? (fun c => wrs h.A c item)).getD 0 := rfl
  have e2 : (h.C.drop (frm h ver)).find? (fun c => wrs h.A c item) = none := by
    rw [List.find?_eq_none]
    intro x hx
    obtain ⟨j, hj, rfl⟩ := List.mem_iff_getElem.1 hx
    rw [List.length_drop] at hj
    rw [List.getElem_drop, hb _ (by omega) (by omega)]
    decide
  rw [e, e2]
  rfl
def NxC (w : World) (fr : Nat) (v : Value) (wx : World) : Prop := v = .int .i64 (fr : Int) ∧ Below w.heap.size w wx
def NxJ (w : World) (h : Hs) (item : ByteArray) (ver : Int) (v : Value) (wr : World) : Prop := ∃ i : Nat, v = .int .i64 (i : Int) ∧ frm h ver ≤ i ∧ i ≤ h.C.length ∧ (∀ k (hk : k < h.C.length), frm h ver ≤ k → k < i → wrs h.A h.C[k] item = false) ∧ Below w.heap.size w wr
set_option maxHeartbeats 4000000 in
set_option maxRecDepth 100000 in
theorem next_calls (z : HV) (item : ByteArray) (ver : Int) (w : World) (hz : z.OK w) :
    Calls Try.prog 53 #[mkH z, .string item, .int .i64 ver] w fun e w' => e = .returned (.int .i64 (nxt z.h item ver)) ∧ Below w.heap.size w w' := by
  obtain ⟨A1, c1, A2, c2, h⟩ := z
  obtain ⟨w1, hw1, B1, hz1, b0, b1⟩ := hv_box _ w hz
  obtain ⟨bx, hbx⟩ : ∃ bx, bx = w.heap.size := ⟨_, rfl⟩
  have hl := hz.lc
  have PL := place_calls _ ver w1 hz1
  obtain ⟨hfl, hfe⟩ := frm_le h ver
  have zh : ∀ W, Below w1.heap.size w1 W → dI.C W A1 h.C.length h.C := fun W B => (hz1.below B).c
  have WRT := fun W (B : Below w1.heap.size w1 W) x => writes_calls _ x item W (hz1.below B)
  dsimp only [mkH] at hw1 b0 b1 hl PL WRT ⊢
  clear hz
  go_enter Try.func53, Try.ntmps53
  go_upto_region 1 with (fail)
  rw [← hw1, ← hbx]
  rw [← hbx] at b0 b1
  clear hw1
  replace hbx := Aside0.mk hbx
  go_upto_if 10 with (fail)
  go_cut [7] (fun v7 wx => NxC w1 (frm h ver) v7 wx)
  case first =>
    by_cases h0 : ver = 0
    · have e0 : (ver != 0) = false := by simpa using h0
      have F : NxC w1 (frm h ver) (.int .i64 0) w1 := ⟨by unfold frm; rw [if_pos h0]; rfl, Below.refl _ _⟩
      clear hfe hz1
      replace h0 := Aside0.mk h0
      replace F := Aside0.mk F
      go_wp2
      go_meet
      exact F.out
    · have e0 : (ver != 0) = true := by simpa using h0
      have he := hfe h0
      have F : ∀ W, Below w1.heap.size w1 W → NxC w1 (frm h ver) (.int .i64 (frm h ver : Int)) W := fun W B => ⟨rfl, B⟩
      have hpl : -1 ≤ plc h.C ver ∧ plc h.C ver ≤ 17592186044416 := by omega
      clear hfe hz1
      replace h0 := Aside0.mk h0
      replace F := Aside0.mk F
      go_wp2_with fail
      refine PL.mono ?_
      rintro e W ⟨rfl, B⟩
      have F2 := F.out W B
      replace F2 := Aside0.mk F2
      go_wp2
      go_meet
      exact F2.out
  case rest =>
    clear PL hfe hz1
    obtain ⟨rfl, B2⟩ := hcut
    have J0 : NxJ w1 h item ver (.int .i64 (frm h ver : Int)) wc := ⟨frm h ver, rfl, Nat.le_refl _, hfl, fun k _ h1 h2 => by omega, B2⟩
    clear B2
    go_wp2_with fail
    go_loopw [8] (fun v wr => NxJ w1 h item ver v wr) (fun v _ => h.C.length - (intOf v).toNat)
    case atStart => exact J0
    case round =>
      clear J0
      obtain ⟨i, rfl, hfi, hi, hb, B⟩ := hrel
      have hzr := zh wr B
      have up : ∀ {p : Addr} {v : Value}, w1.cell? p = some v → wr.cell? p = some v := fun {p v} hv => (B.cell (World.block_lt_of_cell? _ _ hv)).trans hv
      have d0 := up b0
      have d1 := up b1
      by_cases hlt : i < h.C.length
      · obtain ⟨ad, rfl, q0⟩ := CI_at hzr i hlt
        have WR := fun n => WRT (wr.drewN n) (below_then B B.size ((Below.refl _ wr).grown (drewNG wr n) (Nat.le_refl _) (by simp))) h.C[i]
        have BD : Below wr.heap.size wr (wr.drewN 1) := (Below.refl _ wr).grown (drewNG wr 1) (Nat.le_refl _) (by simp)
        cases hw : wrs h.A h.C[i] item with
        | true =>
          have hx := nxt_some hfi hlt hb hw
          rw [hw] at WR
          generalize h.C[i] = x at q0 WR hx
          clear hb hzr
          replace hx := Aside0.mk hx
          go_wp2_with fail
          go_region_held3 (fun V => V.cell? ⟨bx, 0, none⟩ = some (.slice (some ad) h.C.length c1) ∧ V.cell? ⟨bx, 1, none⟩ = some (.slice A2 h.A.length c2) ∧ V.cell? (ad.add i) = some (.int .i64 x)) (first | exact ⟨d0, d1, q0⟩ | exact ⟨K9 _ _ d0, K9 _ _ d1, K9 _ _ q0⟩)
            ((go_at_call 37; refine (WR _).mono ?_; rintro e W' ⟨rfl, B'⟩; have K9 : ∀ q v, wr.cell? q = some v → W'.cell? q = some v := fun q v hv => (B'.cell (World.block_lt_of_cell? _ _ hv)).trans hv))
          have c0 := (B'.cell (World.block_lt_of_cell? _ _ d0)).trans d0
          have c2 := (B'.cell (World.block_lt_of_cell? _ _ q0)).trans q0
          have BB := below_then B B.size (below_then BD BD.size B')
          clear d0 d1 q0 b0 b1
          go_wp2
          go_ret
          exact ⟨by rw [hx.out]; rfl, below_then B1 B1.size BB⟩
        | false =>
          have fin : ∀ W, Below wr.heap.size wr W → NxJ w1 h item ver (.int .i64 ((i : Int) + 1)) W := fun W BW => ⟨i + 1, by simp, by omega, by omega, fun k hk h1 h2 => by
            rcases Nat.lt_or_ge k i with h3 | h3
            · exact hb k hk h1 h3
            · obtain rfl : k = i := by omega
              exact hw, below_then B B.size BW⟩
          rw [hw] at WR
          generalize h.C[i] = x at q0 WR
          clear hb hzr hw
          replace fin := Aside0.mk fin
          go_wp2_with fail
          go_region_held3 (fun V => V.cell? ⟨bx, 0, none⟩ = some (.slice (some ad) h.C.length c1) ∧ V.cell? ⟨bx, 1, none⟩ = some (.slice A2 h.A.length c2) ∧ V.cell? (ad.add i) = some (.int .i64 x)) (first | exact ⟨d0, d1, q0⟩ | exact ⟨K9 _ _ d0, K9 _ _ d1, K9 _ _ q0⟩)
            ((go_at_call 37; refine (WR _).mono ?_; rintro e W' ⟨rfl, B'⟩; have K9 : ∀ q v, wr.cell? q = some v → W'.cell? q = some v := fun q v hv => (B'.cell (World.block_lt_of_cell? _ _ hv)).trans hv))
          have F := fin.out W' (below_then BD BD.size B')
          clear d0 d1 q0 b0 b1
          replace F := Aside0.mk F
          go_wp2
          refine ⟨F.out, ?_⟩
          simp [intOf]
          omega
      · have hx := nxt_none (item := item) (fun k hk h1 => hb k hk h1 (by omega))
        have hge : ¬ (i : Int) < (h.C.length : Int) := by omega
        clear hb hzr b0 b1
        replace hx := Aside0.mk hx
        go_wp2
        go_ret
        exact ⟨by rw [hx.out]; rfl, below_then B1 B1.size B⟩
end Go.Proofs.Ytedcnpaomphffaa
namespace Go.Proofs.Ytedcnpaomphffaa
open Go.RowKit Go.Maps Go.Sort Go.Lib Go.Proofs.YtedcnpaomphffaaW.PrintWords Go.Proofs.YtedcnpaomphffaaW.PrintLast Go.Proofs.YtedcnpaomphffaaW.PrintMore
set_option linter.unusedVariables false
set_option linter.unusedSimpArgs false
set_option linter.unusedSectionVars false
/-! ### act -/
def actOf (h : Hs) (j : Nat) (a : Ac) : Bool := decide (a.t ∈ h.C) && (if a.wr = true then !wrs (h.A.take j) a.t a.item && (a.v == 0) else (a.v == 0) || (decide (a.v ∈ h.C) && wrs h.A a.v a.item))
def boxA (a : Ac) : Obj := .cells #[.int .i64 a.t, .bool a.wr, .string a.item, .int .i64 a.v] 40 (0, 0)
theorem ac_cells {W : World} {b : Nat} {a : Ac} (h : W.heap[b]? = some (boxA a)) :
    W.cell? ⟨b, 0, none⟩ = some (.int .i64 a.t) ∧ W.cell? ⟨b, 1, none⟩ = some (.bool a.wr) ∧ W.cell? ⟨b, 2, none⟩ = some (.string a.item) ∧ W.cell? ⟨b, 3, none⟩ = some (.int .i64 a.v) :=
  ⟨cell_of_row W b 0 _ 40 (0, 0) h, cell_of_row W b 1 _ 40 (0, 0) h, cell_of_row W b 2 _ 40 (0, 0) h, cell_of_row W b 3 _ 40 (0, 0) h⟩
theorem blk_below {w w' : World} {g : Nat} {o : Obj} (h : w.heap[g]? = some o) (b : Below w.heap.size w w') : w'.heap[g]? = some o := (b.block _ (Array.getElem?_eq_some_iff.1 h).1).trans h
theorem up_below {w w' : World} (B : Below w.heap.size w w') {p : Addr} {v : Value} (hv : w.cell? p = some v) : w'.cell? p = some v := (B.cell (World.block_lt_of_cell? _ _ hv)).trans hv
theorem drewB (w : World) (n : Nat) : Below w.heap.size w (w.drewN n) := (Below.refl _ w).grown (drewNG w n) (Nat.le_refl _) (by simp)
def AcJ (w : World) (h : Hs) (j : Nat) (a : Ac) (v : Value) (wr : World) : Prop := ∃ i : Nat, v = .int .i64 (i : Int) ∧ i ≤ j ∧ wrs (h.A.take i) a.t a.item = false ∧ Below w.heap.size w wr
set_option maxHeartbeats 8000000 in
set_option maxRecDepth 100000 in
theorem act_calls (z : HV) (j : Nat) (hj : j < z.h.A.length) (w : World) (hz : z.OK w) :
    Calls Try.prog 19 #[mkH z, .int .i64 (j : Int)] w fun e w' => e = .returned (.bool (actOf z.h j z.h.A[j])) ∧ Below w.heap.size w w' := by
  obtain ⟨A1, c1, A2, c2, h⟩ := z
  obtain ⟨w1, hw1, B1, hz1, b0, b1⟩ := hv_box _ w hz
  obtain ⟨bx, hbx⟩ : ∃ bx, bx = w.heap.size := ⟨_, rfl⟩
  have hl := hz.la
  have PL := fun W (B : Below w1.heap.size w1 W) x => place_calls _ x W (hz1.below B)
  have WRT := fun W (B : Below w1.heap.size w1 W) x it => writes_calls _ x it W (hz1.below B)
  have za : ∀ W, Below w1.heap.size w1 W → dA.C W A2 h.A.length h.A := fun W B => (hz1.below B).a
  dsimp only [mkH] at hw1 b0 b1 hl hj PL WRT ⊢
  obtain ⟨ad, rfl, q0, q1, q2, q3⟩ := CA_at (za w1 (Below.refl _ _)) j hj
  generalize ha : h.A[j] = a at q0 q1 q2 q3
  obtain ⟨W2, hW2⟩ : ∃ W2, W2 = w1.alloc (.cells #[.int .i64 a.t, .bool a.wr, .string a.item, .int .i64 a.v] 40) := ⟨_, rfl⟩
  have B2 : Below w1.heap.size w1 W2 := by rw [hW2]; exact (Below.refl _ w1).alloc (Nat.le_refl _) _
  have ob : W2.heap[w1.heap.size]? = some (boxA a) := by rw [hW2]; exact heap_alloc_new w1 _
  obtain ⟨by_, hby⟩ : ∃ b, b = w1.heap.size := ⟨_, rfl⟩
  have B12 := below_then B1 B1.size B2
  clear hz hz1
  go_enter Try.func19, Try.ntmps19
  go_upto_region 1 with (fail)
  rw [← hw1, ← hbx]
  rw [← hbx] at b0 b1
  clear hw1
  replace hbx := Aside0.mk hbx
  replace ha := Aside0.mk ha
  go_upto_region 2 with (fail)
  rw [← hW2, ← hby]
  rw [← hby] at ob
  clear hW2 q0 q1 q2 q3
  replace hby := Aside0.mk hby
  have d0 := up_below B2 b0
  have d1 := up_below B2 b1
  obtain ⟨r0, r1, r2, r3⟩ := ac_cells ob
  have PL2 := PL W2 B2 a.t
  by_cases hc : a.t ∈ h.C
  · have hp := plc_nonneg.2 hc
    have hact : actOf h j a = (if a.wr = true then !wrs (h.A.take j) a.t a.item && (a.v == 0) else (a.v == 0) || (decide (a.v ∈ h.C) && wrs h.A a.v a.item)) := by unfold actOf; simp [hc]
    replace hc := Aside0.mk hc
    generalize plc h.C a.t = pl at hp PL2
    have hpn : ¬ pl < 0 := by omega
    go_wp2_with fail
    refine PL2.mono ?_
    rintro e W3 ⟨rfl, B3⟩
    have B23 := below_then B2 B2.size B3
    have ob3 := blk_below ob B3
    have e0 := up_below B3 d0
    have e1 := up_below B3 d1
    obtain ⟨s0, s1, s2, s3⟩ := ac_cells ob3
    have B13 := below_then B12 B12.size B3
    clear PL2 r0 r1 r2 r3 d0 d1 ob
    cases k1 : a.wr with
    | false =>
      rw [k1] at s1
      rw [if_neg (by rw [k1]; decide)] at hact
      replace k1 := Aside0.mk k1
      by_cases h0 : a.v = 0
      · have z0 : (a.v == 0) = true := by simpa using h0
        have hres : actOf h j a = true := by rw [hact, z0]; rfl
        replace h0 := Aside0.mk h0
        replace hres := Aside0.mk hres
        clear hact PL WRT za
        go_wp2
        go_ret
        exact ⟨by rw [hres.out]; rfl, B13⟩
      · have z0 : (a.v == 0) = false := by simpa using h0
        rw [z0, Bool.false_or] at hact
        have PL3 := PL W3 B23 a.v
        replace h0 := Aside0.mk h0
        by_cases hv : a.v ∈ h.C
        · have hpv := plc_nonneg.2 hv
          have hres : actOf h j a = wrs h.A a.v a.item := by rw [hact]; simp [hv]
          replace hv := Aside0.mk hv
          generalize plc h.C a.v = pv at hpv PL3
          have WR3 := fun W (B : Below W3.heap.size W3 W) => WRT W (below_then B23 B23.size B) a.v a.item
          generalize wrs h.A a.v a.item = wb at WR3 hres
          replace hres := Aside0.mk hres
          clear hact PL WRT za
          go_wp2_with fail
          refine PL3.mono ?_
          rintro e W4 ⟨rfl, B4⟩
          have f0 := up_below B4 e0
          have f1 := up_below B4 e1
          obtain ⟨t0, t1, t2, t3⟩ := ac_cells (blk_below ob3 B4)
          have WR4 := WR3 W4 B4
          clear s0 s1 s2 s3 e0 e1 WR3 PL3
          go_wp2_with fail
          refine WR4.mono ?_
          rintro e W5 ⟨rfl, B5⟩
          have BB := below_then B13 B13.size (below_then B4 B4.size B5)
          go_wp2
          go_ret
          exact ⟨by rw [hres.out]; rfl, BB⟩
        · have hpv := plc_neg.2 hv
          have hres : actOf h j a = false := by rw [hact]; simp [hv]
          replace hv := Aside0.mk hv
          generalize plc h.C a.v = pv at hpv PL3
          have hpn2 : ¬ 0 ≤ pv := by omega
          replace hres := Aside0.mk hres
          clear hact PL WRT za
          go_wp2_with fail
          refine PL3.mono ?_
          rintro e W4 ⟨rfl, B4⟩
          have BB := below_then B13 B13.size B4
          go_wp2
          go_ret
          exact ⟨by rw [hres.out]; rfl, BB⟩
    | true =>
      rw [k1] at s1
      rw [if_pos k1] at hact
      have J0 : AcJ W3 h j a (.int .i64 0) W3 := ⟨0, rfl, Nat.zero_le _, rfl, Below.refl _ _⟩
      have k1' := Aside0.mk k1
      clear PL WRT
      go_wp2_with fail
      go_loopw [6] (fun v wr => AcJ W3 h j a v wr) (fun v _ => j - (intOf v).toNat)
      case atStart => exact J0
      case round =>
        clear J0
        obtain ⟨i, rfl, hi, hb, B⟩ := hrel
        have zr := za wr (below_then B23 B23.size B)
        have f0 := up_below B e0
        have f1 := up_below B e1
        obtain ⟨t0, t1, t2, t3⟩ := ac_cells (blk_below ob3 B)
        by_cases hlt : i < j
        · obtain ⟨ad', e, y0, y1, y2, y3⟩ := CA_at zr i (by omega)
          obtain rfl : ad = ad' := Option.some.inj e
          have htk : h.A.take (i + 1) = h.A.take i ++ [h.A[i]] := List.take_succ_eq_append_getElem (by omega)
          have hhit : isW a.t a.item h.A[i] = true → wrs (h.A.take j) a.t a.item = true := fun hx => by
            unfold wrs
            rw [List.any_eq_true]
            exact ⟨h.A[i], List.mem_iff_getElem.2 ⟨i, by rw [List.length_take]; omega, by rw [List.getElem_take]⟩, hx⟩
          generalize h.A[i] = x at y0 y1 y2 y3 htk hhit
          have hil : (i : Int) < (h.A.length : Int) := by omega
          have fin : isW a.t a.item x = false → ∀ n, AcJ W3 h j a (.int .i64 ((i : Int) + 1)) (wr.drewN n) := fun hx n => ⟨i + 1, by simp, by omega, by rw [htk, wrs_snoc, hb, hx]; rfl, below_then B B.size (drewB wr n)⟩
          clear hb zr htk s0 s1 s2 s3 e0 e1
          cases m1 : x.wr with
          | false =>
            rw [m1] at y1
            have F := fin (by unfold isW; rw [m1]; rfl)
            clear fin hhit
            replace F := Aside0.mk F
            replace m1 := Aside0.mk m1
            go_wp2_with fail
            go_quiet (fail)
            go_wp2
            refine ⟨F.out _, ?_⟩
            simp [intOf]
            omega
          | true =>
            rw [m1] at y1
            cases m2 : x.t == a.t with
            | false =>
              have F := fin (by unfold isW; rw [m2]; simp)
              clear fin hhit
              replace F := Aside0.mk F
              replace m1 := Aside0.mk m1
              go_wp2_with fail
              go_quiet (fail)
              go_wp2
              refine ⟨F.out _, ?_⟩
              simp [intOf]
              omega
            | true =>
              cases m3 : x.item.toList == a.item.toList with
              | false =>
                have F := fin (by unfold isW; rw [m3]; simp)
                have m3' : ¬ x.item.toList = a.item.toList := by simpa using m3
                clear fin hhit
                replace F := Aside0.mk F
                replace m1 := Aside0.mk m1
                go_wp2_with fail
                go_region_held3 (fun V => V.cell? ⟨bx, 1, none⟩ = some (.slice (some ad) h.A.length c2) ∧ V.cell? (ad.add (i * 4)) = some (.int .i64 x.t) ∧ V.cell? ⟨(ad.add (i * 4)).block, (ad.add (i * 4)).off + 1, none⟩ = some (.bool true) ∧ V.cell? ⟨(ad.add (i * 4)).block, (ad.add (i * 4)).off + 2, none⟩ = some (.string x.item) ∧ V.cell? ⟨by_, 0, none⟩ = some (.int .i64 a.t) ∧ V.cell? ⟨by_, 2, none⟩ = some (.string a.item)) (exact ⟨f1, y0, y1, y2, t0, t2⟩) (fail)
                go_wp2
                refine ⟨F.out _, ?_⟩
                simp [intOf]
                omega
              | true =>
                have H := hhit (by unfold isW; rw [m1, m2, m3]; rfl)
                have hres : actOf h j a = false := by rw [hact, H]; rfl
                have m3' : x.item.toList = a.item.toList := by simpa using m3
                have BB := below_then B13 B13.size (below_then B B.size (drewB wr 1))
                clear fin hhit hact
                replace H := Aside0.mk H
                replace hres := Aside0.mk hres
                replace m1 := Aside0.mk m1
                go_wp2_with fail
                go_region_held3 (fun V => V.cell? ⟨bx, 1, none⟩ = some (.slice (some ad) h.A.length c2) ∧ V.cell? (ad.add (i * 4)) = some (.int .i64 x.t) ∧ V.cell? ⟨(ad.add (i * 4)).block, (ad.add (i * 4)).off + 1, none⟩ = some (.bool true) ∧ V.cell? ⟨(ad.add (i * 4)).block, (ad.add (i * 4)).off + 2, none⟩ = some (.string x.item) ∧ V.cell? ⟨by_, 0, none⟩ = some (.int .i64 a.t) ∧ V.cell? ⟨by_, 2, none⟩ = some (.string a.item)) (exact ⟨f1, y0, y1, y2, t0, t2⟩) (fail)
                go_wp2
                go_ret
                exact ⟨by rw [hres.out]; rfl, BB⟩
        · have hij : i = j := by omega
          have hge : ¬ (i : Int) < (j : Int) := by omega
          rw [hij] at hb
          have hres : actOf h j a = (a.v == 0) := by rw [hact, hb]; rfl
          replace hij := Aside0.mk hij
          replace hres := Aside0.mk hres
          have BB := below_then B13 B13.size B
          clear hb zr s0 s1 s2 s3 e0 e1 hact
          go_wp2
          go_ret
          exact ⟨by rw [hres.out]; rfl, BB⟩
  · have hp := plc_neg.2 hc
    have hres : actOf h j a = false := by unfold actOf; simp [hc]
    replace hc := Aside0.mk hc
    replace hres := Aside0.mk hres
    generalize plc h.C a.t = pl at hp PL2
    clear PL WRT za
    go_wp2_with fail
    refine PL2.mono ?_
    rintro e W3 ⟨rfl, B3⟩
    go_wp2
    go_ret
    exact ⟨by rw [hres.out]; rfl, below_then B12 B12.size B3⟩
end Go.Proofs.Ytedcnpaomphffaa
namespace Go.Proofs.Ytedcnpaomphffaa
open Go.RowKit Go.Maps Go.Sort Go.Lib Go.Proofs.YtedcnpaomphffaaW.PrintWords Go.Proofs.YtedcnpaomphffaaW.PrintLast Go.Proofs.YtedcnpaomphffaaW.PrintMore
set_option linter.unusedVariables false
set_option linter.unusedSimpArgs false
set_option linter.unusedSectionVars false
/-! ### Check -/
theorem nodup_plc {C : List Int} (h : C.Nodup) (i : Nat) (hi : i < C.length) : plc C C[i] = (i : Int) :=
  plc_first hi rfl (fun k hk hki e => by
    rw [List.nodup_iff_pairwise_ne] at h
    exact List.pairwise_iff_getElem.1 h k i hk hi hki e)
theorem plc_nodup {C : List Int} (h : ∀ i (hi : i < C.length), plc C C[i] = (i : Int)) : C.Nodup := by
  rw [List.nodup_iff_pairwise_ne, List.pairwise_iff_getElem]
  intro i j hi hj hij e
  have h1 := h i hi
  have h2 := h j hj
  rw [e, h2] at h1
  omega
theorem actOf_iff {h : Hs} {j : Nat} {a : Ac} : actOf h j a = true ↔ a.t ∈ h.C ∧ (a.wr = true → wrs (h.A.take j) a.t a.item = false ∧ a.v = 0) ∧ (a.wr = false → a.v = 0 ∨ (a.v ∈ h.C ∧ wrs h.A a.v a.item = true)) := by
  unfold actOf
  cases a.wr <;> simp
theorem ok_of {h : Hs} (h1 : h.A.length ≤ 4096) (h2 : h.C.length ≤ 4096) (h3 : ∀ i (hi : i < h.C.length), 1 ≤ h.C[i] ∧ plc h.C h.C[i] = (i : Int)) (h4 : ∀ j (hj : j < h.A.length), actOf h j h.A[j] = true) : OkH h where
  la := h1
  lc := h2
  pos c hc := by
    obtain ⟨i, hi, rfl⟩ := List.mem_iff_getElem.1 hc
    exact (h3 i hi).1
  nd := plc_nodup (fun i hi => (h3 i hi).2)
  inC a ha := by
    obtain ⟨j, hj, rfl⟩ := List.mem_iff_getElem.1 ha
    exact (actOf_iff.1 (h4 j hj)).1
  wv a ha hw := by
    obtain ⟨j, hj, rfl⟩ := List.mem_iff_getElem.1 ha
    exact ((actOf_iff.1 (h4 j hj)).2.1 hw).2
  once := by
    rw [List.pairwise_iff_getElem]
    rintro i j hi hj hij ⟨k1, k2, k3, k4⟩
    have := ((actOf_iff.1 (h4 j hj)).2.1 k2).1
    have h5 : wrs (h.A.take j) h.A[j].t h.A[j].item = true := wrs_iff.2 ⟨h.A[i], List.mem_iff_getElem.2 ⟨i, by rw [List.length_take]; omega, by rw [List.getElem_take]⟩, k1, k3, k4⟩
    rw [h5] at this
    cases this
  rd a ha hw := by
    obtain ⟨j, hj, rfl⟩ := List.mem_iff_getElem.1 ha
    exact (actOf_iff.1 (h4 j hj)).2.2 hw
theorem ok_act {h : Hs} (k : OkH h) (j : Nat) (hj : j < h.A.length) : actOf h j h.A[j] = true := by
  have hm := List.getElem_mem hj
  refine actOf_iff.2 ⟨k.inC _ hm, fun hw => ⟨?_, k.wv _ hm hw⟩, k.rd _ hm⟩
  cases hx : wrs (h.A.take j) h.A[j].t h.A[j].item with
  | false => rfl
  | true =>
    exfalso
    obtain ⟨a, ha, k1, k2, k3⟩ := wrs_iff.1 hx
    obtain ⟨i, hi, rfl⟩ := List.mem_iff_getElem.1 ha
    rw [List.length_take] at hi
    rw [List.getElem_take] at k1 k2 k3
    exact List.pairwise_iff_getElem.1 k.once i j (by omega) hj (by omega) ⟨k1, hw, k2, k3⟩
def ChC (w : World) (h : Hs) (v : Value) (wr : World) : Prop := ∃ i : Nat, v = .int .i64 (i : Int) ∧ i ≤ h.C.length ∧ (∀ k (hk : k < h.C.length), k < i → 1 ≤ h.C[k] ∧ plc h.C h.C[k] = (k : Int)) ∧ Below w.heap.size w wr
def ChA (w : World) (h : Hs) (v : Value) (wr : World) : Prop := ∃ i : Nat, v = .int .i64 (i : Int) ∧ i ≤ h.A.length ∧ (∀ k (hk : k < h.A.length), k < i → actOf h k h.A[k] = true) ∧ Below w.heap.size w wr
set_option maxHeartbeats 8000000 in
set_option maxRecDepth 100000 in
theorem RCheck_calls (z : HV) (w : World) (hz : z.OK w) :
    Calls Try.prog 6 #[mkH z] w fun e w' => e = .returned (.int .i64 (chk z.h)) ∧ Below w.heap.size w w' := by
  obtain ⟨A1, c1, A2, c2, h⟩ := z
  obtain ⟨w1, hw1, B1, hz1, b0, b1⟩ := hv_box _ w hz
  obtain ⟨bx, hbx⟩ : ∃ bx, bx = w.heap.size := ⟨_, rfl⟩
  have hl := hz.la
  have hl2 := hz.lc
  have PL := fun W (B : Below w1.heap.size w1 W) x => place_calls _ x W (hz1.below B)
  have AC := fun W (B : Below w1.heap.size w1 W) j hj => act_calls _ j hj W (hz1.below B)
  have zc : ∀ W, Below w1.heap.size w1 W → dI.C W A1 h.C.length h.C := fun W B => (hz1.below B).c
  dsimp only [mkH] at hw1 b0 b1 hl hl2 PL AC ⊢
  clear hz hz1
  have bad : ¬ OkH h → ∀ W, Below w1.heap.size w1 W → Ending.returned (.int .i64 110) = Ending.returned (.int .i64 (chk h)) ∧ Below w.heap.size w W := fun hn W B => ⟨by rw [chk_no hn], below_then B1 B1.size B⟩
  by_cases hA : (h.A.length : Int) > 4096
  · have F := bad (fun k => by have := k.la; omega) w1 (Below.refl _ _)
    replace F := Aside0.mk F
    clear PL AC zc bad
    go_enter Try.func6, Try.ntmps6
    go_upto_region 1 with (fail)
    rw [← hw1, ← hbx]
    rw [← hbx] at b0 b1
    clear hw1
    replace hbx := Aside0.mk hbx
    go_wp2
    go_ret
    exact F.out
  by_cases hC : (h.C.length : Int) > 4096
  · have F := bad (fun k => by have := k.lc; omega) w1 (Below.refl _ _)
    replace F := Aside0.mk F
    clear PL AC zc bad
    go_enter Try.func6, Try.ntmps6
    go_upto_region 1 with (fail)
    rw [← hw1, ← hbx]
    rw [← hbx] at b0 b1
    clear hw1
    replace hbx := Aside0.mk hbx
    go_wp2
    go_ret
    exact F.out
  · have J0 : ChC w1 h (.int .i64 0) w1 := ⟨0, rfl, Nat.zero_le _, fun _ _ h => by omega, Below.refl _ _⟩
    replace bad := Aside0.mk bad
    go_enter Try.func6, Try.ntmps6
    go_upto_region 1 with (fail)
    rw [← hw1, ← hbx]
    rw [← hbx] at b0 b1
    clear hw1
    replace hbx := Aside0.mk hbx
    go_wp2_with fail
    go_loopw [3] (fun v wr => ChC w1 h v wr) (fun v _ => h.C.length - (intOf v).toNat)
    case atStart => exact J0
    case round =>
      clear J0
      obtain ⟨i, rfl, hi, hb, B⟩ := hrel
      have d0 := up_below B b0
      have d1 := up_below B b1
      by_cases hlt : i < h.C.length
      · obtain ⟨ad, rfl, q0⟩ := CI_at (zc wr B) i hlt
        have PL2 := fun n => PL (wr.drewN n) (below_then B B.size (drewB wr n)) h.C[i]
        have BD := drewB wr 1
        have hil : (i : Int) < (h.C.length : Int) := by omega
        by_cases h1 : h.C[i] < 1
        · have F := fun n => bad.out (fun k => by have := k.pos _ (List.getElem_mem hlt); omega) (wr.drewN n) (below_then B B.size (drewB wr n))
          have dd : decide (h.C[i] < 1) = true := decide_eq_true h1
          generalize h.C[i] = x at q0 dd
          clear hb PL2 AC PL zc h1
          replace F := Aside0.mk F
          go_wp2_with fail
          go_quiet (fail)
          go_wp2
          go_ret
          exact F.out _
        · have dd : decide (h.C[i] < 1) = false := decide_eq_false h1
          by_cases h2 : plc h.C h.C[i] = (i : Int)
          · have fin : ∀ W, Below wr.heap.size wr W → ChC w1 h (.int .i64 ((i : Int) + 1)) W := fun W BW => ⟨i + 1, by simp, by omega, fun k hk hki => by
              rcases Nat.lt_or_ge k i with h3 | h3
              · exact hb k hk h3
              · obtain rfl : k = i := by omega
                exact ⟨by omega, h2⟩, below_then B B.size BW⟩
            rw [h2] at PL2
            generalize h.C[i] = x at q0 dd PL2
            clear hb AC PL zc h1 h2
            replace fin := Aside0.mk fin
            go_wp2_with fail
            go_region_held3 (fun V => V.cell? ⟨bx, 0, none⟩ = some (.slice (some ad) h.C.length c1) ∧ V.cell? ⟨bx, 1, none⟩ = some (.slice A2 h.A.length c2) ∧ V.cell? (ad.add i) = some (.int .i64 x)) (first | exact ⟨d0, d1, q0⟩ | exact ⟨K9 _ _ d0, K9 _ _ d1, K9 _ _ q0⟩)
              ((go_at_call 18; refine (PL2 _).mono ?_; rintro e W' ⟨rfl, B'⟩; have K9 : ∀ q v, wr.cell? q = some v → W'.cell? q = some v := fun q v hv => (B'.cell (World.block_lt_of_cell? _ _ hv)).trans hv))
            have F := fin.out W' (below_then BD BD.size B')
            replace F := Aside0.mk F
            go_wp2
            refine ⟨F.out, ?_⟩
            simp [intOf]
            omega
          · have F := fun W (BW : Below wr.heap.size wr W) => bad.out (fun k => h2 (nodup_plc k.nd i hlt)) W (below_then B B.size BW)
            have h2' : (plc h.C h.C[i] != (i : Int)) = true := by simpa using h2
            generalize plc h.C h.C[i] = pv at PL2 h2'
            generalize h.C[i] = x at q0 dd PL2
            clear hb AC PL zc h1 h2
            replace F := Aside0.mk F
            go_wp2_with fail
            go_region_held3 (fun V => V.cell? ⟨bx, 0, none⟩ = some (.slice (some ad) h.C.length c1) ∧ V.cell? ⟨bx, 1, none⟩ = some (.slice A2 h.A.length c2) ∧ V.cell? (ad.add i) = some (.int .i64 x)) (first | exact ⟨d0, d1, q0⟩ | exact ⟨K9 _ _ d0, K9 _ _ d1, K9 _ _ q0⟩)
              ((go_at_call 18; refine (PL2 _).mono ?_; rintro e W' ⟨rfl, B'⟩; have K9 : ∀ q v, wr.cell? q = some v → W'.cell? q = some v := fun q v hv => (B'.cell (World.block_lt_of_cell? _ _ hv)).trans hv))
            have F2 := F.out W' (below_then BD BD.size B')
            replace F2 := Aside0.mk F2
            go_wp2
            go_ret
            exact F2.out
      · have hie : i = h.C.length := by omega
        have hge : ¬ (i : Int) < (h.C.length : Int) := by omega
        have hall : ∀ k (hk : k < h.C.length), 1 ≤ h.C[k] ∧ plc h.C h.C[k] = (k : Int) := fun k hk => hb k hk (by omega)
        have J1 : ChA w1 h (.int .i64 0) wr := ⟨0, rfl, Nat.zero_le _, fun _ _ h => by omega, B⟩
        replace hie := Aside0.mk hie
        replace hall := Aside0.mk hall
        clear hb B zc PL
        go_wp2_with fail
        go_loopw [4] (fun v wr => ChA w1 h v wr) (fun v _ => h.A.length - (intOf v).toNat)
        case atStart => exact J1
        case round =>
          clear J1 d0 d1
          obtain ⟨j, rfl, hj, hb, B⟩ := hrel
          have d0 := up_below B b0
          have d1 := up_below B b1
          by_cases hlj : j < h.A.length
          · have AC2 := AC wr B j hlj
            cases ha : actOf h j h.A[j] with
            | true =>
              have fin : ∀ W, Below wr.heap.size wr W → ChA w1 h (.int .i64 ((j : Int) + 1)) W := fun W BW => ⟨j + 1, by simp, by omega, fun k hk hkj => by
                rcases Nat.lt_or_ge k j with h3 | h3
                · exact hb k hk h3
                · obtain rfl : k = j := by omega
                  exact ha, below_then B B.size BW⟩
              rw [ha] at AC2
              clear hb AC ha
              replace fin := Aside0.mk fin
              go_wp2_with fail
              refine AC2.mono ?_
              rintro e W' ⟨rfl, B'⟩
              have F := fin.out W' B'
              replace F := Aside0.mk F
              go_wp2
              refine ⟨F.out, ?_⟩
              simp [intOf]
              omega
            | false =>
              have F := fun W (BW : Below wr.heap.size wr W) => bad.out (fun k => by rw [ok_act k j hlj] at ha; cases ha) W (below_then B B.size BW)
              rw [ha] at AC2
              clear hb AC ha
              replace F := Aside0.mk F
              go_wp2_with fail
              refine AC2.mono ?_
              rintro e W' ⟨rfl, B'⟩
              have F2 := F.out W' B'
              replace F2 := Aside0.mk F2
              go_wp2
              go_ret
              exact F2.out
          · have hge2 : ¬ (j : Int) < (h.A.length : Int) := by omega
            have hok : chk h = 0 := chk_ok (ok_of (by omega) (by omega) hall.out (fun k hk => hb k hk (by omega)))
            replace hok := Aside0.mk hok
            clear hb AC
            go_wp2
            go_ret
            exact ⟨by rw [hok.out]; rfl, below_then B1 B1.size B⟩
end Go.Proofs.Ytedcnpaomphffaa
