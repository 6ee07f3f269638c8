import Derived.Test.YtbellkkheppofaaZA
namespace Go.Proofs.Ytbellkkheppofaa
open Go.RowKit Go.Maps Go.Sort Go.Lib Go.Proofs.YtbellkkheppofaaW.PrintWords Go.Proofs.YtbellkkheppofaaW.PrintLast Go.Proofs.YtbellkkheppofaaW.PrintMore
set_option linter.unusedVariables false
set_option linter.unusedSimpArgs false
set_option linter.unusedSectionVars false
/-- the document's Holders under way -/
def RJ (w : World) (base br : Nat) (most : Int) (L : List (Lk × Int)) (v : Value) (t f u : ByteArray) (ov iv : Value) (wr : World) : Prop :=
  ∃ j : Nat, j ≤ L.length ∧ iv = .int .i64 j ∧ Rm wr base br most L v ∧ Lo encI 1 2 wr w.heap.size ov (((L.take j).filter (fun p => inR t f u p.1)).map (·.2)) ∧ Below w.heap.size w wr
set_option maxHeartbeats 8000000 in
set_option maxRecDepth 100000 in
theorem RHolders_calls (base br : Nat) (most : Int) (L : List (Lk × Int)) (v : Value) (t f u : ByteArray) (w : World) (h : Rm w base br most L v) (hL : L.length ≤ 4096) (hbase : base ≤ w.heap.size) :
    Calls Try.prog 21 #[.pointer (some ⟨br, 0, none⟩), .string t, .string f, .string u] w fun e w' => ∃ v', e = .returned v' ∧ Lo encI 1 2 w' w.heap.size v' (holdersOf L t f u) ∧ Below w.heap.size w w' := by
  obtain ⟨A, c, rfl, hlc, hA⟩ := h.row.slice
  have hold : ∀ b, (Value.slice A L.length c).ownBlock = some b → b < w.heap.size := fun b hb => (h.row.typed b hb).2.1
  have hbr := (Array.getElem?_eq_some_iff.1 h.obj).1
  go_enter Try.func21, Try.ntmps21
  go_wp2_with fail
  go_loopw [9, 10] (fun ov iv wr => RJ w base br most L (.slice A L.length c) t f u ov iv wr) (fun _ iv _ => L.length - (intOf iv).toNat)
  case atStart => exact ⟨0, Nat.zero_le _, rfl, h, Lo.nil _ _, Below.refl _ _⟩
  case round =>
    clear h
    obtain ⟨j, hj, rfl, h1, hl, hB⟩ := hrel
    have o2 := h1.c2
    have hlen : ((((L.take j).filter (fun p => inR t f u p.1)).map (·.2)).length) ≤ 4096 := by
      rw [List.length_map]
      have h1 := List.length_filter_le (fun p : Lk × Int => inR t f u p.1) (L.take j)
      rw [List.length_take] at h1
      omega
    by_cases hjl : j < L.length
    · obtain ⟨g, rfl, hgb⟩ := hA (by omega)
      have htf := take_filter (fun p => inR t f u p.1) hjl
      obtain ⟨y, hy⟩ : ∃ y, y = L[j] := ⟨_, rfl⟩
      rw [← hy] at htf
      have y0 : wr.cell? ⟨g, j * 3, none⟩ = some (.string y.1.1) := by
        rw [hy]; simpa using h1.row.cell (fun _ => rfl) rfl j L[j] (List.getElem?_eq_getElem hjl) 0 _ rfl
      have y1 : wr.cell? ⟨g, j * 3 + 1, none⟩ = some (.string y.1.2) := by
        rw [hy]; simpa using h1.row.cell (fun _ => rfl) rfl j L[j] (List.getElem?_eq_getElem hjl) 1 _ rfl
      have y2 : wr.cell? ⟨g, j * 3 + 2, none⟩ = some (.int .i64 y.2) := by
        rw [hy]; simpa using h1.row.cell (fun _ => rfl) rfl j L[j] (List.getElem?_eq_getElem hjl) 2 _ rfl
      replace hy := Aside0.mk hy
      have WC := fun W => Within_calls y.1.2 f u W
      have hin : inR t f u y.1 = ((y.1.1.toList == t.toList) && (!Op.bytesLess y.1.2.toList f.toList && (u.toList.isEmpty || Op.bytesLess y.1.2.toList u.toList))) := rfl
      generalize (!Op.bytesLess y.1.2.toList f.toList && (u.toList.isEmpty || Op.bytesLess y.1.2.toList u.toList)) = wi at WC hin
      have out : inR t f u y.1 = false → RJ w base br most L (.slice (some ⟨g, 0, none⟩) L.length c) t f u u9 (.int .i64 ((j : Int) + 1)) wr := by
        intro hno
        rw [hno] at htf
        exact ⟨j + 1, by omega, by go_num, h1, by rw [htf]; simpa using hl, hB⟩
      cases ht : (y.1.1.toList == t.toList) with
      | false =>
        have htp : ¬ (y.1.1.toList = t.toList) := by simpa using ht
        have O := out (by rw [hin, ht]; rfl)
        clear out hin htf WC
        replace O := Aside0.mk O
        go_wp2
        go_roundw
        case rel => exact O.out
        case measure => simp [intOf]; omega
      | true =>
        have htp : y.1.1.toList = t.toList := by simpa using ht
        cases wi with
        | false =>
          have O := out (by rw [hin, ht]; rfl)
          clear out hin htf
          replace O := Aside0.mk O
          go_wp2_with (go_at_call 35; refine (WC _).mono ?_; rintro e w' ⟨rfl, rfl⟩)
          go_roundw
          case rel => exact O.out
          case measure => simp [intOf]; omega
        | true =>
          have hyes : inR t f u y.1 = true := by rw [hin, ht]; rfl
          rw [hyes, if_pos rfl] at htf
          obtain ⟨v1, w3, hrun, hl3, hg3⟩ := Lo.append (P := Try.prog) hl (fun _ => rfl) encI_one 36 36 _ 8 Try.underlying36 info2 rfl (by omega) (by omega) y.2 (by omega) hB.size
          have hap : ∀ b, u9.ownBlock = some b → w.heap.size ≤ b := fun b hb => (hl.typed b hb).1
          have O : RJ w base br most L (.slice (some ⟨g, 0, none⟩) L.length c) t f u v1 (.int .i64 ((j : Int) + 1)) w3 := ⟨j + 1, by omega, by go_num, h1.grown hg3 (fun e => by have := hap _ e; omega) (fun b e e' => by have h1 := hap b e; have h2 := hold b e'; omega), by rw [htf, List.map_append]; exact hl3, hB.grown hg3 hB.size (fun k e => hap k e)⟩
          clear out hin htf hyes hl3 hg3
          replace O := Aside0.mk O
          go_wp2_with (first | (go_at_call 35; refine (WC _).mono ?_; rintro e w' ⟨rfl, rfl⟩) | (at_builtin; refine app_list rfl rfl rfl rfl hrun ?_))
          go_roundw
          case rel => exact O.out
          case measure => simp [intOf]; omega
    · obtain rfl : j = L.length := by omega
      rw [List.take_length] at hl hlen
      have R := Rise_calls w.heap.size u9 _ wr hl hlen
      go_wp2_with fail
      refine R.mono ?_
      rintro e w3 ⟨v3, rfl, L3, B3⟩
      go_wp2
      go_ret
      exact ⟨_, rfl, L3.lower hB.size, below_then hB hB.size B3⟩
end Go.Proofs.Ytbellkkheppofaa
