import Derived.Test.YtbellkkheppofaaX
import Derived.IntWalk
namespace Go.Proofs.Ytbellkkheppofaa
open Go.RowKit Go.Maps Go.Sort Go.Lib Go.Proofs.YtbellkkheppofaaW.PrintWords Go.Proofs.YtbellkkheppofaaW.PrintLast Go.Proofs.YtbellkkheppofaaW.PrintMore
set_option linter.unusedVariables false
set_option linter.unusedSimpArgs false
set_option linter.unusedSectionVars false
theorem take_filter {L : List (Lk × Int)} (f : Lk × Int → Bool) {j : Nat} (hj : j < L.length) : (L.take (j + 1)).filter f = (L.take j).filter f ++ (if f L[j] = true then [L[j]] else []) := by
  rw [List.take_succ_eq_append_getElem hj, List.filter_append]
  congr 1
  by_cases e : f L[j] = true
  · rw [if_pos e, List.filter_cons_of_pos e, List.filter_nil]
  · rw [if_neg e, List.filter_cons_of_neg e, List.filter_nil]
theorem filter_two (L : List (Lk × Int)) (tx : Int) : (L.filter (fun p => decide (p.2 = tx))).length + (L.filter (fun p => decide (p.2 ≠ tx))).length = L.length := by
  induction L with
  | nil => rfl
  | cons p L ih =>
    by_cases e : p.2 = tx
    · simp [e] at ih ⊢; omega
    · simp [e] at ih ⊢; omega
/-- the document's release under way -/
def RR (w : World) (base br : Nat) (most : Int) (L : List (Lk × Int)) (v : Value) (tx : Int) (lv iv : Value) (wr : World) : Prop :=
  ∃ j : Nat, j ≤ L.length ∧ iv = .int .i64 j ∧ Rm wr base br most L v ∧ Lo encH 3 64 wr w.heap.size lv ((L.take j).filter (fun p => decide (p.2 ≠ tx))) ∧ Below w.heap.size w wr
set_option maxHeartbeats 4000000 in
set_option maxRecDepth 100000 in
theorem RRelease_calls (base br : Nat) (most : Int) (L : List (Lk × Int)) (v : Value) (tx : Int) (w : World) (h : Rm w base br most L v) (hL : L.length ≤ 4096) (hbase : base ≤ w.heap.size) :
    Calls Try.prog 26 #[.pointer (some ⟨br, 0, none⟩), .int .i64 tx] w fun e w' => e = .returned (.int .i64 ((L.filter (fun p => p.2 = tx)).length : Nat)) ∧ (∃ v', Rm w' base br most (L.filter (fun p => p.2 ≠ tx)) v') ∧ w.grownBy w' (some br) := by
  obtain ⟨A, c, rfl, hlc, hA⟩ := h.row.slice
  have hbr := (Array.getElem?_eq_some_iff.1 h.obj).1
  have htwo := filter_two L tx
  have hold : ∀ b, (Value.slice A L.length c).ownBlock = some b → b < w.heap.size := fun b hb => (h.row.typed b hb).2.1
  go_enter Try.func26, Try.ntmps26
  go_wp2_with fail
  go_loopw [5, 6] (fun lv iv wr => RR w base br most L (.slice A L.length c) tx lv iv wr) (fun _ iv _ => L.length - (intOf iv).toNat)
  case atStart => exact ⟨0, Nat.zero_le _, rfl, h, Lo.nil _ _, Below.refl _ _⟩
  case round =>
    clear h
    obtain ⟨j, hj, rfl, h1, hl, hB⟩ := hrel
    have o2 := h1.c2
    by_cases hjl : j < L.length
    · obtain ⟨g, rfl, hgb⟩ := hA (by omega)
      have htf := take_filter (fun p => decide (p.2 ≠ tx)) hjl
      obtain ⟨y, hy⟩ : ∃ y, y = L[j] := ⟨_, rfl⟩
      rw [← hy] at htf
      have y0 : wr.cell? ⟨g, j * 3, none⟩ = some (.string y.1.1) := by
        have := h1.row.cell (fun _ => rfl) rfl j L[j] (List.getElem?_eq_getElem hjl) 0 _ rfl
        rw [hy]; simpa using this
      have y1 : wr.cell? ⟨g, j * 3 + 1, none⟩ = some (.string y.1.2) := by
        have := h1.row.cell (fun _ => rfl) rfl j L[j] (List.getElem?_eq_getElem hjl) 1 _ rfl
        rw [hy]; simpa using this
      have y2 : wr.cell? ⟨g, j * 3 + 2, none⟩ = some (.int .i64 y.2) := by
        have := h1.row.cell (fun _ => rfl) rfl j L[j] (List.getElem?_eq_getElem hjl) 2 _ rfl
        rw [hy]; simpa using this
      replace hy := Aside0.mk hy
      by_cases he : y.2 = tx
      · have he' : (y.2 != tx) = false := by simpa using he
        rw [if_neg (by simpa using he), List.append_nil] at htf
        replace htf := Aside0.mk htf
        clear he
        go_wp2
        go_roundw
        case rel => exact ⟨j + 1, by omega, by go_num, h1, by rw [htf.out]; exact hl, hB⟩
        case measure => simp [intOf]; omega
      · have he' : (y.2 != tx) = true := by simpa using he
        rw [if_pos (by simpa using he)] at htf
        have hlen : ((L.take j).filter (fun p => decide (p.2 ≠ tx))).length ≤ 4096 := by
          have h1 := List.length_filter_le (fun p : Lk × Int => decide (p.2 ≠ tx)) (L.take j)
          rw [List.length_take] at h1
          omega
        obtain ⟨v1, w3, hrun, hl3, hg3⟩ := Lo.append (P := Try.prog) hl (fun _ => rfl) encH_one 41 41 _ 40 Try.underlying41 info64 zero64 (by omega) (by omega) y (by omega) hB.size
        have hob := fun k hk => hl.typed k hk
        replace htf := Aside0.mk htf
        have hap : ∀ b, u5.ownBlock = some b → w.heap.size ≤ b := fun b hb => (hl.typed b hb).1
        clear he hlen
        go_wp2_with (at_builtin; refine app_list rfl rfl rfl rfl hrun ?_)
        go_roundw
        case rel => exact ⟨j + 1, by omega, by go_num, h1.grown hg3 (fun e => by have := hap _ e; omega) (fun b e => by
            have h1 := hap b e
            intro e'
            have h2 := hold b e'
            omega), by rw [htf.out]; exact hl3, hB.grown hg3 hB.size (fun k e => hap k e)⟩
        case measure => simp [intOf]; omega
    · obtain rfl : j = L.length := by omega
      rw [List.take_length] at hl
      obtain ⟨B, cB, rfl, hB1, hB2⟩ := hl.slice
      have f2 : wr.frozen? ⟨br, 2, none⟩ = false := blk_frozen h1.obj _
      have gs := grown_set wr br 2 (.slice B (L.filter (fun p => decide (p.2 ≠ tx))).length cB)
      have hw : IntKind.i64.wrap ((L.length : Int) - ((L.filter (fun p => decide (p.2 ≠ tx))).length : Int)) = ((L.filter (fun p => decide (p.2 = tx))).length : Int) := by
        rw [show (L.length : Int) - ((L.filter (fun p => decide (p.2 ≠ tx))).length : Int) = ((L.filter (fun p => decide (p.2 = tx))).length : Int) by omega]
        exact IntWalk.i64_in _ (by omega)
      have hlv : Lo encH 3 64 (wr.setCell ⟨br, 2, none⟩ (.slice B (L.filter (fun p => decide (p.2 ≠ tx))).length cB)) base (.slice B (L.filter (fun p => decide (p.2 ≠ tx))).length cB) (L.filter (fun p => decide (p.2 ≠ tx))) :=
        (hl.grown gs (fun b e e' => by injection e with e; subst e; have := (hl.typed _ e').1; omega)).lower hbase
      have hob : (wr.setCell ⟨br, 2, none⟩ (.slice B (L.filter (fun p => decide (p.2 ≠ tx))).length cB)).heap[br]? = some (.cells #[.bool true, .int .i64 most, .slice B (L.filter (fun p => decide (p.2 ≠ tx))).length cB] 43 (0, 0)) := by
        rw [blk_set h1.obj]; rfl
      have hgr : w.grownBy (wr.setCell ⟨br, 2, none⟩ (.slice B (L.filter (fun p => decide (p.2 ≠ tx))).length cB)) (some br) := trans_grown (grown_of_below hB (some br)) gs
      generalize hnn : (L.filter (fun p => decide (p.2 ≠ tx))).length = nn at *
      clear hl htwo h1
      go_wp2
      go_ret
      refine ⟨?_, ⟨_, hob, hlv⟩, hgr⟩
      first | rfl | exact congrArg _ (congrArg _ hw) | (rw [← hw]; rfl) | simp [*]
end Go.Proofs.Ytbellkkheppofaa
