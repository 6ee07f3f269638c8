import Derived.Test.YtbellkkheppofaaQ
import Derived.IntWalk
namespace Go.Proofs.Ytbellkkheppofaa
open Go.RowKit Go.Maps Go.Sort Go.Proofs.YtbellkkheppofaaW.PrintWords Go.Proofs.YtbellkkheppofaaW.PrintLast Go.Proofs.YtbellkkheppofaaW.PrintMore
set_option linter.unusedVariables false
set_option linter.unusedSimpArgs false
set_option linter.unusedSectionVars false
def encI (x : Int) : List Value := [.int .i64 x]
/-- the two lists, and the manager -/
structure OI (w : World) (B p b : Nat) (most : Int) (L M : List (Lk × Int)) (hv bv : Value) (wr : World) : Prop where
  mg : Mg wr p b most L
  len : (L.length : Int) ≤ most
  pos : ∀ q ∈ L, 1 ≤ q.2
  held : Lo cellsL 2 23 wr B hv (fsts M)
  by_ : Lo encI 1 2 wr B bv (snds M)
  bel : Below w.heap.size w wr
  base : B ≤ wr.heap.size
theorem OI.kept {w wr w2 : World} {B p b : Nat} {most : Int} {L M : List (Lk × Int)} {hv bv : Value} (h : OI w B p b most L M hv bv wr) (hg : wr.grownBy w2 none) : OI w B p b most L M hv bv w2 :=
  ⟨h.mg.kept hg (by simp) (by simp), h.len, h.pos, h.held.grown hg (fun _ e => by cases e), h.by_.grown hg (fun _ e => by cases e), h.bel.grown hg h.bel.size (fun _ e => by cases e), Nat.le_trans h.base hg.size⟩
theorem info2 : (Try.prog.info? 2).map (fun i => (i.zero, i.size, i.bytes)) = some (some (.int .i64 0), 1, 8) := by kernel_rfl
theorem cut3 {P : Program} (t e : TypeId) (ht : P.underlying t = some (.slice e)) {z : Option Value} {size bytes : Nat} (hinfo : (P.info? e).map (fun i => (i.zero, i.size, i.bytes)) = some (z, size, bytes)) (g : Addr) (n c k : Nat) (hk : k ≤ c) (W : World) :
    (Instr.slice t (.slice (some g) n c) none (some (.int .i64 k)) (some (.int .i64 k))).run P W = .ok (.slice (some g) k k) W := by
  obtain ⟨i, hi, _⟩ := Option.map_eq_some_iff.1 hinfo
  simp [Instr.slice, Instr.sliceBounds, Instr.sliceBound, run_underlying ht, sizeOf, typeInfo, hi, asIntOf, go_sem, hk]
theorem cutBehind {P : Program} (t e : TypeId) (ht : P.underlying t = some (.slice e)) {z : Option Value} {size bytes : Nat} (hinfo : (P.info? e).map (fun i => (i.zero, i.size, i.bytes)) = some (z, size, bytes)) (g n c k : Nat) (hk : k < n) (W : World) :
    (Instr.slice t (.slice (some ⟨g, 0, none⟩) n c) (some (.int .i64 ((k : Int) + 1))) none none).run P W = .ok (.slice (if c = k + 1 then some ⟨g, 0, none⟩ else some ⟨g, (k + 1) * size, none⟩) (n - (k + 1)) (c - (k + 1))) W := by
  obtain ⟨i, hi, hz⟩ := Option.map_eq_some_iff.1 hinfo
  simp only [Prod.mk.injEq] at hz
  have := cut_from (P := P) t e .i64 ht hi size hz.2.1 (some ⟨g, 0, none⟩) n c ((k : Int) + 1) (by omega) (by omega) W
  rw [this, show ((k : Int) + 1).toNat = k + 1 by omega]
  simp only [Option.map_some, add_plain]
theorem app_step {P : Program} {ops : Array Oper} {o : Oper} {a : Act} {Q' : Exit → Act → World → Prop} {Kc : Act → World → Prop} {W w1 : World} {s x : Operand} {t : TypeId} {v u v1 : Value} (hw : Region.wanted o (yielded ops a.tmps) = true)
    (ho : o.op = .call { callee := .builtin .append, args := #[s, x], argTypes := #[t, t] }) (hs : a.eval s = v) (hx : a.eval x = u) (hr : (Builtin.append_ #[t, t] o.type #[v, u]).run P W = .ok v1 w1) (h : Kc (a.put o.dst v1) w1) :
    if Region.wanted o (yielded ops a.tmps) = true then Oper.wp P o a W Kc Q' else Kc (a.put o.dst undef) W := by
  rw [if_pos hw]
  unfold Oper.wp execOp
  simp only [ho, resolve, invoke, builtin, Sem.run_bind, Sem.run_pure, Result.andThen_ok, List.map_toArray, List.map_cons, List.map_nil, hs, hx, hr]
  exact h
theorem map_erase {α β : Type} (f : α → β) (l : List α) (i : Nat) : (l.eraseIdx i).map f = (l.map f).eraseIdx i := by
  rw [List.eraseIdx_eq_take_drop_succ, List.eraseIdx_eq_take_drop_succ, List.map_append, List.map_take, List.map_drop]
theorem app_list {P : Program} {ops : Array Oper} {o : Oper} {rest : List Oper} {a : Act} {Q' : Exit → Act → World → Prop} {W w1 : World} {s x : Operand} {t : TypeId} {v u v1 : Value} (hgd : o.guard = none)
    (ho : o.op = .call { callee := .builtin .append, args := #[s, x], argTypes := #[t, t] }) (hs : a.eval s = v) (hx : a.eval x = u) (hr : (Builtin.append_ #[t, t] o.type #[v, u]).run P W = .ok v1 w1) (h : wpList P ops Q' rest (a.put o.dst v1) w1) :
    wpList P ops Q' (o :: rest) a W := by
  refine wpList_plain hgd fun K hK => ?_
  unfold Oper.wp execOp
  simp only [ho, resolve, invoke, builtin, Sem.run_bind, Sem.run_pure, Result.andThen_ok, List.map_toArray, List.map_cons, List.map_nil, hs, hx, hr]
  exact hK _ _ h
theorem tk_ways (most : Int) (L : List (Lk × Int)) (tx snap last : Int) (a : Lk) : ∃ L' e, tk most L tx snap last a = (L', e) ∧
    ((L' = L ∧ ((e == 0) = false ∧ (e == 80) = false)) ∨ (L' = L ∧ e = 0 ∧ got L a = some tx ∧ 1 ≤ tx) ∨ (L' = L ∧ e = 80 ∧ ∃ h, got L a = some h ∧ h ≠ tx) ∨ (L' = L ++ [(a, tx)] ∧ e = 0 ∧ got L a = none ∧ 1 ≤ tx ∧ (L.length : Int) < most)) := by
  unfold tk
  by_cases hx : tx < 1 ∨ snap < 0 ∨ last < 0
  · rw [if_pos hx]
    exact ⟨_, _, rfl, .inl ⟨rfl, rfl, rfl⟩⟩
  · rw [if_neg hx]
    cases hg : got L a with
    | some h =>
      dsimp only
      by_cases e : h = tx
      · rw [if_pos e]
        exact ⟨_, _, rfl, .inr (.inl ⟨rfl, rfl, by rw [e], by omega⟩)⟩
      · rw [if_neg e]
        exact ⟨_, _, rfl, .inr (.inr (.inl ⟨rfl, rfl, h, rfl, e⟩))⟩
    | none =>
      dsimp only
      by_cases e : snap < last
      · rw [if_pos e]
        exact ⟨_, _, rfl, .inl ⟨rfl, rfl, rfl⟩⟩
      · rw [if_neg e]
        by_cases e' : most ≤ L.length
        · rw [if_pos e']
          exact ⟨_, _, rfl, .inl ⟨rfl, rfl, rfl⟩⟩
        · rw [if_neg e']
          exact ⟨_, _, rfl, .inr (.inr (.inr ⟨rfl, rfl, rfl, by omega, by omega⟩))⟩
def lenV : Value → Nat
  | .slice _ n _ => n
  | _ => 0
theorem OI.turned {w wr w2 : World} {B p b : Nat} {most : Int} {L L' M : List (Lk × Int)} {hv bv : Value} (h : OI w B p b most L M hv bv wr) (hb : w.heap.size ≤ b) (hbB : b < B) (hg : wr.grownBy w2 (some b)) (hm : Mg w2 p b most L') (hl : (L'.length : Int) ≤ most) (hp : ∀ q ∈ L', 1 ≤ q.2) : OI w B p b most L' M hv bv w2 :=
  ⟨hm, hl, hp, h.held.grown hg (fun k e e' => by injection e with e; subst e; have := (h.held.typed _ e').1; omega), h.by_.grown hg (fun k e e' => by injection e with e; subst e; have := (h.by_.typed _ e').1; omega), h.bel.grown hg h.bel.size (fun k e => by injection e with e; omega), Nat.le_trans h.base hg.size⟩
/-- the outer loop -/
def ONE (w : World) (B p b : Nat) (most : Int) (n : Nat) (i hv bv : Value) (wr : World) : Prop := ∃ k : Nat, k ≤ n ∧ i = .int .i64 k ∧ ∃ L, OI w B p b most L L hv bv wr
/-- the search's loop -/
def SEEK (w : World) (B p b bx : Nat) (most : Int) (a : Lk) (obj : Obj) (L' L : List (Lk × Int)) (hv bv : Value) (iv ov : Value) (wr : World) : Prop :=
  ∃ j : Nat, j ≤ L.length ∧ iv = .int .i64 j ∧ ov = .int .i64 (hold L a j) ∧ OI w B p b most L' L hv bv wr ∧ wr.heap[bx]? = some obj
/-- the release's loop -/
def RELS (w : World) (B p b bx : Nat) (most tx : Int) (obj : Obj) (L : List (Lk × Int)) (nv iv hv bv : Value) (wr : World) : Prop :=
  ∃ (M : List (Lk × Int)) (i n : Nat), nv = .int .i64 n ∧ iv = .int .i64 i ∧ Gone L tx M i n ∧ OI w B p b most L M hv bv wr ∧ wr.heap[bx]? = some obj
set_option maxHeartbeats 16000000 in
set_option maxRecDepth 100000 in
theorem LockOne_calls (most : Int) (z : Scr) (w : World) (hm : (Lit.int .i64 most).wf = true) (hz : z.OK w) :
    Calls Try.prog 4 #[.int .i64 most, z.val] w fun e w' => e = .returned (.bool true) ∧ Below w.heap.size w w' := by
  obtain ⟨A, c, xs⟩ := z
  obtain ⟨hC, hx, _⟩ := hz
  unfold Scr.val
  dsimp only at hC hx ⊢
  go_enter Try.func4, Try.ntmps4
  go_wp2_with fail
  refine (begun_calls w).mono ?_
  rintro e w2 ⟨rfl, B2⟩
  by_cases h1 : most < 1
  · go_wp2_with fail
    refine (New_bad most w2 (.inl h1)).mono ?_
    rintro e w3 ⟨rfl, rfl⟩
    go_wp2
    go_ret
    exact ⟨rfl, B2⟩
  by_cases h2 : 4096 < most
  · go_wp2_with fail
    refine (New_bad most w2 (.inr h2)).mono ?_
    rintro e w3 ⟨rfl, rfl⟩
    go_wp2
    go_ret
    exact ⟨rfl, B2⟩
  go_wp2_with fail
  refine (New_calls most w2 (by omega) (by omega)).mono ?_
  rintro e w3 ⟨rfl, M3, B3⟩
  have hB3 := below_then B2 B2.size B3
  have hs3 := World.block_lt_of_cell? _ _ M3.most
  simp only [] at hs3
  have hs2 := B2.size
  clear B3 B2
  have hbp : w2.heap.size < w3.heap.size := by omega
  generalize w2.heap.size + 1 = p at M3 hs3 ⊢
  generalize w2.heap.size = b at M3 hs2 hbp ⊢
  have hn := hC.2.1
  go_wp2_with fail
  go_loopw [36, 7, 8] (fun i hv bv wr => ONE w w3.heap.size p b most xs.length i hv bv wr) (fun i _ _ _ => xs.length - (intOf i).toNat)
  case atStart =>
    exact ⟨0, Nat.zero_le _, rfl, [], M3, by simp; omega, by simp, Lo.nil _ _, Lo.nil _ _, hB3, Nat.le_refl _⟩
  case round =>
    obtain ⟨k, hk, rfl, L, O⟩ := hrel
    by_cases hlt : k < xs.length
    · obtain ⟨ad, cs, rfl, hcl, hcs, hcc⟩ := Kd.C_get (Kd.C_below hC O.bel) ⟨0, 0, 0, 0, (ByteArray.empty, ByteArray.empty), ByteArray.empty⟩ (k : Int) (by omega) (by omega)
      generalize haa : xs.getD (k : Int).toNat ⟨0, 0, 0, 0, (ByteArray.empty, ByteArray.empty), ByteArray.empty⟩ = x at hcs
      obtain rfl : cs = x.cells := hcs
      have hx1 : x.OK := by
        have hm : x ∈ xs := by
          rw [← haa, Int.toNat_natCast, List.getD_eq_getElem?_getD, List.getElem?_eq_getElem hlt]
          exact List.getElem_mem hlt
        exact hx _ hm
      obtain ⟨d, tx, snap, last, a, u⟩ := x
      have q0 : wr.cell? (ad.add (k * 7)) = some (.int .i64 d) := hcc 0 _ rfl
      have q1 : wr.cell? ⟨(ad.add (k * 7)).block, (ad.add (k * 7)).off + 1, none⟩ = some (.int .i64 tx) := by rw [← add_field _ _ _ (by omega)]; exact hcc 1 _ rfl
      have q2 : wr.cell? ⟨(ad.add (k * 7)).block, (ad.add (k * 7)).off + 2, none⟩ = some (.int .i64 snap) := by rw [← add_field _ _ _ (by omega)]; exact hcc 2 _ rfl
      have q3 : wr.cell? ⟨(ad.add (k * 7)).block, (ad.add (k * 7)).off + 3, none⟩ = some (.int .i64 last) := by rw [← add_field _ _ _ (by omega)]; exact hcc 3 _ rfl
      have q4 : wr.cell? ⟨(ad.add (k * 7)).block, (ad.add (k * 7)).off + 4, none⟩ = some (.string a.1) := by rw [← add_field _ _ _ (by omega)]; exact hcc 4 _ rfl
      have q5 : wr.cell? ⟨(ad.add (k * 7)).block, (ad.add (k * 7)).off + 5, none⟩ = some (.string a.2) := by rw [← add_field _ _ _ (by omega)]; exact hcc 5 _ rfl
      have q6 : wr.cell? ⟨(ad.add (k * 7)).block, (ad.add (k * 7)).off + 6, none⟩ = some (.string u) := by rw [← add_field _ _ _ (by omega)]; exact hcc 6 _ rfl
      clear hcc hcl haa
      obtain ⟨w6, hw6⟩ : ∃ w6, w6 = wr.alloc (.cells #[.int .i64 d, .int .i64 tx, .int .i64 snap, .int .i64 last, .string a.1, .string a.2, .string u] 32) := ⟨_, rfl⟩
      have g6 : wr.grownBy w6 none := by rw [hw6]; exact World.grownBy_alloc _ _ _
      have r0 : w6.heap[wr.heap.size]? = some (.cells #[.int .i64 d, .int .i64 tx, .int .i64 snap, .int .i64 last, .string a.1, .string a.2, .string u] 32 (0, 0)) := by rw [hw6]; exact heap_alloc_new wr _
      have O6 := O.kept g6
      have hbx := O.base
      go_upto_region 11 with (fail)
      rw [← hw6]
      clear hw6 q0 q1 q2 q3 q4 q5 q6 g6 O
      generalize hbxe : wr.heap.size = bx at r0 hbx
      have s0 := (cell_of_row w6 bx 0 _ 32 (0, 0) r0).trans (by rfl : _ = some (.int .i64 d))
      have s1 := (cell_of_row w6 bx 1 _ 32 (0, 0) r0).trans (by rfl : _ = some (.int .i64 tx))
      go_upto_if 42 with (fail)
      go_cut [7, 8] (fun hv bv wx => ∃ L', OI w w3.heap.size p b most L' L' hv bv wx ∧ wx.heap[bx]? = some (.cells #[.int .i64 d, .int .i64 tx, .int .i64 snap, .int .i64 last, .string a.1, .string a.2, .string u] 32 (0, 0)))
      case first =>
        by_cases hd : d = 4
        · subst hd
          go_wp2_with fail
          have hlm : L.length ≤ 4096 := by have := O6.len; omega
          have r0' := r0
          clear r0 s0 s1
          go_loopw [11, 12, 7, 8] (fun nv iv hv bv wr => RELS w w3.heap.size p b bx most tx (.cells #[.int .i64 4, .int .i64 tx, .int .i64 snap, .int .i64 last, .string a.1, .string a.2, .string u] 32 (0, 0)) L nv iv hv bv wr) (fun _ iv hv _ _ => lenV hv - (intOf iv).toNat)
          case atStart => exact ⟨L, 0, 0, rfl, rfl, Gone.start L tx, O6, r0'⟩
          case round =>
            obtain ⟨M, i, n, rfl, rfl, hG, OM, r0⟩ := hrel
            have hle := hG.le
            obtain ⟨Ah, ch, rfl, hch, hAh⟩ := OM.held.slice
            obtain ⟨Ab, cb, rfl, hcb, hAb⟩ := OM.by_.slice
            have e1 : (fsts M).length = M.length := by simp [fsts]
            have e2 : (snds M).length = M.length := by simp [snds]
            rw [e1] at hch hAh OM ⊢
            rw [e2] at hcb hAb OM ⊢
            by_cases hi : i < M.length
            · obtain ⟨gh, rfl, hgh⟩ := hAh (by omega)
              obtain ⟨gb, rfl, hgb⟩ := hAb (by omega)
              have y0 : wr.cell? ⟨gb, i, none⟩ = some (.int .i64 (M[i]).2) := by
                have := OM.by_.cell (fun _ => rfl) rfl i (M[i]).2 (by simp [snds, hi]) 0 _ rfl
                simpa using this
              have s1 := (cell_of_row wr bx 1 _ 32 (0, 0) r0).trans (by rfl : _ = some (.int .i64 tx))
              obtain ⟨y, hy⟩ : ∃ y, y = (M[i]).2 := ⟨_, rfl⟩
              rw [← hy] at y0
              have D := OM.kept (w2 := wr.drew) ⟨rfl, rfl, rfl, Nat.le_refl _, fun _ _ _ => rfl⟩
              by_cases hyt : y = tx
              · have hG' := hG.drop hi (hy ▸ hyt)
                have hyt' : (y != tx) = false := by simpa using hyt
                rw [hyt] at y0
                replace hy := Aside0.mk hy
                clear hyt e1 e2
                have D2 := D.kept (w2 := wr.drew.drew) ⟨rfl, rfl, rfl, Nat.le_refl _, fun _ _ _ => rfl⟩
                obtain ⟨vh, w7, hrh, hLh, hg7⟩ := Lo.delete (P := Try.prog) D2.held (fun _ => rfl) 35 35 (.agg #[.string ByteArray.empty, .string ByteArray.empty]) 32 Try.underlying35 info23 rfl (by omega) (by omega) (by rw [show (fsts M).length = M.length by simp [fsts]]) i (by simpa [fsts] using hi) (by rw [show (fsts M).length = M.length by simp [fsts]]; omega) D2.base
                have hLb := (D2.by_.grown hg7 (fun _ e => by cases e)).grown (w1 := w7.drew) ⟨rfl, rfl, rfl, Nat.le_refl _, fun _ _ _ => rfl⟩ (row := none) (fun _ e => by cases e)
                have hz7 := hg7.size
                obtain ⟨vb, w8, hrb, hLb8, hg8⟩ := Lo.delete (P := Try.prog) hLb (fun _ => rfl) 36 36 (.int .i64 0) 8 Try.underlying36 info2 rfl (by omega) (by omega) (by rw [show (snds M).length = M.length by simp [snds]]) i (by simpa [snds] using hi) (by rw [show (snds M).length = M.length by simp [snds]]; omega) (Nat.le_trans D2.base hz7)
                rw [show (fsts M).length = M.length by simp [fsts]] at hrh
                rw [show (snds M).length = M.length by simp [snds]] at hrb
                have cut1 := cut3 (P := Try.prog) 35 23 Try.underlying35 info23 ⟨gh, 0, none⟩ M.length ch i (by omega)
                have cut2 := cutBehind (P := Try.prog) 35 23 Try.underlying35 info23 gh M.length ch i hi
                have cut4 := cut3 (P := Try.prog) 36 2 Try.underlying36 info2 ⟨gb, 0, none⟩ M.length cb i (by omega)
                have cut5 := cutBehind (P := Try.prog) 36 2 Try.underlying36 info2 gb M.length cb i hi
                have hw1 : IntKind.i64.wrap ((i : Int) + 1) = (i : Int) + 1 := IntWalk.i64_in _ (by omega)
                generalize (if ch = i + 1 then some (⟨gh, 0, none⟩ : Addr) else some ⟨gh, (i + 1) * 2, none⟩) = A1 at hrh cut2
                generalize (if cb = i + 1 then some (⟨gb, 0, none⟩ : Addr) else some ⟨gb, (i + 1) * 1, none⟩) = A2 at hrb cut5
                go_wp2_with fail
                go_region_held3 (fun W => W.cell? ⟨gb, i, none⟩ = some (.int .i64 tx) ∧ W.cell? ⟨bx, 1, none⟩ = some (.int .i64 tx)) (exact ⟨y0, s1⟩) (fail)
                go_wp2_with fail
                go_region_held3 (fun _ => True) (trivial) (refine app_step (by rfl) (by rfl) (by rfl) (by rfl) hrh ?_)
                go_wp2_with fail
                go_region_held3 (fun _ => True) (trivial) (refine app_step (by rfl) (by rfl) (by rfl) (by rfl) hrb ?_)
                go_wp2_with fail
                have hbr := (Array.getElem?_eq_some_iff.1 r0).1
                have K7 := D2.kept hg7
                have K8 := (K7.kept (w2 := w7.drew) ⟨rfl, rfl, rfl, Nat.le_refl _, fun _ _ _ => rfl⟩).kept hg8
                have hLh8 := (hLh.grown (w1 := w7.drew) (row := none) ⟨rfl, rfl, rfl, Nat.le_refl _, fun _ _ _ => rfl⟩ (fun _ e => by cases e)).grown hg8 (fun _ e => by cases e)
                have r8 := (hg8.block bx (Nat.lt_of_lt_of_le hbr hz7) (by simp)).trans ((hg7.block bx hbr (by simp)).trans r0)
                obtain ⟨Av, cv, hvh, _⟩ := hLh.slice
                have hlv : lenV vh = M.length - 1 := by
                  rw [hvh]
                  show ((fsts M).eraseIdx i).length = _
                  rw [List.length_eraseIdx, show (fsts M).length = M.length by simp [fsts], if_pos hi]
                refine ⟨⟨M.eraseIdx i, i, n + 1, by go_num, rfl, hG', ⟨K8.mg, K8.len, K8.pos, ?_, ?_, K8.bel, K8.base⟩, r8⟩, ?_⟩
                · rw [show fsts (M.eraseIdx i) = (fsts M).eraseIdx i from map_erase Prod.fst M i]; exact hLh8
                · rw [show snds (M.eraseIdx i) = (snds M).eraseIdx i from map_erase Prod.snd M i]; exact hLb8
                · rw [hlv]; simp [intOf, lenV]; omega
              · have hG' := hG.keep hi (hy ▸ hyt)
                have hyt' : (y != tx) = true := by simpa using hyt
                replace hy := Aside0.mk hy
                clear e1 e2
                go_wp2_with fail
                go_region_held3 (fun W => W.cell? ⟨gb, i, none⟩ = some (.int .i64 y) ∧ W.cell? ⟨bx, 1, none⟩ = some (.int .i64 tx)) (exact ⟨y0, s1⟩) (fail)
                go_wp2
                go_roundw
                case rel => exact ⟨M, i + 1, n, by simp, by go_num, hG', D, r0⟩
                case measure => simp [intOf, lenV]; omega
            · obtain rfl : i = M.length := by omega
              have s1 := (cell_of_row wr bx 1 _ 32 (0, 0) r0).trans (by rfl : _ = some (.int .i64 tx))
              obtain ⟨hM, hn⟩ := hG.done
              have R := Release_calls p b most L tx wr OM.mg hlm
              rw [← hM, ← hn] at R
              have hpos : ∀ q ∈ M, 1 ≤ q.2 := fun q hq => OM.pos q (by rw [hM] at hq; exact (List.mem_filter.1 hq).1)
              clear hM hn e1 e2 hG
              go_wp2_with fail
              refine R.mono ?_
              rintro e w7 ⟨rfl, M7, G7⟩
              go_wp2
              go_meet
              refine ⟨M, ?_, ?_⟩
              · exact OM.turned hs2 hbp G7 M7 (Int.le_trans (by omega) OM.len) hpos
              · exact (G7.block bx (Array.getElem?_eq_some_iff.1 r0).1 (fun e => by injection e with e; omega)).trans r0
        · have hd' : (d == 4) = false := by simpa using hd
          go_wp2
          go_meet
          exact ⟨L, O6, r0⟩
      case rest =>
        clear O6 r0 s0 s1
        obtain ⟨L, O6, r0⟩ := hcut
        have s0 := (cell_of_row wc bx 0 _ 32 (0, 0) r0).trans (by rfl : _ = some (.int .i64 d))
        go_upto_if 84 with (fail)
        go_cut [7, 8] (fun hv bv wx => ∃ L', OI w w3.heap.size p b most L' L' hv bv wx)
        case first =>
          by_cases hd : d = 0
          · subst hd
            have s1 := (cell_of_row wc bx 1 _ 32 (0, 0) r0).trans (by rfl : _ = some (.int .i64 tx))
            have s2 := (cell_of_row wc bx 2 _ 32 (0, 0) r0).trans (by rfl : _ = some (.int .i64 snap))
            have s3 := (cell_of_row wc bx 3 _ 32 (0, 0) r0).trans (by rfl : _ = some (.int .i64 last))
            have s4 := (cell_of_row wc bx 4 _ 32 (0, 0) r0).trans (by rfl : _ = some (.string a.1))
            have s5 := (cell_of_row wc bx 5 _ 32 (0, 0) r0).trans (by rfl : _ = some (.string a.2))
            have hlm : L.length ≤ 4096 := by have := O6.len; omega
            have T := Take_any p b most L tx snap last a wc O6.mg hx1.key hx1.tx (by simp only [maxLen]; omega)
            have htl := tk_length most L tx snap last a O6.len
            obtain ⟨L', e, htk, hways⟩ := tk_ways most L tx snap last a
            rw [htk] at T htl
            clear htk
            have hLp := O6.mg.tab.tidy
            have hL'p : ∀ q ∈ L', 1 ≤ q.2 := by
              intro q hq
              rcases hways with ⟨rfl, _⟩ | ⟨rfl, _⟩ | ⟨rfl, _⟩ | ⟨rfl, _, _, h, _⟩
              · exact O6.pos q hq
              · exact O6.pos q hq
              · exact O6.pos q hq
              · rcases List.mem_append.1 hq with hq | hq
                · exact O6.pos q hq
                · rw [List.mem_singleton.1 hq]; exact h
            obtain ⟨Ah, ch, rfl, hch, hAh⟩ := O6.held.slice
            obtain ⟨Ab, cb, rfl, hcb, hAb⟩ := O6.by_.slice
            have e1 : (fsts L).length = L.length := by simp [fsts]
            have e2 : (snds L).length = L.length := by simp [snds]
            rw [e1] at hch hAh O6 ⊢
            rw [e2] at hcb hAb O6 ⊢
            replace hways := Aside0.mk hways
            clear e1 e2
            go_wp2_with fail
            refine T.mono ?_
            rintro e w7 ⟨rfl, M7, G7⟩
            have O7 := O6.turned hs2 hbp G7 M7 htl hL'p
            have r7 := (G7.block bx (Array.getElem?_eq_some_iff.1 r0).1 (fun e => by injection e with e; omega)).trans r0
            clear s0 s1 s2 s3 s4 s5 O6 r0 T M7 G7
            go_wp2_with fail
            go_loopw [97, 14] (fun iv ov wr => SEEK w w3.heap.size p b bx most a (.cells #[.int .i64 0, .int .i64 tx, .int .i64 snap, .int .i64 last, .string a.1, .string a.2, .string u] 32 (0, 0)) L' L (.slice Ah L.length ch) (.slice Ab L.length cb) iv ov wr) (fun iv _ _ => L.length - (intOf iv).toNat)
            case atStart => exact ⟨0, Nat.zero_le _, rfl, rfl, O7, r7⟩
            case round =>
              clear O7 r7
              obtain ⟨j, hj, rfl, rfl, O7, r7⟩ := hrel
              by_cases hjl : j < L.length
              · obtain ⟨gh, rfl, hgh⟩ := hAh (by omega)
                obtain ⟨gb, rfl, hgb⟩ := hAb (by omega)
                have hs := hold_succ hLp a hjl
                obtain ⟨y, hy⟩ : ∃ y, y = L[j] := ⟨_, rfl⟩
                have y0 : wr.cell? ⟨gh, j * 2, none⟩ = some (.string y.1.1) := by
                  have := O7.held.cell (fun _ => rfl) rfl j (L[j]).1 (by simp [fsts, hjl]) 0 _ rfl
                  rw [hy]; simpa using this
                have y1 : wr.cell? ⟨gh, j * 2 + 1, none⟩ = some (.string y.1.2) := by
                  have := O7.held.cell (fun _ => rfl) rfl j (L[j]).1 (by simp [fsts, hjl]) 1 _ rfl
                  rw [hy]; simpa using this
                have y2 : wr.cell? ⟨gb, j, none⟩ = some (.int .i64 y.2) := by
                  have := O7.by_.cell (fun _ => rfl) rfl j (L[j]).2 (by simp [snds, hjl]) 0 _ rfl
                  rw [hy]; simpa using this
                have s4 := (cell_of_row wr bx 4 _ 32 (0, 0) r7).trans (by rfl : _ = some (.string a.1))
                have s5 := (cell_of_row wr bx 5 _ 32 (0, 0) r7).trans (by rfl : _ = some (.string a.2))
                have D := O7.kept (w2 := wr.drew) ⟨rfl, rfl, rfl, Nat.le_refl _, fun _ _ _ => rfl⟩
                have heq : ∀ W, _ := fun W => eqLk y.1 a W
                rw [← hy] at hs
                replace hy := Aside0.mk hy
                by_cases he : y.1 = a
                · rw [if_pos he] at hs
                  rw [show decide (y.1 = a) = true by simpa using he] at heq
                  replace hs := Aside0.mk hs
                  clear he
                  go_wp2_with fail
                  go_region_held3 (fun W => W.cell? ⟨gh, j * 2, none⟩ = some (.string y.1.1) ∧ W.cell? ⟨gh, j * 2 + 1, none⟩ = some (.string y.1.2) ∧ W.cell? ⟨bx, 4, none⟩ = some (.string a.1) ∧ W.cell? ⟨bx, 5, none⟩ = some (.string a.2)) (exact ⟨y0, y1, s4, s5⟩) (fail)
                  go_wp2
                  go_roundw
                  case rel => exact ⟨j + 1, by omega, by go_num, by rw [hs.out], D, r7⟩
                  case measure => simp [intOf]; omega
                · rw [if_neg he] at hs
                  rw [show decide (y.1 = a) = false by simpa using he] at heq
                  replace hs := Aside0.mk hs
                  clear he
                  go_wp2_with fail
                  go_region_held3 (fun W => W.cell? ⟨gh, j * 2, none⟩ = some (.string y.1.1) ∧ W.cell? ⟨gh, j * 2 + 1, none⟩ = some (.string y.1.2) ∧ W.cell? ⟨bx, 4, none⟩ = some (.string a.1) ∧ W.cell? ⟨bx, 5, none⟩ = some (.string a.2)) (exact ⟨y0, y1, s4, s5⟩) (fail)
                  go_wp2
                  go_roundw
                  case rel => exact ⟨j + 1, by omega, by go_num, by rw [hs.out], D, r7⟩
                  case measure => simp [intOf]; omega
              · obtain rfl : j = L.length := by omega
                have s1 := (cell_of_row wr bx 1 _ 32 (0, 0) r7).trans (by rfl : _ = some (.int .i64 tx))
                have s4 := (cell_of_row wr bx 4 _ 32 (0, 0) r7).trans (by rfl : _ = some (.string a.1))
                have s5 := (cell_of_row wr bx 5 _ 32 (0, 0) r7).trans (by rfl : _ = some (.string a.2))
                have hho := hold_all L a
                generalize hold L a L.length = hh at hho ⊢
                rcases hways.out with ⟨hL, h0, h80⟩ | ⟨hL, rfl, hg, h1⟩ | ⟨hL, rfl, h, hg, hne⟩ | ⟨hL, rfl, hg, h1, hlm'⟩
                · rw [hL] at O7
                  clear hho hL hways
                  go_wp2
                  go_meet
                  exact ⟨_, O7⟩
                · rw [hL] at O7
                  rw [hg] at hho
                  obtain rfl : hh = tx := hho
                  have t0 : (hh == 0) = false := by simp; omega
                  have t1 : (hh != 0) = true := by simp; omega
                  clear hL hways hg
                  go_wp2
                  go_meet
                  exact ⟨_, O7⟩
                · rw [hL] at O7 hL'p
                  rw [hg] at hho
                  obtain rfl : hh = h := hho
                  have hpos : 1 ≤ hh := hL'p _ (got_mem hg)
                  have t0 : (hh == 0) = false := by simp; omega
                  have t2 : (hh == tx) = false := by simpa using hne
                  clear hL hways hg hne
                  go_wp2
                  go_meet
                  exact ⟨_, O7⟩
                · rw [hg] at hho
                  obtain rfl : hh = 0 := hho
                  obtain ⟨vh, w8, hrh, hLh, hg8⟩ := Lo.append (P := Try.prog) O7.held (fun _ => rfl) (fun x v hv => by simp [cellsL] at hv; rcases hv with rfl | rfl <;> rfl) 35 35 (.agg #[.string ByteArray.empty, .string ByteArray.empty]) 32 Try.underlying35 info23 rfl (by omega) (by omega) a (by rw [show (fsts L).length = L.length by simp [fsts]]; omega) O7.base
                  have hap := O7.by_.apart O7.held (by decide)
                  have K8 := O7.by_.grown hg8 hap
                  have r8 := (hg8.block bx (Array.getElem?_eq_some_iff.1 r7).1 (fun e => by
                    obtain ⟨_, _, c1, h1⟩ := O7.held.typed bx e.symm
                    rw [h1] at r7
                    injection r7 with r7
                    injection r7 with _ r7
                    cases r7)).trans r7
                  have s1' := (cell_of_row w8 bx 1 _ 32 (0, 0) r8).trans (by rfl : _ = some (.int .i64 tx))
                  obtain ⟨vb, w9, hrb, hLb, hg9⟩ := Lo.append (P := Try.prog) K8 (fun _ => rfl) (fun x v hv => by simp [encI] at hv; rcases hv with rfl; rfl) 36 36 (.int .i64 0) 8 Try.underlying36 info2 rfl (by omega) (by omega) tx (by rw [show (snds L).length = L.length by simp [snds]]; omega) (Nat.le_trans O7.base hg8.size)
                  clear hways hg
                  go_wp2_with (first | (at_builtin; refine app_list rfl rfl rfl rfl hrh ?_) | (at_builtin; refine app_list rfl rfl rfl rfl hrb ?_))
                  go_meet
                  have m8 := O7.mg.kept hg8 (fun e => by have := (O7.held.typed p e.symm).1; omega) (fun e => by have := (O7.held.typed b e.symm).1; omega)
                  have m9 := m8.kept hg9 (fun e => by have := (K8.typed p e.symm).1; omega) (fun e => by have := (K8.typed b e.symm).1; omega)
                  have b8 := O7.bel.grown hg8 O7.bel.size (fun k e => by have := (O7.held.typed k e).1; omega)
                  have b9 := b8.grown hg9 b8.size (fun k e => by have := (K8.typed k e).1; omega)
                  have hL9 := hLh.grown hg9 (fun k e e' => (hLh.apart K8 (by decide)) k e e')
                  exact ⟨_, m9, O7.len, O7.pos, by rw [hL]; simpa [fsts] using hL9, by rw [hL]; simpa [snds] using hLb, b9, Nat.le_trans O7.base (Nat.le_trans hg8.size hg9.size)⟩
          · have hd' : (d == 0) = false := by simpa using hd
            go_wp2
            go_meet
            exact ⟨L, O6⟩
        case rest =>
          clear O6 r0 s0
          obtain ⟨L, O6⟩ := hcut
          obtain ⟨Ah, ch, rfl, hch, hAh⟩ := O6.held.slice
          obtain ⟨Ab, cb, rfl, hcb, hAb⟩ := O6.by_.slice
          have e1 : (fsts L).length = L.length := by simp [fsts]
          have e2 : (snds L).length = L.length := by simp [snds]
          rw [e1] at hch hAh O6 ⊢
          rw [e2] at hcb hAb O6 ⊢
          clear e1 e2
          have hlen := Len_calls p b most L _ O6.mg
          have hle := O6.len
          have hok : ∀ q ∈ L, okL q.1 := O6.mg.good
          have hLp := O6.mg.tab.tidy
          replace hok := Aside0.mk hok
          replace hLp := Aside0.mk hLp
          go_wp2_with fail
          refine hlen.mono ?_
          rintro e w7 ⟨rfl, rfl⟩
          clear hlen
          go_wp2_with fail
          go_loopw [167] (fun iv wr => ∃ j : Nat, j ≤ L.length ∧ iv = .int .i64 j ∧ OI w w3.heap.size p b most L L (.slice Ah L.length ch) (.slice Ab L.length cb) wr) (fun iv _ => L.length - (intOf iv).toNat)
          case atStart => exact ⟨0, Nat.zero_le _, rfl, O6⟩
          case round =>
            clear O6
            obtain ⟨j, hj, rfl, O6⟩ := hrel
            by_cases hjl : j < L.length
            · obtain ⟨gh, rfl, hgh⟩ := hAh (by omega)
              obtain ⟨gb, rfl, hgb⟩ := hAb (by omega)
              obtain ⟨y, hy⟩ : ∃ y, y = L[j] := ⟨_, rfl⟩
              have hm : y ∈ L := by rw [hy]; exact List.getElem_mem hjl
              have y0 : wr.cell? ⟨gh, j * 2, none⟩ = some (.string y.1.1) := by
                have := O6.held.cell (fun _ => rfl) rfl j (L[j]).1 (by simp [fsts, hjl]) 0 _ rfl
                rw [hy]; simpa using this
              have y1 : wr.cell? ⟨gh, j * 2 + 1, none⟩ = some (.string y.1.2) := by
                have := O6.held.cell (fun _ => rfl) rfl j (L[j]).1 (by simp [fsts, hjl]) 1 _ rfl
                rw [hy]; simpa using this
              have H := Holder_calls p b most L y.1 wr O6.mg (hok.out y hm)
              rw [mem_got hLp.out (show (y.1, y.2) ∈ L from hm)] at H
              replace hy := Aside0.mk hy
              go_wp2_with fail
              refine H.mono ?_
              rintro e w8 ⟨rfl, B8⟩
              have O8 := O6.kept (grown_of_below B8 none)
              have y2 : w8.cell? ⟨gb, j, none⟩ = some (.int .i64 y.2) := by
                have := O8.by_.cell (fun _ => rfl) rfl j (L[j]).2 (by simp [snds, hjl]) 0 _ rfl
                rw [hy.out]; simpa using this
              clear y0 y1 H B8 O6
              go_wp2
              go_roundw
              case rel => exact ⟨j + 1, by omega, by go_num, O8⟩
              case measure => simp [intOf]; omega
            · obtain rfl : j = L.length := by omega
              go_wp2
              go_roundw
              case rel => exact ⟨k + 1, by omega, by go_num, L, O6⟩
              case measure => simp [intOf]; omega
    · obtain rfl : k = xs.length := by omega
      have hb := O.bel
      go_wp2
      go_ret
      exact ⟨rfl, hb⟩
end Go.Proofs.Ytbellkkheppofaa
