import Derived.Test.YtedcnpaomphffaaMH
import Derived.RangeFuncNested
import Derived.RangeFuncBound
import Derived.RangeFuncCalls
import Derived.RangeFuncLeaves
import Derived.Shelf.Abstract
import Derived.Shelf.RegionOpen
import Derived.OwnWalkIn
import Derived.TacticsInMore
import Derived.LoopNIn
import Derived.LoopIn
namespace Go.Proofs.Ytedcnpaomphffaa
open Go.RowKit Go.Maps Go.Sort Go.Lib Go.Proofs.YtedcnpaomphffaaW.PrintWords Go.Proofs.YtedcnpaomphffaaW.PrintLast Go.Proofs.YtedcnpaomphffaaW.PrintMore
set_option linter.unusedVariables false
set_option linter.unusedSimpArgs false
set_option linter.unusedSectionVars false
/-! ### maps.Keys over dependencies, AppendSeq, Collect, SortedFunc -/
abbrev Wd : Fence := Fence.wide
section
variable {P : Program} {α β : Type} [DecidableEq α] {k : TypeId} {mk : α → Value} {ok : α → Prop} {R : Value → Option (DataW Unit × List MemPlace)} {cd : β → DataW Unit}
theorem Rng.walks {w w' : World} {b r n : Nat} {L rem : List (α × β)} (h : Rng P k mk ok R cd w b r n L rem) (hk : KeepsWalks w w') : Rng P k mk ok R cd w' b r n L rem ∧ w'.rangeLeft b r = w.rangeLeft b r := by
  obtain ⟨D, left, h1, h2, h3⟩ := h
  have := h1.of_walks hk
  have e := this.left_eq
  exact ⟨⟨D, left, by rw [e]; exact this, h2, h3⟩, e⟩
theorem Rng.walkW {w : World} {b r n : Nat} {L rem : List (α × β)} (h : Rng P k mk ok R cd w b r n L rem) : ∃ o : Obj, w.heap[r]? = some o ∧ o.isWalk = true := by
  obtain ⟨D, left, h1, _⟩ := h
  exact h1.iter_walk
end
def KJ (J : List Dp → World → Prop) (b r : Nat) (L : List (Dp × Int)) (wr : World) : Prop :=
  ∃ vis rem : List (Dp × Int), (vis ++ rem).Perm L ∧ RngD wr b r L.length L rem ∧ J (vis.map (·.1)) wr
set_option maxHeartbeats 4000000 in
set_option maxRecDepth 100000 in
theorem keys62 (n Bm b : Nat) (L : List (Dp × Int)) (w0 : World) (hcell : w0.cell? ⟨Bm, 0, none⟩ = some (.map (some b))) (h : TabD w0 b L.length L) :
    SeqStopsK Wd n Try.prog 56 #[.pointer (some ⟨Bm, 0, none⟩)] (fun q : Dp => #[mkD q]) KeepsWalks (fun ks => ks.Perm (L.map (·.1))) (fun _ => True) L.length w0 := by
  intro lp J Jx W hW hJ hJx hY h0
  have hc := (hW.cell (World.block_lt_of_cell? _ _ hcell)).trans hcell
  obtain ⟨w1, hrun, hRg, hg1, hs1⟩ := Tab.range (t := 61) keyD Try.underlying61 (h.kept (grown_of_below hW none) (by simp) : TabD W b L.length L)
  have hJ1 : J [] w1 := hJ _ _ _ none h0 hg1 (by simp)
  clear hcell
  refine callsIn_of_wp Try.func56 rfl trivial ?_ rfl
  simp only [Try.ntmps56, List.size_toArray, List.length_cons, List.length_nil, Nat.reduceAdd, Nat.reduceSub, Array.replicate_succ, Array.replicate_zero, List.push_toArray, List.append_toArray, List.nil_append, List.cons_append]
  gi_wp2
  gi_loopw [3] (fun _ wr => KJ J b W.heap.size L wr) (fun _ wr => wr.rangeLeft b W.heap.size)
  case atStart => exact ⟨[], L, List.Perm.refl _, hRg, hJ1⟩
  case round =>
    obtain ⟨vis, rem, hp, hr, hj⟩ := hrel
    rcases hr.next keyD valI 0 with ⟨hnil, hrun1⟩ | ⟨a, sv, w3, hmem, hok, hrun1, hr3, hlt, hg3, hs3, hent⟩
    · subst hnil
      rw [List.append_nil] at hp
      gi_wp2
      go_end0
      exact ⟨⟨_, rfl⟩, .inl ⟨_, hp.map _, hj⟩⟩
    · unfold mkN at hrun1 hent
      have hwk := hr.walkW
      have hj3 : J (vis.map (·.1)) w3 := hJ _ _ _ _ hj hg3 (fun r e => by cases e; exact ⟨Nat.le_refl _, hwk⟩)
      obtain ⟨W3, hW3⟩ : ∃ W3, W3 = w3.alloc (.cells #[.int .i64 a.f, .int .i64 a.t, .int .i64 a.k] 64) := ⟨_, rfl⟩
      have hgA : w3.grownBy W3 none := by rw [hW3]; exact World.grownBy_alloc _ _ _
      have hkA : KeepsWalks w3 W3 := by rw [hW3]; exact KeepsWalks.alloc _ _
      have hjA : J (vis.map (·.1)) W3 := hJ _ _ _ none hj3 hgA (by simp)
      have hlen := hp.length_eq
      rw [List.length_append] at hlen
      have hrl : 0 < rem.length := List.length_pos_of_mem hmem
      obtain ⟨fn, tmps, assign, body, hy, hR⟩ := hY _ a W3 hjA (by rw [List.length_map]; omega)
      subst hW3
      gi_wp2
      refine ⟨fun h => absurd h (by decide), hR.mono ?_⟩
      rintro e W4 (⟨rfl, hj4, hk4⟩ | ⟨rfl, hx4⟩)
      · obtain ⟨hr4, e4⟩ := hr3.walks (hkA.trans hk4)
        gi_wp2
        refine ⟨⟨vis ++ [(a, sv)], _, perm_next hr.apart hp hmem, hr4, ?_⟩, ?_⟩
        · rw [List.map_append]; exact hj4
        · rw [e4]; exact hlt
      · gi_wp2
        refine bodyPost_ret (results_none rfl _ _ _) rfl ?_
        exact ⟨⟨_, rfl⟩, .inr ⟨_, trivial, hx4⟩⟩
theorem app_listIn {P : Program} {F : Fence} {n : Nat} {ops : Array Oper} {o : Oper} {rest : List Oper} {a : Act} {Q' : Exit → Act → World → Prop} {W w1 : World} {s x : Operand} {t : TypeId} {v u v1 : Value} (hgd : o.guard = none)
    (ho : o.op = .call { callee := .builtin .append, args := #[s, x], argTypes := #[t, t] }) (hs : a.eval s = v) (hx : a.eval x = u) (hr : (Builtin.append_ #[t, t] o.type #[v, u]).run P W = .ok v1 w1) (h : wpListIn F n P ops Q' rest (a.put o.dst v1) w1) :
    wpListIn F n P ops Q' (o :: rest) a W := by
  refine wpListIn_plain hgd fun K hK => ?_
  unfold Oper.wpIn
  refine ⟨by simp [Oper.about, ho, resolve, Target.leads, Sem.run_pure], ?_⟩
  rw [Oper.semAt_plain F _ _ (by rw [ho]; intro c hc'; cases hc')]
  simp [execOp, ho, resolve, invoke, builtin, hs, hx, hr, Result.andThen]
  exact hK _ _ h
/-- between two rounds of AppendSeq -/
def AI (w : World) (ks : List Dp) (W : World) : Prop :=
  ∃ v, W.heap[w.heap.size]? = some (.cells #[v] 35 (0, 0)) ∧ dD.R 64 W w.heap.size (fun _ => True) v ks ∧ Below w.heap.size w W
theorem AI.kept {w W W' : World} {ks : List Dp} {row : Option Nat} (h : AI w ks W) (hg : W.grownBy W' row) (hrow : ∀ r, row = some r → w.heap.size + 1 ≤ r ∧ ∃ o : Obj, W.heap[r]? = some o ∧ o.isCells = false) : AI w ks W' := by
  obtain ⟨v, h1, h2, h3⟩ := h
  have ne : ∀ b cells e, W.heap[b]? = some (.cells cells e (0, 0)) → some b ≠ row := fun b cells e hb hr => by
    obtain ⟨_, o, ho, hc⟩ := hrow b hr.symm
    rw [hb] at ho
    injection ho with ho
    subst ho
    cases hc
  refine ⟨v, (hg.block _ (Array.getElem?_eq_some_iff.1 h1).1 (ne _ _ _ h1)).trans h1, ?_, h3.grown hg h3.size (fun k hk => by have := (hrow k hk).1; omega)⟩
  refine Kd.R_mono (Kd.R_grown (Kd.R_bound h2) hg (fun k hk e => ?_)) (fun _ _ => trivial)
  obtain ⟨_, _, _, q, _, cells, hc⟩ := hk
  exact ne _ _ _ hc e
/-- what the assignment of a round leaves -/
def AA (w : World) (f : Value) (x : Dp) (a' : Act) (W : World) : Prop :=
  ∃ B, a' = { tmps := #[.slice none 0 0, f, .pointer (some ⟨w.heap.size, 0, none⟩), undef, .slice none 0 0, .pointer (some ⟨B, 0, none⟩), f, mkD x, undef, undef, undef, undef, undef], defers := [] } ∧ W.heap[B]? = some (.cells #[.int .i64 x.f, .int .i64 x.t, .int .i64 x.k] 64 (0, 0))
attribute [local go_sem] Oper.semAt_some
theorem appP {W : World} {base : Nat} {v : Value} {xs : List Dp} (h : dD.R 64 W base (fun _ => True) v xs) (x : Dp) (hl : xs.length ≤ 65537) (hb : base ≤ W.heap.size) :
    ∃ v' w', (Builtin.append_ #[35, 35] 35 #[v, .slice (some ⟨W.heap.size, 0, none⟩) 1 1]).run Try.prog (W.alloc (.cells #[.int .i64 x.f, .int .i64 x.t, .int .i64 x.k] 64)) = .ok v' w' ∧ dD.R 64 w' base (fun _ => True) v' (xs ++ [x]) ∧ W.grownBy w' v.ownBlock :=
  flat_app h 35 35 _ 24 Try.underlying35 info37 rfl (by decide) (by decide) x (by omega) hb
set_option maxHeartbeats 8000000 in
set_option maxRecDepth 100000 in
theorem appendSeq_in (n Bm b : Nat) (L : List (Dp × Int)) (w : World) (hn : 3 ≤ n) (hcell : w.cell? ⟨Bm, 0, none⟩ = some (.map (some b))) (h : TabD w b L.length L) (hL : L.length ≤ 65537) :
    CallsIn Wd n Try.prog 75 #[.slice none 0 0, .func (.func 56) #[] #[.pointer (some ⟨Bm, 0, none⟩)]] w fun e w' => ∃ v ks, e = .returned v ∧ ks.Perm (L.map (·.1)) ∧ dD.R 64 w' w.heap.size (fun _ => True) v ks ∧ Below w.heap.size w w' := by
  obtain ⟨f, hf⟩ : ∃ f, f = Value.func (.func 56) #[] #[.pointer (some ⟨Bm, 0, none⟩)] := ⟨_, rfl⟩
  obtain ⟨w1, hw1⟩ : ∃ w1, w1 = w.alloc (.cells #[.slice none 0 0] 35) := ⟨_, rfl⟩
  have B1 : Below w.heap.size w w1 := by rw [hw1]; exact (Below.refl _ w).alloc (Nat.le_refl _) _
  have hs1 : w1.heap.size = w.heap.size + 1 := by rw [hw1]; simp
  have o1 : w1.heap[w.heap.size]? = some (.cells #[.slice none 0 0] 35 (0, 0)) := by rw [hw1]; exact heap_alloc_new w _
  have I0 : AI w [] w1 := ⟨_, o1, Kd.R_nil _ _ _ _ _, B1⟩
  have hs1' := Aside0.mk hs1
  clear hs1
  refine callsIn_of_wp_marks Try.func75 rfl trivial ?_ rfl
  simp only [Try.ntmps75, List.size_toArray, List.length_cons, List.length_nil, Nat.reduceAdd, Nat.reduceSub, Array.replicate_succ, Array.replicate_zero, List.push_toArray, List.append_toArray, List.nil_append, List.cons_append]
  rw [← hf]
  gi_wp2
  rw [← hw1]
  have hs1 := hs1'.out
  refine wpIn_rangeFunc_ownH (n := n) (α := Dp) (w0 := w) (encs := fun q : Dp => #[mkD q]) (Kp := KeepsWalks) (S := fun ks => ks.Perm (L.map (·.1))) (Sp := fun _ => True) (N := L.length) (gf := 56) (lb := #[.pointer (some ⟨Bm, 0, none⟩)]) rfl (by omega) hf trivial (enters_of Try.func56 (by kernel_rfl) rfl)
    (keys62 (n - 1) Bm b L w hcell h) (fun h k => h.trans k) (fun W l o o' _ hl hc hw => KeepsWalks.putObj o' hl hw) B1 (fun _ => rfl) (AI w) (fun _ _ _ => False) ?hI (fun c _ _ _ _ h => h.elim) I0 (AA w f) ?hA ?assign ?body ?done (fun D c pre W _ _ h => h.elim)
  case hI =>
    intro ks W W' row hi hg hr
    exact hi.kept hg (fun r e => by rw [← hs1]; exact hr r e)
  case hA =>
    rintro x a' _ W W' row ⟨B, e, hB⟩ hg hr
    refine ⟨B, e, (hg.block B (Array.getElem?_eq_some_iff.1 hB).1 (fun e2 => ?_)).trans hB⟩
    obtain ⟨_, o, ho, hc⟩ := hr B e2.symm
    rw [hB] at ho
    injection ho with ho
    subst ho
    cases hc
  case assign =>
    intro l pre x W K hi hK
    subst hf
    have hw2 := hK { tmps := #[.slice none 0 0, .func (.func 56) #[] #[.pointer (some ⟨Bm, 0, none⟩)], .pointer (some ⟨w.heap.size, 0, none⟩), undef, .slice none 0 0, .pointer (some ⟨W.heap.size, 0, none⟩), .func (.func 56) #[] #[.pointer (some ⟨Bm, 0, none⟩)], mkD x, undef, undef, undef, undef, undef], defers := [] } (W.alloc (.cells #[.int .i64 x.f, .int .i64 x.t, .int .i64 x.k] 64))
      ((KeepsOthers.alloc _ _).from _) (KeepsWalks.alloc _ _) (hi.kept (World.grownBy_alloc _ _ none) (by simp)) ⟨_, rfl, heap_alloc_new W _⟩
    gi_wp2
    exact hw2
  case body =>
    rintro l pre x a' W hl _ ⟨v, hbox, hrow, hB⟩ ⟨B, rfl, hxB⟩ hlen
    subst hf
    obtain ⟨bc, bf⟩ : W.cell? ⟨w.heap.size, 0, none⟩ = some v ∧ W.frozen? ⟨w.heap.size, 0, none⟩ = false := by constructor <;> simp [World.cell?, World.frozen?, hbox]
    have x0 := cell_of_row W B 0 _ 64 (0, 0) hxB
    have x1 := cell_of_row W B 1 _ 64 (0, 0) hxB
    have x2 := cell_of_row W B 2 _ 64 (0, 0) hxB
    obtain ⟨v', w', hrun, hrow', hg'⟩ := appP hrow x (by omega) hB.size
    obtain ⟨A', c', rfl, _, _⟩ := (Lo.ofR hrow').slice
    have hne : v.ownBlock ≠ some w.heap.size := fun e => by
      obtain ⟨_, _, cells, hc⟩ := flat_typed hrow _ e
      rw [hbox] at hc
      injection hc with hc
      injection hc with _ hc
      cases hc
    have hbox' := (hg'.block w.heap.size (Array.getElem?_eq_some_iff.1 hbox).1 (fun e => hne e.symm)).trans hbox
    obtain ⟨bc', bf'⟩ : w'.cell? ⟨w.heap.size, 0, none⟩ = some v ∧ w'.frozen? ⟨w.heap.size, 0, none⟩ = false := by constructor <;> simp [World.cell?, World.frozen?, hbox']
    gi_wp2_with (gi_at_builtin; refine app_listIn rfl rfl rfl rfl hrun ?_)
    have hne' : (Value.slice A' (pre.length + 1) c').ownBlock ≠ some w.heap.size := fun e => by
      obtain ⟨_, _, cells, hc⟩ := flat_typed hrow' _ (by simpa using e)
      rw [hbox'] at hc
      injection hc with hc
      injection hc with _ hc
      cases hc
    have hk : KeepsOthers W (w'.setCell ⟨w.heap.size, 0, none⟩ (.slice A' (pre.length + 1) c')) := by
      refine (KeepsOthers.of_grownBy hg' fun j o e ho => ?_).trans (KeepsOthers.setCell _ _ _)
      obtain ⟨_, _, cells, hc⟩ := flat_typed hrow _ e
      rw [hc] at ho
      injection ho with ho
      subst ho
      rfl
    have hlen' : (pre ++ [x]).length = pre.length + 1 := by simp
    rw [hlen'] at hrow'
    refine ⟨hk.from _, hk.walks, _, blk_set hbox' 0 _, ?_, (hB.grown hg' hB.size (fun k hk => (flat_typed hrow k hk).1)).grown (grown_set _ _ 0 _) (Nat.le_trans hB.size hg'.size) (fun k hk => by injection hk with hk; omega)⟩
    refine Kd.R_mono (Kd.R_grown (Kd.R_bound hrow') (grown_set w' w.heap.size 0 _) (fun k hk e => ?_)) (fun _ _ => trivial)
    obtain ⟨_, _, _, q, hq, cells, hc⟩ := hk
    injection e with e
    subst e
    rw [hbox'] at hc
    injection hc with hc
    injection hc with _ hc
    subst hc
    revert hq
    exact (by decide : ¬ (35 ∈ (64 :: dD.E)))
  case done =>
    rintro D ks W hD hS ⟨v, hbox, hrow, hB⟩ hdef
    have bc := cell_of_row W w.heap.size 0 _ 35 (0, 0) hbox
    gi_wp2
    have hDc : ∀ cells e, W.heap[D]? ≠ some (.cells cells e (0, 0)) := fun cells e h => by rw [hdef] at h; cases h
    refine ⟨by simp, .inl ⟨_, _, rfl, run_takeDeferred hdef, ?_⟩⟩
    refine ⟨_, results_tmp rfl _ _ _, v, ks, rfl, hS, ?_, hB.grown (grownBy_putObj' W D _) hB.size (fun k e => by cases e; omega)⟩
    refine Kd.R_mono (Kd.R_grown (Kd.R_bound hrow) (grownBy_putObj' W D _) (fun k hk e => ?_)) (fun _ _ => trivial)
    obtain ⟨_, _, _, q, hq, cells, hc⟩ := hk
    injection e with e
    subst e
    exact hDc _ _ hc
theorem srtC_congr {α : Type} {c : α → α → Int} (h : Ord3 c) (he : ∀ a b, c a b = 0 → a = b) {xs ys : List α} (hp : xs.Perm ys) : srtC c xs = srtC c ys := by
  refine List.Perm.eq_of_pairwise (fun a b _ _ h1 h2 => ?_) (srtC_rising h xs) (srtC_rising h ys) (((srtC_perm xs).trans hp).trans (srtC_perm ys).symm)
  have := h.anti a b
  have := h.anti b a
  exact he _ _ (by omega)
set_option maxRecDepth 100000 in
theorem Keys_calls (b : Nat) (w : World) : Calls Try.prog 32 #[.map (some b)] w fun e w' => e = .returned (.func (.func 56) #[] #[.pointer (some ⟨w.heap.size, 0, none⟩)]) ∧ w' = w.alloc (.cells #[.map (some b)] 61) := by
  go_enter Try.func32, Try.ntmps32
  go_wp2
  go_ret
  exact ⟨rfl, rfl⟩
section
variable {Bm b : Nat} {L : List (Dp × Int)} {w : World}
set_option maxRecDepth 100000 in
theorem Collect_calls (hcell : w.cell? ⟨Bm, 0, none⟩ = some (.map (some b))) (h : TabD w b L.length L) (hL : L.length ≤ 65537) :
    Calls Try.prog 54 #[.func (.func 56) #[] #[.pointer (some ⟨Bm, 0, none⟩)]] w fun e w' => ∃ v ks, e = .returned v ∧ ks.Perm (L.map (·.1)) ∧ dD.R 64 w' w.heap.size (fun _ => True) v ks ∧ Below w.heap.size w w' := by
  have A := (callsIn_wide (n := 9)).1 (appendSeq_in 9 Bm b L w (by omega) hcell h hL)
  clear hcell h
  go_enter Try.func54, Try.ntmps54
  go_wp2_with fail
  refine A.mono ?_
  rintro e w' ⟨v, ks, rfl, h⟩
  go_wp2
  go_ret
  exact ⟨v, ks, rfl, h⟩
set_option maxRecDepth 100000 in
theorem SortedFunc_calls (hcell : w.cell? ⟨Bm, 0, none⟩ = some (.map (some b))) (h : TabD w b L.length L) (hL : L.length ≤ 65537) :
    Calls Try.prog 31 #[.func (.func 56) #[] #[.pointer (some ⟨Bm, 0, none⟩)], .func (.func 33) #[] #[]] w fun e w' => ∃ v, e = .returned v ∧ dD.R 64 w' w.heap.size (fun _ => True) v (srtC cmpDp (L.map (·.1))) ∧ Below w.heap.size w w' := by
  have C := Collect_calls hcell h hL
  clear hcell h
  go_enter Try.func31, Try.ntmps31
  go_wp2_with fail
  refine C.mono ?_
  rintro e w1 ⟨v, ks, rfl, hp, hv, B1⟩
  have hl : ks.length = L.length := by simpa using hp.length_eq
  have S := sortD_calls w1 w.heap.size _ v ks hv (by omega)
  rw [srtC_congr ord_Dp (fun _ _ => cmpDp_eq) hp] at S
  go_wp2_with fail
  refine S.mono ?_
  rintro e w2 ⟨rfl, hv2, G⟩
  go_wp2
  go_ret
  exact ⟨v, rfl, hv2, B1.grown G B1.size (fun k hk => (flat_typed hv k hk).1)⟩
end
end Go.Proofs.Ytedcnpaomphffaa
namespace Go.Proofs.Ytedcnpaomphffaa
open Go.RowKit Go.Maps Go.Sort Go.Lib Go.Proofs.YtedcnpaomphffaaW.PrintWords Go.Proofs.YtedcnpaomphffaaW.PrintLast Go.Proofs.YtedcnpaomphffaaW.PrintMore
set_option linter.unusedVariables false
set_option linter.unusedSimpArgs false
set_option linter.unusedSectionVars false
/-! ### slices.Values, AppendSeq, Collect, Sorted over whole numbers; Graph -/
def VJ (J : List Int → World → Prop) (w0 : World) (xs : List Int) (v : Value) (wr : World) : Prop :=
  ∃ i : Nat, v = .int .i64 (i : Int) ∧ i ≤ xs.length ∧ J (xs.take i) wr ∧ Below w0.heap.size w0 wr
set_option maxHeartbeats 4000000 in
set_option maxRecDepth 100000 in
theorem values89 (n Bm : Nat) (A : Option Addr) (c : Nat) (xs : List Int) (w0 : World) (hcell : w0.cell? ⟨Bm, 0, none⟩ = some (.slice A xs.length c)) (h : dI.C w0 A xs.length xs) :
    SeqStopsK Wd n Try.prog 60 #[.pointer (some ⟨Bm, 0, none⟩)] (fun x : Int => #[.int .i64 x]) (fun P Q => Below w0.heap.size P Q) (fun ks => ks = xs) (fun _ => True) xs.length w0 := by
  intro lp J Jx W hW hJ hJx hY h0
  have hc := (hW.cell (World.block_lt_of_cell? _ _ hcell)).trans hcell
  have hl : xs.length ≤ 9223372036854775807 := h.2.1
  clear hcell
  refine callsIn_of_wp Try.func60 rfl trivial ?_ rfl
  simp only [Try.ntmps60, List.size_toArray, List.length_cons, List.length_nil, Nat.reduceAdd, Nat.reduceSub, Array.replicate_succ, Array.replicate_zero, List.push_toArray, List.append_toArray, List.nil_append, List.cons_append]
  gi_wp2
  gi_loopw [7] (fun v wr => VJ J w0 xs v wr) (fun v _ => xs.length - (intOf v).toNat)
  case atStart => exact ⟨0, rfl, Nat.zero_le _, h0, hW⟩
  case round =>
    obtain ⟨i, rfl, hi, hj, hB⟩ := hrel
    by_cases hlt : i < xs.length
    · obtain ⟨ad, rfl, q0⟩ := CI_at (Kd.C_below h hB) i hlt
      obtain ⟨fn, tmps, assign, body, hy, hR⟩ := hY _ xs[i] wr hj (by rw [List.length_take]; omega)
      have htk : xs.take (i + 1) = xs.take i ++ [xs[i]] := List.take_succ_eq_append_getElem hlt
      rw [← htk] at hR
      generalize xs[i] = x at q0 hy
      clear htk h
      gi_wp2
      refine ⟨fun h => absurd h (by decide), hR.mono ?_⟩
      rintro e W4 (⟨rfl, hj4, hk4⟩ | ⟨rfl, hx4⟩)
      · gi_wp2
        refine ⟨⟨i + 1, by simp, by omega, hj4, hB.trans hk4⟩, ?_⟩
        simp [intOf]
        omega
      · gi_wp2
        refine bodyPost_ret (results_none rfl _ _ _) rfl ?_
        exact ⟨⟨_, rfl⟩, .inr ⟨_, trivial, hx4⟩⟩
    · obtain rfl : i = xs.length := by omega
      rw [List.take_length] at hj
      clear h
      gi_wp2
      go_end0
      exact ⟨⟨_, rfl⟩, .inl ⟨_, rfl, hj⟩⟩
attribute [local go_sem] Oper.semAt_some
/-- between two rounds of AppendSeq -/
def AIV (w : World) (ks : List Int) (W : World) : Prop :=
  ∃ v, W.heap[w.heap.size]? = some (.cells #[v] 22 (0, 0)) ∧ dI.R 3 W w.heap.size (fun _ => True) v ks ∧ Below w.heap.size w W
theorem AIV.kept {w W W' : World} {ks : List Int} {row : Option Nat} (h : AIV w ks W) (hg : W.grownBy W' row) (hrow : ∀ r, row = some r → w.heap.size + 1 ≤ r ∧ ∃ o : Obj, W.heap[r]? = some o ∧ o.isCells = false) : AIV w ks W' := by
  obtain ⟨v, h1, h2, h3⟩ := h
  have ne : ∀ b cells e, W.heap[b]? = some (.cells cells e (0, 0)) → some b ≠ row := fun b cells e hb hr => by
    obtain ⟨_, o, ho, hc⟩ := hrow b hr.symm
    rw [hb] at ho
    injection ho with ho
    subst ho
    cases hc
  refine ⟨v, (hg.block _ (Array.getElem?_eq_some_iff.1 h1).1 (ne _ _ _ h1)).trans h1, ?_, h3.grown hg h3.size (fun k hk => by have := (hrow k hk).1; omega)⟩
  refine Kd.R_mono (Kd.R_grown (Kd.R_bound h2) hg (fun k hk e => ?_)) (fun _ _ => trivial)
  obtain ⟨_, _, _, q, _, cells, hc⟩ := hk
  exact ne _ _ _ hc e
/-- what the assignment of a round leaves -/
def AAV (w : World) (f : Value) (x : Int) (a' : Act) (W : World) : Prop :=
  a' = { tmps := #[.slice none 0 0, f, .pointer (some ⟨w.heap.size, 0, none⟩), undef, .slice none 0 0, .int .i64 x, f, .int .i64 x, undef, undef, undef, undef, undef], defers := [] }
theorem appV {W : World} {base : Nat} {v : Value} {xs : List Int} (h : dI.R 3 W base (fun _ => True) v xs) (x : Int) (hl : xs.length ≤ 65537) (hb : base ≤ W.heap.size) :
    ∃ v' w', (Builtin.append_ #[22, 22] 22 #[v, .slice (some ⟨W.heap.size, 0, none⟩) 1 1]).run Try.prog (W.alloc (.cells #[.int .i64 x] 3)) = .ok v' w' ∧ dI.R 3 w' base (fun _ => True) v' (xs ++ [x]) ∧ W.grownBy w' v.ownBlock :=
  flat_app h 22 22 _ 8 Try.underlying22 info3 rfl (by decide) (by decide) x (by omega) hb
set_option maxHeartbeats 8000000 in
set_option maxRecDepth 100000 in
theorem appendSeqV_in (n Bm : Nat) (A : Option Addr) (c : Nat) (xs : List Int) (w : World) (hn : 3 ≤ n) (hcell : w.cell? ⟨Bm, 0, none⟩ = some (.slice A xs.length c)) (h : dI.C w A xs.length xs) (hL : xs.length ≤ 65537) :
    CallsIn Wd n Try.prog 85 #[.slice none 0 0, .func (.func 60) #[] #[.pointer (some ⟨Bm, 0, none⟩)]] w fun e w' => ∃ v ks, e = .returned v ∧ ks = xs ∧ dI.R 3 w' w.heap.size (fun _ => True) v ks ∧ Below w.heap.size w w' := by
  obtain ⟨f, hf⟩ : ∃ f, f = Value.func (.func 60) #[] #[.pointer (some ⟨Bm, 0, none⟩)] := ⟨_, rfl⟩
  obtain ⟨w1, hw1⟩ : ∃ w1, w1 = w.alloc (.cells #[.slice none 0 0] 22) := ⟨_, rfl⟩
  have B1 : Below w.heap.size w w1 := by rw [hw1]; exact (Below.refl _ w).alloc (Nat.le_refl _) _
  have hs1 : w1.heap.size = w.heap.size + 1 := by rw [hw1]; simp
  have o1 : w1.heap[w.heap.size]? = some (.cells #[.slice none 0 0] 22 (0, 0)) := by rw [hw1]; exact heap_alloc_new w _
  have I0 : AIV w [] w1 := ⟨_, o1, Kd.R_nil _ _ _ _ _, B1⟩
  have hs1' := Aside0.mk hs1
  clear hs1
  refine callsIn_of_wp_marks Try.func85 rfl trivial ?_ rfl
  simp only [Try.ntmps85, List.size_toArray, List.length_cons, List.length_nil, Nat.reduceAdd, Nat.reduceSub, Array.replicate_succ, Array.replicate_zero, List.push_toArray, List.append_toArray, List.nil_append, List.cons_append]
  rw [← hf]
  gi_wp2
  rw [← hw1]
  have hs1 := hs1'.out
  refine wpIn_rangeFunc_ownH (n := n) (α := Int) (w0 := w) (encs := fun q : Int => #[.int .i64 q]) (Kp := fun P Q => Below w.heap.size P Q) (S := fun ks => ks = xs) (Sp := fun _ => True) (N := xs.length) (gf := 60) (lb := #[.pointer (some ⟨Bm, 0, none⟩)]) rfl (by omega) hf trivial (enters_of Try.func60 (by kernel_rfl) rfl)
    (values89 (n - 1) Bm A c xs w hcell h) (fun h k => h.trans k) (fun W l o o' hl ho _ _ => (Below.refl _ W).grown (grownBy_putObj' W l o') (by have := (Array.getElem?_eq_some_iff.1 ho).1; omega) (fun k e => by cases e; omega)) B1 (fun _ => rfl) (AIV w) (fun _ _ _ => False) ?hI (fun c _ _ _ _ h => h.elim) I0 (AAV w f) ?hA ?assign ?body ?done (fun D c pre W _ _ h => h.elim)
  case hI =>
    intro ks W W' row hi hg hr
    exact hi.kept hg (fun r e => by rw [← hs1]; exact hr r e)
  case hA =>
    rintro x a' _ W W' row e hg hr
    exact e
  case assign =>
    intro l pre x W K hi hK
    subst hf
    have hw2 := hK { tmps := #[.slice none 0 0, .func (.func 60) #[] #[.pointer (some ⟨Bm, 0, none⟩)], .pointer (some ⟨w.heap.size, 0, none⟩), undef, .slice none 0 0, .int .i64 x, .func (.func 60) #[] #[.pointer (some ⟨Bm, 0, none⟩)], .int .i64 x, undef, undef, undef, undef, undef], defers := [] } W
      ((KeepsOthers.refl _).from _) (Below.refl _ _) hi rfl
    gi_wp2
    exact hw2
  case body =>
    rintro l pre x a' W hl _ ⟨v, hbox, hrow, hB⟩ rfl hlen
    subst hf
    obtain ⟨bc, bf⟩ : W.cell? ⟨w.heap.size, 0, none⟩ = some v ∧ W.frozen? ⟨w.heap.size, 0, none⟩ = false := by constructor <;> simp [World.cell?, World.frozen?, hbox]
    obtain ⟨v', w', hrun, hrow', hg'⟩ := appV hrow x (by omega) hB.size
    obtain ⟨A', c', rfl, _, _⟩ := (Lo.ofR hrow').slice
    have hne : v.ownBlock ≠ some w.heap.size := fun e => by
      obtain ⟨_, _, cells, hc⟩ := flat_typed hrow _ e
      rw [hbox] at hc
      injection hc with hc
      injection hc with _ hc
      cases hc
    have hbox' := (hg'.block w.heap.size (Array.getElem?_eq_some_iff.1 hbox).1 (fun e => hne e.symm)).trans hbox
    obtain ⟨bc', bf'⟩ : w'.cell? ⟨w.heap.size, 0, none⟩ = some v ∧ w'.frozen? ⟨w.heap.size, 0, none⟩ = false := by constructor <;> simp [World.cell?, World.frozen?, hbox']
    gi_wp2_with (gi_at_builtin; refine app_listIn rfl rfl rfl rfl hrun ?_)
    have hne' : (Value.slice A' (pre.length + 1) c').ownBlock ≠ some w.heap.size := fun e => by
      obtain ⟨_, _, cells, hc⟩ := flat_typed hrow' _ (by simpa using e)
      rw [hbox'] at hc
      injection hc with hc
      injection hc with _ hc
      cases hc
    have hk : KeepsOthers W (w'.setCell ⟨w.heap.size, 0, none⟩ (.slice A' (pre.length + 1) c')) := by
      refine (KeepsOthers.of_grownBy hg' fun j o e ho => ?_).trans (KeepsOthers.setCell _ _ _)
      obtain ⟨_, _, cells, hc⟩ := flat_typed hrow _ e
      rw [hc] at ho
      injection ho with ho
      subst ho
      rfl
    have hlen' : (pre ++ [x]).length = pre.length + 1 := by simp
    rw [hlen'] at hrow'
    have hK2 : Below w.heap.size W (w'.setCell ⟨w.heap.size, 0, none⟩ (.slice A' (pre.length + 1) c')) := ((Below.refl _ W).grown hg' hB.size (fun k hk => (flat_typed hrow k hk).1)).grown (grown_set _ _ 0 _) (Nat.le_trans hB.size hg'.size) (fun k hk => by injection hk with hk; omega)
    refine ⟨hk.from _, hK2, _, blk_set hbox' 0 _, ?_, (hB.grown hg' hB.size (fun k hk => (flat_typed hrow k hk).1)).grown (grown_set _ _ 0 _) (Nat.le_trans hB.size hg'.size) (fun k hk => by injection hk with hk; omega)⟩
    refine Kd.R_mono (Kd.R_grown (Kd.R_bound hrow') (grown_set w' w.heap.size 0 _) (fun k hk e => ?_)) (fun _ _ => trivial)
    obtain ⟨_, _, _, q, hq, cells, hc⟩ := hk
    injection e with e
    subst e
    rw [hbox'] at hc
    injection hc with hc
    injection hc with _ hc
    subst hc
    revert hq
    exact (by decide : ¬ (22 ∈ (3 :: dI.E)))
  case done =>
    rintro D ks W hD hS ⟨v, hbox, hrow, hB⟩ hdef
    have bc := cell_of_row W w.heap.size 0 _ 22 (0, 0) hbox
    gi_wp2
    have hDc : ∀ cells e, W.heap[D]? ≠ some (.cells cells e (0, 0)) := fun cells e h => by rw [hdef] at h; cases h
    refine ⟨by simp, .inl ⟨_, _, rfl, run_takeDeferred hdef, ?_⟩⟩
    refine ⟨_, results_tmp rfl _ _ _, v, ks, rfl, hS, ?_, hB.grown (grownBy_putObj' W D _) hB.size (fun k e => by cases e; omega)⟩
    refine Kd.R_mono (Kd.R_grown (Kd.R_bound hrow) (grownBy_putObj' W D _) (fun k hk e => ?_)) (fun _ _ => trivial)
    obtain ⟨_, _, _, q, hq, cells, hc⟩ := hk
    injection e with e
    subst e
    exact hDc _ _ hc
set_option maxRecDepth 100000 in
theorem Values_calls (A : Option Addr) (n c : Nat) (w : World) : Calls Try.prog 44 #[.slice A n c] w fun e w' => e = .returned (.func (.func 60) #[] #[.pointer (some ⟨w.heap.size, 0, none⟩)]) ∧ w' = w.alloc (.cells #[.slice A n c] 22) := by
  go_enter Try.func44, Try.ntmps44
  go_wp2
  go_ret
  exact ⟨rfl, rfl⟩
set_option maxRecDepth 100000 in
theorem CollectV_calls {Bm : Nat} {A : Option Addr} {c : Nat} {xs : List Int} {w : World} (hcell : w.cell? ⟨Bm, 0, none⟩ = some (.slice A xs.length c)) (h : dI.C w A xs.length xs) (hL : xs.length ≤ 65537) :
    Calls Try.prog 59 #[.func (.func 60) #[] #[.pointer (some ⟨Bm, 0, none⟩)]] w fun e w' => ∃ v, e = .returned v ∧ dI.R 3 w' w.heap.size (fun _ => True) v xs ∧ Below w.heap.size w w' := by
  have A := (callsIn_wide (n := 9)).1 (appendSeqV_in 9 Bm A c xs w (by omega) hcell h hL)
  clear hcell h
  go_enter Try.func59, Try.ntmps59
  go_wp2_with fail
  refine A.mono ?_
  rintro e w' ⟨v, ks, rfl, rfl, h⟩
  go_wp2
  go_ret
  exact ⟨v, rfl, h⟩
set_option maxRecDepth 100000 in
theorem sortI_calls (W : World) (base : Nat) (ok : Nat → Prop) (v : Value) (xs : List Int) (h : dI.R 3 W base ok v xs) (hl : xs.length < 4611686018427387904) :
    Calls Try.prog 29 #[v] W fun e w' => e = .returned (.tuple #[]) ∧ dI.R 3 w' base ok v (xs.mergeSort fun x y => decide (x ≤ y)) ∧ W.grownBy w' v.ownBlock := by
  obtain ⟨inner, ho⟩ := Kd.R_own h
  rcases ho.2 with ⟨rfl, hn⟩ | ⟨g, cap, cur, rfl, hb, hh, _⟩
  · obtain rfl : xs = [] := List.eq_nil_of_length_eq_zero hn
    refine (AnyM.slices_Sort_int_none Try.sortI none 0 W).mono ?_
    rintro e w' ⟨rfl, rfl⟩
    exact ⟨rfl, by rw [List.mergeSort_nil]; exact Kd.R_nil _ _ _ _ _, ⟨rfl, rfl, rfl, Nat.le_refl _, fun _ _ _ => rfl⟩⟩
  · have hlt : g < W.heap.size := (Array.getElem?_eq_some_iff.1 hh).1
    have hcon := AnyM.slices_Sort_int Try.sortI g 0 cap xs W (one_holds (enc := Value.int .i64) h) hlt hl
    refine Calls.mono hcon ?_
    rintro e w' ⟨rfl, n, os, rfl⟩
    have hl2 : (xs.mergeSort fun x y => decide (x ≤ y)).length = xs.length := by simp
    obtain ⟨h2, h3⟩ := one_put (enc := Value.int .i64) h hl2 n os
    rw [hl2] at h2
    exact ⟨rfl, h2, h3⟩
set_option maxRecDepth 100000 in
theorem compactI_none (W : World) : Calls Try.prog 46 #[.slice none 0 0] W fun e w' => e = .returned (.slice none 0 0) ∧ W = w' := by
  go_enter Try.func46, Try.ntmps46
  go_wp2
  go_ret
  exact ⟨rfl, rfl⟩
set_option maxRecDepth 100000 in
theorem compactI_calls (W : World) (base : Nat) (ok : Nat → Prop) (v : Value) (xs : List Int) (h : dI.R 3 W base ok v xs) (hl : xs.length < 4611686018427387904) :
    Calls Try.prog 46 #[v] W fun e w' => ∃ v', e = .returned v' ∧ dI.R 3 w' base ok v' (compactUpTo xs.toArray xs.length) ∧ W.grownBy w' v.ownBlock ∧ v'.ownBlock = v.ownBlock := by
  obtain ⟨inner, ho⟩ := Kd.R_own h
  rcases ho.2 with ⟨rfl, hn⟩ | ⟨g, cap, cur, rfl, hb, hh, hnc, _⟩
  · obtain rfl : xs = [] := List.eq_nil_of_length_eq_zero hn
    refine (compactI_none W).mono ?_
    rintro e w' ⟨rfl, rfl⟩
    exact ⟨_, rfl, by rw [show compactUpTo ([] : List Int).toArray ([] : List Int).length = [] from rfl]; exact Kd.R_nil _ _ _ _ _, ⟨rfl, rfl, rfl, Nat.le_refl _, fun _ _ _ => rfl⟩, rfl⟩
  · have hcon := AnyE.slices_Compact Try.compactI (Value.int .i64) (fun _ => rfl) (EqlAt.intD _ _ _) (NeqAt.intD _ _ _) 0 Try.zeroValue3 g 0 cap xs.toArray W (one_holds (enc := Value.int .i64) h) (by simp; omega) (by simpa using hnc)
    refine Calls.mono hcon ?_
    rintro e w' ⟨rfl, q, rfl⟩
    have hcl : (compactUpTo xs.toArray xs.length).length ≤ xs.length := by
      unfold compactUpTo
      rw [List.length_map]
      exact Nat.le_trans (List.length_filter_le _ _) (by simp)
    have hl2 : (compactUpTo xs.toArray xs.toArray.size ++ List.replicate (xs.toArray.size - (compactUpTo xs.toArray xs.toArray.size).length) (0 : Int)).length = xs.length := by
      have e0 : xs.toArray.size = xs.length := by simp
      rw [List.length_append, List.length_replicate, e0]
      omega
    obtain ⟨h2, h3⟩ := one_put (enc := Value.int .i64) h hl2 q #[]
    rw [grow_empty] at h2 h3
    refine ⟨_, rfl, ?_, h3, rfl⟩
    have h4 := Kd.R_take h2 (m := (compactUpTo xs.toArray xs.toArray.size).length) (by rw [List.length_append]; omega)
    rw [List.take_left] at h4
    exact h4
theorem sort_nodup {xs : List Int} (h : xs.Nodup) : (xs.mergeSort fun x y => decide (x ≤ y)) = rise xs := by
  refine rise_eq ?_ (fun x => List.mem_mergeSort)
  have h1 : (xs.mergeSort fun x y => decide (x ≤ y)).Pairwise (fun x y => decide (x ≤ y) = true) := List.pairwise_mergeSort (fun a b c h1 h2 => by simp at *; omega) (fun a b => by simp; omega) xs
  have h2 : (xs.mergeSort fun x y => decide (x ≤ y)).Nodup := (List.mergeSort_perm _ _).nodup_iff.2 h
  rw [List.nodup_iff_pairwise_ne] at h2
  refine (h1.and h2).imp fun {a b} hab => ?_
  have := of_decide_eq_true hab.1
  have := hab.2
  omega
set_option maxRecDepth 100000 in
theorem SortedV_calls {Bm : Nat} {A : Option Addr} {c : Nat} {xs : List Int} {w : World} (hcell : w.cell? ⟨Bm, 0, none⟩ = some (.slice A xs.length c)) (h : dI.C w A xs.length xs) (hL : xs.length ≤ 65537) (hn : xs.Nodup) :
    Calls Try.prog 43 #[.func (.func 60) #[] #[.pointer (some ⟨Bm, 0, none⟩)]] w fun e w' => ∃ v, e = .returned v ∧ dI.R 3 w' w.heap.size (fun _ => True) v (rise xs) ∧ Below w.heap.size w w' := by
  have C := CollectV_calls hcell h hL
  have hs := sort_nodup hn
  clear hcell h
  replace hs := Aside0.mk hs
  go_enter Try.func43, Try.ntmps43
  go_wp2_with fail
  refine C.mono ?_
  rintro e w1 ⟨v, rfl, hv, B1⟩
  have S := sortI_calls w1 w.heap.size _ v xs hv (by omega)
  rw [hs.out] at S
  go_wp2_with fail
  refine S.mono ?_
  rintro e w2 ⟨rfl, hv2, G⟩
  go_wp2
  go_ret
  exact ⟨v, rfl, hv2, B1.grown G B1.size (fun k hk => (flat_typed hv k hk).1)⟩
/-! ### Graph -/
open Classical in
noncomputable def grL (h : Hs) : List Dp := if OkH h then graphP h else []
theorem srt_deps {h : Hs} {L : List (Dp × Int)} (hn : L.Pairwise (fun p p' => p.1 ≠ p'.1)) (hm : ∀ d, (∃ v, (d, v) ∈ L) ↔ d ∈ depsL h) : srtC cmpDp (L.map (·.1)) = graphP h := by
  refine srtC_congr ord_Dp (fun _ _ => cmpDp_eq) ?_
  rw [List.perm_ext_iff_of_nodup (by rw [List.nodup_iff_pairwise_ne, List.pairwise_map]; exact hn) (nodup_nub _)]
  intro d
  rw [mem_nub, ← hm d, List.mem_map]
  constructor
  · rintro ⟨e, he, rfl⟩
    exact ⟨e.2, he⟩
  · rintro ⟨v, hv⟩
    exact ⟨_, hv, rfl⟩
def GrPost (w : World) (h : Hs) (e : Ending) (w' : World) : Prop := ∃ v, e = .returned (.tuple #[v, .int .i64 (chk h)]) ∧ dD.R 64 w' w.heap.size (fun _ => True) v (grL h) ∧ Below w.heap.size w w'
set_option maxHeartbeats 4000000 in
set_option maxRecDepth 100000 in
theorem Graph_calls (z : HV) (w : World) (hz : z.OK w) : Calls Try.prog 12 #[mkH z] w (GrPost w z.h) := by
  obtain ⟨w1, hw1, B1, hz1, b0, b1⟩ := hv_box z w hz
  obtain ⟨bx, hbx⟩ : ∃ bx, bx = w.heap.size := ⟨_, rfl⟩
  have RD := read_calls z w1 hz1
  have DP := fun W base hb b2 b3 L2 L3 (B : Below w1.heap.size w1 W) hok H => deps_calls z W (hz1.below B) hok (base := base) (hb := hb) (b2 := b2) (b3 := b3) (L2 := L2) (L3 := L3) H
  obtain ⟨A1, c1, A2, c2, h⟩ := z
  dsimp only [mkH] at *
  clear hz hz1
  replace DP := Aside0.mk DP
  go_enter Try.func12, Try.ntmps12
  go_upto_region 1 with (fail)
  rw [← hw1, ← hbx]
  rw [← hbx] at b0 b1
  clear hw1
  replace hbx := Aside0.mk hbx
  go_wp2_with fail
  refine RD.mono ?_
  rintro e w2 (⟨hno, rfl, B2⟩ | ⟨hok, base, hb, b2, b3, L2, L3, rfl, H, B2, _⟩)
  · have K : GrPost w h (.returned (.tuple #[.slice none 0 0, .int .i64 110])) w2 := ⟨_, by rw [chk_no hno], by unfold grL; rw [if_neg hno]; exact Kd.R_nil _ _ _ _ _, below_then B1 B1.size B2⟩
    clear RD DP
    replace K := Aside0.mk K
    replace hno := Aside0.mk hno
    go_wp2
    go_ret2
    exact K.out
  · have D := DP.out w2 _ _ _ _ _ _ B2 hok H
    have e0 : chk h = 0 := chk_ok hok
    have e1 : grL h = graphP h := if_pos hok
    have d0 := (B2.cell (World.block_lt_of_cell? _ _ b0)).trans b0
    have d1 := (B2.cell (World.block_lt_of_cell? _ _ b1)).trans b1
    replace e0 := Aside0.mk e0
    replace e1 := Aside0.mk e1
    replace hok := Aside0.mk hok
    clear RD DP H
    go_wp2_with fail
    refine D.mono ?_
    rintro e w3 ⟨b, L, rfl, hT, hm, hL, hlo, B3⟩
    have KE := Keys_calls b w3
    clear D
    replace hm := Aside0.mk hm
    go_wp2_with fail
    refine KE.mono ?_
    rintro e w4 ⟨rfl, hw4⟩
    have g4 : w3.grownBy w4 none := by rw [hw4]; exact World.grownBy_alloc _ _ _
    have hc4 : w4.cell? ⟨w3.heap.size, 0, none⟩ = some (.map (some b)) := by rw [hw4]; exact cell_of_row _ _ 0 _ 61 (0, 0) (heap_alloc_new w3 _)
    have SF := SortedFunc_calls hc4 (hT.kept g4 (by simp)) (by omega)
    have hs := srt_deps hT.tidy hm.out
    rw [hs] at SF
    have B4 : Below w.heap.size w w4 := (below_then B1 B1.size (below_then B2 B2.size B3)).grown g4 (below_then B1 B1.size (below_then B2 B2.size B3)).size (by simp)
    clear KE hw4 g4 hc4 hT hs
    go_wp2_with fail
    refine SF.mono ?_
    rintro e w5 ⟨v, rfl, hv, B5⟩
    have K : GrPost w h (.returned (.tuple #[v, .int .i64 0])) w5 := ⟨v, by rw [e0.out], by rw [e1.out]; exact Kd.R_lower hv B4.size, below_then B4 B4.size B5⟩
    clear SF hv
    replace K := Aside0.mk K
    go_wp2
    go_ret2
    exact K.out
end Go.Proofs.Ytedcnpaomphffaa
namespace Go.Proofs.Ytedcnpaomphffaa
open Go.RowKit Go.Maps Go.Sort Go.Lib Go.Shelf Go.Proofs.YtedcnpaomphffaaW.PrintWords Go.Proofs.YtedcnpaomphffaaW.PrintLast Go.Proofs.YtedcnpaomphffaaW.PrintMore
set_option linter.unusedVariables false
set_option linter.unusedSimpArgs false
set_option linter.unusedSectionVars false
/-! ### a web under way, as it lies -/
structure Wk (w wr : World) (base pw bn bi : Nat) (vt : Value) (names : List Int) (ss : List Sv) (R : Nat → List Int) (cs : List Int) : Prop where
  below : Below w.heap.size w wr
  cpw : wr.heap[pw]? = some (.cells #[vt, .slice (some ⟨bn, 0, none⟩) names.length names.length, .slice (some ⟨bi, 0, none⟩) names.length names.length] 57 (0, 0))
  txn : dI.R 3 wr w.heap.size (fun k => k < base ∧ k ≠ bi ∧ k ≠ bn) vt names
  next : wr.heap[bn]? = some (.cells (ss.map mvS).toArray 22 (0, 0))
  sl : ss.length = names.length
  into : RowI wr w.heap.size (.slice (some ⟨bi, 0, none⟩) names.length names.length) cs
  cl : cs.length = names.length
  rows : ∀ i (hi : i < ss.length), dI.R 3 wr base (fun _ => True) (mvS ss[i]) (R i)
  apart : ∀ i j (hi : i < ss.length) (hj : j < ss.length), i ≠ j → ∀ k, (mvS ss[i]).ownBlock = some k → (mvS ss[j]).ownBlock ≠ some k
  o1 : w.heap.size ≤ pw
  o2 : pw < base
  o3 : w.heap.size ≤ bn
  o4 : bn < base
  o5 : w.heap.size ≤ bi
  o6 : bi < base
  n1 : pw ≠ bn
  n2 : pw ≠ bi
  n3 : bn ≠ bi
  o7 : base ≤ wr.heap.size
section
variable {w wr w1 w2 : World} {base pw bn bi : Nat} {vt : Value} {names : List Int} {ss : List Sv} {R : Nat → List Int} {cs : List Int}
theorem Wk.congr {R' : Nat → List Int} (h : Wk w wr base pw bn bi vt names ss R cs) (e : ∀ i, i < names.length → R i = R' i) : Wk w wr base pw bn bi vt names ss R' cs :=
  { h with rows := fun i hi => by rw [← e i (by rw [← h.sl]; exact hi)]; exact h.rows i hi }
theorem Wk.typed (h : Wk w wr base pw bn bi vt names ss R cs) {i : Nat} (hi : i < ss.length) {k : Nat} (hk : (mvS ss[i]).ownBlock = some k) : base ≤ k ∧ k < wr.heap.size ∧ ∃ cells, wr.heap[k]? = some (.cells cells 3 (0, 0)) := flat_typed (h.rows i hi) k hk
/-- what changes a block that is none of the web's leaves the web -/
theorem Wk.beside (h : Wk w wr base pw bn bi vt names ss R cs) {q : Option Nat} (hg : wr.grownBy w2 q) (hq : ∀ k, q = some k → base ≤ k) (hr : ∀ i (hi : i < ss.length) k, (mvS ss[i]).ownBlock = some k → q ≠ some k) : Wk w w2 base pw bn bi vt names ss R cs where
  below := h.below.grown hg h.below.size (fun k hk => by have := hq k hk; have := h.o1; have := h.o2; omega)
  cpw := (hg.block pw (Array.getElem?_eq_some_iff.1 h.cpw).1 (fun e => by have := hq _ e.symm; have := h.o2; omega)).trans h.cpw
  txn := Kd.R_grown h.txn hg (fun k hk e => by have := hq k e.symm; omega)
  next := (hg.block bn (Array.getElem?_eq_some_iff.1 h.next).1 (fun e => by have := hq _ e.symm; have := h.o4; omega)).trans h.next
  sl := h.sl
  into := h.into.grown hg (fun b hb e => by have := hq b hb; have e2 : some bi = some b := e; injection e2 with e2; have := h.o6; omega)
  cl := h.cl
  rows := fun i hi => row_grown (h.rows i hi) hg (fun k hk => hr i hi k hk)
  apart := h.apart
  o1 := h.o1
  o2 := h.o2
  o3 := h.o3
  o4 := h.o4
  o5 := h.o5
  o6 := h.o6
  n1 := h.n1
  n2 := h.n2
  n3 := h.n3
  o7 := Nat.le_trans h.o7 hg.size
theorem Wk.kept (h : Wk w wr base pw bn bi vt names ss R cs) (hg : wr.grownBy w2 none) : Wk w w2 base pw bn bi vt names ss R cs := h.beside hg (by simp) (by simp)
theorem Wk.turned (h : Wk w wr base pw bn bi vt names ss R cs) {r : Nat} (hr : base ≤ r) (hw : ∃ o : Obj, wr.heap[r]? = some o ∧ ∀ c e s, o ≠ .cells c e s) (hg : wr.grownBy w2 (some r)) : Wk w w2 base pw bn bi vt names ss R cs :=
  h.beside hg (fun k e => by injection e with e; omega) (fun i hi k hk e => by
    obtain ⟨_, _, cells, hc⟩ := h.typed hi hk
    obtain ⟨o, ho, hw⟩ := hw
    injection e with e
    rw [e, hc] at ho
    injection ho with ho
    exact hw _ _ _ ho.symm)
/-- a row that is turned in its place -/
theorem Wk.turn (h : Wk w wr base pw bn bi vt names ss R cs) {i : Nat} (hi : i < ss.length) {l : List Int} (hg : wr.grownBy w1 (mvS ss[i]).ownBlock) (hrow : dI.R 3 w1 base (fun _ => True) (mvS ss[i]) l) : Wk w w1 base pw bn bi vt names ss (fun t => if t = i then l else R t) cs where
  below := h.below.grown hg h.below.size (fun k hk => by have := (h.typed hi hk).1; have := h.o1; have := h.o2; omega)
  cpw := (hg.block pw (Array.getElem?_eq_some_iff.1 h.cpw).1 (fun e => by have := (h.typed hi e.symm).1; have := h.o2; omega)).trans h.cpw
  txn := Kd.R_grown h.txn hg (fun k hk e => by have := (h.typed hi e.symm).1; omega)
  next := (hg.block bn (Array.getElem?_eq_some_iff.1 h.next).1 (fun e => by have := (h.typed hi e.symm).1; have := h.o4; omega)).trans h.next
  sl := h.sl
  into := h.into.grown hg (fun b hb e => by have := (h.typed hi hb).1; have e2 : some bi = some b := e; injection e2 with e2; have := h.o6; omega)
  cl := h.cl
  rows := fun j hj => by
    by_cases e : j = i
    · subst e
      rw [if_pos rfl]
      exact hrow
    · rw [if_neg e]
      exact row_grown (h.rows j hj) hg (fun k hk => h.apart j i hj hi e k hk)
  apart := h.apart
  o1 := h.o1
  o2 := h.o2
  o3 := h.o3
  o4 := h.o4
  o5 := h.o5
  o6 := h.o6
  n1 := h.n1
  n2 := h.n2
  n3 := h.n3
  o7 := Nat.le_trans h.o7 hg.size
/-- a row that is turned or lengthened, and stored -/
theorem Wk.put (h : Wk w wr base pw bn bi vt names ss R cs) {i : Nat} (hi : i < ss.length) {s : Sv} {l : List Int} (hg : wr.grownBy w1 (mvS ss[i]).ownBlock) (hrow : dI.R 3 w1 base (fun _ => True) (mvS s) l) (hown : (mvS s).ownBlock = none ∨ (mvS s).ownBlock = (mvS ss[i]).ownBlock ∨ ∃ k, (mvS s).ownBlock = some k ∧ wr.heap.size ≤ k) :
    Wk w (w1.setCell ⟨bn, i, none⟩ (mvS s)) base pw bn bi vt names (ss.set i s) (fun t => if t = i then l else R t) cs := by
  have lo : ∀ k, (mvS ss[i]).ownBlock = some k → base ≤ k := fun k hk => (h.typed hi hk).1
  have o4 := h.o4
  have hs := grown_set w1 bn i (mvS s)
  have hnb : w1.heap[bn]? = some (.cells (ss.map mvS).toArray 22 (0, 0)) := (hg.block bn (Array.getElem?_eq_some_iff.1 h.next).1 (fun e => by have := lo _ e.symm; omega)).trans h.next
  have up : ∀ v xs, dI.R 3 w1 base (fun _ => True) v xs → dI.R 3 (w1.setCell ⟨bn, i, none⟩ (mvS s)) base (fun _ => True) v xs := fun v xs hr => row_grown hr hs (fun k hk e => by
    have := (flat_typed hr _ hk).1
    injection e with e
    omega)
  have B1 : Below w.heap.size w w1 := h.below.grown hg h.below.size (fun k hk => by have := lo k hk; have := h.o1; have := h.o2; omega)
  have cross : ∀ j (hj : j < ss.length), j ≠ i → ∀ k, (mvS ss[j]).ownBlock = some k → (mvS s).ownBlock ≠ some k := by
    intro j hj e k hk hk2
    rcases hown with h1 | h1 | ⟨k', h1, h2⟩
    · rw [h1] at hk2; cases hk2
    · rw [h1] at hk2
      exact h.apart j i hj hi e k hk hk2
    · rw [h1] at hk2
      injection hk2 with hk2
      have := (h.typed hj hk).2.1
      omega
  refine ⟨B1.grown hs B1.size (fun k hk => by injection hk with hk; have := h.o3; omega), ?_, ?_, ?_, by rw [List.length_set]; exact h.sl, ?_, h.cl, ?_, ?_, h.o1, h.o2, h.o3, o4, h.o5, h.o6, h.n1, h.n2, h.n3, Nat.le_trans h.o7 (Nat.le_trans hg.size hs.size)⟩
  · exact (hs.block pw (Nat.lt_of_lt_of_le (Array.getElem?_eq_some_iff.1 h.cpw).1 hg.size) (fun e => by injection e with e; exact h.n1 e)).trans ((hg.block pw (Array.getElem?_eq_some_iff.1 h.cpw).1 (fun e => by have := lo _ e.symm; have := h.o2; omega)).trans h.cpw)
  · have t1 := Kd.R_grown h.txn hg (fun k hk e => by have := lo _ e.symm; omega)
    refine Kd.R_grown t1 hs (fun k hk e => ?_)
    injection e with e
    exact hk.2.2 e
  · have := blk_set hnb i (mvS s)
    rw [this]
    congr 2
    simp [List.map_set]
  · refine (h.into.grown hg (fun b hb e => by have := lo _ hb; have e2 : some bi = some b := e; injection e2 with e2; have := h.o6; omega)).grown hs (fun b hb e => ?_)
    injection hb with hb
    have e2 : some bi = some b := e
    injection e2 with e2
    exact h.n3 (hb.trans e2.symm)
  · intro j hj
    rw [List.length_set] at hj
    by_cases e : j = i
    · subst e
      rw [if_pos rfl, List.getElem_set_self]
      exact up _ _ hrow
    · rw [if_neg e, List.getElem_set_ne (fun e2 => e e2.symm)]
      exact up _ _ (row_grown (h.rows j hj) hg (fun k hk => h.apart j i hj hi e k hk))
  · intro a b ha hb hab k hk
    have ha' : a < ss.length := by simpa using ha
    have hb' : b < ss.length := by simpa using hb
    by_cases ea : a = i
    · subst ea
      rw [List.getElem_set_self] at hk
      rw [List.getElem_set_ne hab]
      exact fun e => cross b hb' (fun e2 => hab e2.symm) k e hk
    · rw [List.getElem_set_ne (fun e2 => ea e2.symm)] at hk
      by_cases eb : b = i
      · subst eb
        rw [List.getElem_set_self]
        exact cross a ha' ea k hk
      · rw [List.getElem_set_ne (fun e2 => eb e2.symm)]
        exact h.apart a b ha' hb' hab k hk
/-- one more leads to a place -/
theorem Wk.inc (h : Wk w wr base pw bn bi vt names ss R cs) {j : Nat} (hj : j < cs.length) (x : Int) : Wk w (wr.setCell ⟨bi, j, none⟩ (.int .i64 x)) base pw bn bi vt names ss R (cs.set j x) := by
  have hs := grown_set wr bi j (.int .i64 x)
  refine ⟨h.below.grown hs h.below.size (fun k hk => by injection hk with hk; have := h.o5; omega), ?_, ?_, ?_, h.sl, RowI.put h.into j hj x, by rw [List.length_set]; exact h.cl, ?_, h.apart, h.o1, h.o2, h.o3, h.o4, h.o5, h.o6, h.n1, h.n2, h.n3, Nat.le_trans h.o7 hs.size⟩
  · exact (hs.block pw (Array.getElem?_eq_some_iff.1 h.cpw).1 (fun e => by injection e with e; exact h.n2 e)).trans h.cpw
  · exact Kd.R_grown h.txn hs (fun k hk e => by injection e with e; exact hk.2.1 e)
  · exact (hs.block bn (Array.getElem?_eq_some_iff.1 h.next).1 (fun e => by injection e with e; exact h.n3 e)).trans h.next
  · exact fun i hi => row_grown (h.rows i hi) hs (fun k hk e => by have := (h.typed hi hk).1; injection e with e; have := h.o6; omega)
theorem Wk.cells (h : Wk w wr base pw bn bi vt names ss R cs) : wr.cell? ⟨pw, 0, none⟩ = some vt ∧ wr.cell? ⟨pw, 1, none⟩ = some (.slice (some ⟨bn, 0, none⟩) names.length names.length) ∧ wr.cell? ⟨pw, 2, none⟩ = some (.slice (some ⟨bi, 0, none⟩) names.length names.length) :=
  ⟨cell_of_row wr _ 0 _ 57 (0, 0) h.cpw, cell_of_row wr _ 1 _ 57 (0, 0) h.cpw, cell_of_row wr _ 2 _ 57 (0, 0) h.cpw⟩
theorem Wk.nextAt (h : Wk w wr base pw bn bi vt names ss R cs) (i : Nat) (hi : i < ss.length) : wr.cell? ⟨bn, i, none⟩ = some (mvS ss[i]) ∧ wr.frozen? ⟨bn, i, none⟩ = false := by
  refine ⟨?_, blk_frozen h.next _⟩
  rw [cell_of_row wr bn i _ 22 (0, 0) h.next]
  simp [hi]
theorem Wk.intoAt (h : Wk w wr base pw bn bi vt names ss R cs) (j : Nat) (hj : j < cs.length) : wr.cell? ⟨bi, j, none⟩ = some (.int .i64 cs[j]) ∧ wr.frozen? ⟨bi, j, none⟩ = false :=
  ⟨RowI.at h.into j cs[j] (List.getElem?_eq_getElem hj), h.into.frozen j⟩
end
end Go.Proofs.Ytedcnpaomphffaa
