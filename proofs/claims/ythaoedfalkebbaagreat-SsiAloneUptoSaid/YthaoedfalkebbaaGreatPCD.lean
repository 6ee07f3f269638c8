/- Cut by a program out of the seat's texts (SY SZ TA TB TC TD TE TF TG TI TJ): what the theorem needs, one behind the other. -/
import Derived.Test.YthaoedfalkebbaaGreatPCC
import Derived.RangeFuncNested
import Derived.RangeFuncBound
import Derived.RangeFuncCalls
import Derived.RangeFuncLeaves
import Derived.Shelf.Abstract
import Derived.Shelf.RegionOpen
import Derived.OwnWalkIn
import Derived.TacticsInMore
import Derived.LoopNIn
import Derived.LoopIn
namespace Go.Proofs.YthaoedfalkebbaaGreat
open Go.RowKit Go.Maps Go.Sort Go.Lib Go.Proofs.YthaoedfalkebbaaGreatW.PrintWords Go.Proofs.YthaoedfalkebbaaGreatW.PrintLast Go.Proofs.YthaoedfalkebbaaGreatW.PrintMore
set_option linter.unusedVariables false
set_option linter.unusedSimpArgs false
set_option linter.unusedSectionVars false
abbrev Wd : Fence := Fence.wide
section
variable {P : Program} {α β : Type} [DecidableEq α] {k : TypeId} {mk : α → Value} {ok : α → Prop} {R : Value → Option (DataW Unit × List MemPlace)} {cd : β → DataW Unit}
theorem Rng.walks {w w' : World} {b r n : Nat} {L rem : List (α × β)} (h : Rng P k mk ok R cd w b r n L rem) (hk : KeepsWalks w w') : Rng P k mk ok R cd w' b r n L rem ∧ w'.rangeLeft b r = w.rangeLeft b r := by
  obtain ⟨D, left, h1, h2, h3⟩ := h
  have := h1.of_walks hk
  have e := this.left_eq
  exact ⟨⟨D, left, by rw [e]; exact this, h2, h3⟩, e⟩
theorem Rng.walk {w : World} {b r n : Nat} {L rem : List (α × β)} (h : Rng P k mk ok R cd w b r n L rem) : ∃ o : Obj, w.heap[r]? = some o ∧ o.isWalk = true := by
  obtain ⟨D, left, h1, _⟩ := h
  exact h1.iter_walk
end
def KJ (J : List Pl → World → Prop) (b r : Nat) (L : List (Pl × Sv)) (wr : World) : Prop :=
  ∃ vis rem : List (Pl × Sv), (vis ++ rem).Perm L ∧ RngN wr b r L.length L rem ∧ J (vis.map (·.1)) wr
set_option maxHeartbeats 4000000 in
set_option maxRecDepth 100000 in
theorem keys61 (n Bm b : Nat) (L : List (Pl × Sv)) (w0 : World) (hcell : w0.cell? ⟨Bm, 0, none⟩ = some (.map (some b))) (h : TabN w0 b L.length L) :
    SeqStopsK Wd n Tryz.prog 188 #[.pointer (some ⟨Bm, 0, none⟩)] (fun q : Pl => #[.agg #[.int .i64 q.1, .string q.2]]) KeepsWalks (fun ks => ks.Perm (L.map (·.1))) (fun _ => True) L.length w0 := by
  intro lp J Jx W hW hJ hJx hY h0
  have hc := (hW.cell (World.block_lt_of_cell? _ _ hcell)).trans hcell
  obtain ⟨w1, hrun, hRg, hg1, hs1⟩ := Tab.range (t := 148) keyP Tryz.underlying148 (h.kept (grown_of_below hW none) (by simp) : TabN W b L.length L)
  have hJ1 : J [] w1 := hJ _ _ _ none h0 hg1 (by simp)
  clear hcell
  refine callsIn_of_wp Tryz.func188 rfl trivial ?_ rfl
  simp only [Tryz.ntmps188, List.size_toArray, List.length_cons, List.length_nil, Nat.reduceAdd, Nat.reduceSub, Array.replicate_succ, Array.replicate_zero, List.push_toArray, List.append_toArray, List.nil_append, List.cons_append]
  gi_wp2
  gi_loopw [3] (fun _ wr => KJ J b W.heap.size L wr) (fun _ wr => wr.rangeLeft b W.heap.size)
  case atStart => exact ⟨[], L, List.Perm.refl _, hRg, hJ1⟩
  case round =>
    obtain ⟨vis, rem, hp, hr, hj⟩ := hrel
    rcases hr.next keyP valS 0 with ⟨hnil, hrun1⟩ | ⟨a, sv, w3, hmem, hok, hrun1, hr3, hlt, hg3, hs3, hent⟩
    · subst hnil
      rw [List.append_nil] at hp
      gi_wp2
      go_end0
      exact ⟨⟨_, rfl⟩, .inl ⟨_, hp.map _, hj⟩⟩
    · unfold mkP at hrun1 hent
      have hwk := hr.walk
      have hj3 : J (vis.map (·.1)) w3 := hJ _ _ _ _ hj hg3 (fun r e => by cases e; exact ⟨Nat.le_refl _, hwk⟩)
      obtain ⟨W3, hW3⟩ : ∃ W3, W3 = w3.alloc (.cells #[.int .i64 a.1, .string a.2] 156) := ⟨_, rfl⟩
      have hgA : w3.grownBy W3 none := by rw [hW3]; exact World.grownBy_alloc _ _ _
      have hkA : KeepsWalks w3 W3 := by rw [hW3]; exact KeepsWalks.alloc _ _
      have hjA : J (vis.map (·.1)) W3 := hJ _ _ _ none hj3 hgA (by simp)
      have hlen := hp.length_eq
      rw [List.length_append] at hlen
      have hrl : 0 < rem.length := List.length_pos_of_mem hmem
      obtain ⟨fn, tmps, assign, body, hy, hR⟩ := hY _ a W3 hjA (by rw [List.length_map]; omega)
      subst hW3
      gi_wp2
      refine ⟨fun h => absurd h (by decide), hR.mono ?_⟩
      rintro e W4 (⟨rfl, hj4, hk4⟩ | ⟨rfl, hx4⟩)
      · obtain ⟨hr4, e4⟩ := hr3.walks (hkA.trans hk4)
        gi_wp2
        refine ⟨⟨vis ++ [(a, sv)], _, perm_next hr.apart hp hmem, hr4, ?_⟩, ?_⟩
        · rw [List.map_append]; exact hj4
        · rw [e4]; exact hlt
      · gi_wp2
        refine bodyPost_ret (results_none rfl _ _ _) rfl ?_
        exact ⟨⟨_, rfl⟩, .inr ⟨_, trivial, hx4⟩⟩
end Go.Proofs.YthaoedfalkebbaaGreat
namespace Go.Proofs.YthaoedfalkebbaaGreat
open Go.RowKit Go.Maps Go.Sort Go.Lib Go.Proofs.YthaoedfalkebbaaGreatW.PrintWords Go.Proofs.YthaoedfalkebbaaGreatW.PrintLast Go.Proofs.YthaoedfalkebbaaGreatW.PrintMore
set_option linter.unusedVariables false
set_option linter.unusedSimpArgs false
set_option linter.unusedSectionVars false
theorem app_listIn {P : Program} {F : Fence} {n : Nat} {ops : Array Oper} {o : Oper} {rest : List Oper} {a : Act} {Q' : Exit → Act → World → Prop} {W w1 : World} {s x : Operand} {t : TypeId} {v u v1 : Value} (hgd : o.guard = none)
    (ho : o.op = .call { callee := .builtin .append, args := #[s, x], argTypes := #[t, t] }) (hs : a.eval s = v) (hx : a.eval x = u) (hr : (Builtin.append_ #[t, t] o.type #[v, u]).run P W = .ok v1 w1) (h : wpListIn F n P ops Q' rest (a.put o.dst v1) w1) :
    wpListIn F n P ops Q' (o :: rest) a W := by
  refine wpListIn_plain hgd fun K hK => ?_
  unfold Oper.wpIn
  refine ⟨by simp [Oper.about, ho, resolve, Target.leads, Sem.run_pure], ?_⟩
  rw [Oper.semAt_plain F _ _ (by rw [ho]; intro c hc'; cases hc')]
  simp [execOp, ho, resolve, invoke, builtin, hs, hx, hr, Result.andThen]
  exact hK _ _ h
section
variable {α : Type} {enc : α → List Value} {k : Nat} {hn : ∀ x, (enc x).length = k} {h1 : ∀ x, ∀ u ∈ enc x, u.oneCell' = true}
/-- an append to a flat row -/
theorem flat_app {P : Program} {W : World} {base e : Nat} {v : Value} {xs : List α} (h : (Kd.flat enc k hn h1).R e W base (fun _ => True) v xs) (t ty : TypeId) (z : Value) (bytes : Nat) (ht : P.underlying t = some (.slice e)) (hinfo : (P.info? e).map (fun i => (i.zero, i.size, i.bytes)) = some (some z, k, bytes)) (hzs : z.cells.size = k) (hk : 0 < k) (hb0 : 0 < bytes)
    (x : α) (hbytes : (xs.length + 1) * bytes ≤ 140737488355328) (hbase : base ≤ W.heap.size) :
    ∃ v' w', (Builtin.append_ #[t, t] ty #[v, .slice (some ⟨W.heap.size, 0, none⟩) 1 1]).run P (W.alloc (.cells (enc x).toArray e)) = .ok v' w' ∧ (Kd.flat enc k hn h1).R e w' base (fun _ => True) v' (xs ++ [x]) ∧ W.grownBy w' v.ownBlock := by
  obtain ⟨_, inner, ho, hr⟩ := h
  obtain ⟨i0, hi0, hzz⟩ := Option.map_eq_some_iff.1 hinfo
  simp only [Prod.mk.injEq] at hzz
  obtain ⟨hz0, hz1, hz2⟩ := hzz
  have hlen : xs.length + 1 ≤ 140737488355328 := Nat.le_trans (Nat.le_mul_of_pos_right _ hb0) hbytes
  obtain ⟨v', w', hr', ho', hg, _⟩ := run_append_own_at (P := P) (w := W.alloc (.cells (enc x).toArray e)) base t ty e i0 z k bytes ht hi0 hz0 hz1 hz2 hzs hk v xs.length inner (World.ownsRow.alloc ho _) ⟨W.heap.size, 0, none⟩ 1 1 (enc x) (by rw [hn, Nat.one_mul])
    (by simpa using World.news_of_block (cs := (enc x).toArray) (t := e) (fr := (0, 0)) (heap_alloc_new W (.cells (enc x).toArray e))) (h1 x) (by simp only [maxLen]; omega) hbytes (by simp; omega)
  refine ⟨v', w', hr', ⟨fun _ _ => trivial, _, by rw [List.length_append]; exact ho', hr.snoc rfl (hn x)⟩, trans_grown (World.grownBy_alloc W _ _) hg⟩
theorem flat_typed {W : World} {base e : Nat} {ok : Nat → Prop} {v : Value} {xs : List α} (h : (Kd.flat enc k hn h1).R e W base ok v xs) (b : Nat) (hb : v.ownBlock = some b) : base ≤ b ∧ b < W.heap.size ∧ ∃ cells, W.heap[b]? = some (.cells cells e (0, 0)) := by
  exact (Lo.ofR h).typed b hb
end
/-- between two rounds of AppendSeq -/
def AI (w : World) (ks : List Pl) (W : World) : Prop :=
  ∃ v, W.heap[w.heap.size]? = some (.cells #[v] 220 (0, 0)) ∧ dP.R 156 W w.heap.size (fun _ => True) v ks ∧ Below w.heap.size w W
theorem AI.kept {w W W' : World} {ks : List Pl} {row : Option Nat} (h : AI w ks W) (hg : W.grownBy W' row) (hrow : ∀ r, row = some r → w.heap.size + 1 ≤ r ∧ ∃ o : Obj, W.heap[r]? = some o ∧ o.isCells = false) : AI w ks W' := by
  obtain ⟨v, h1, h2, h3⟩ := h
  have ne : ∀ b cells e, W.heap[b]? = some (.cells cells e (0, 0)) → some b ≠ row := fun b cells e hb hr => by
    obtain ⟨_, o, ho, hc⟩ := hrow b hr.symm
    rw [hb] at ho
    injection ho with ho
    subst ho
    cases hc
  refine ⟨v, (hg.block _ (Array.getElem?_eq_some_iff.1 h1).1 (ne _ _ _ h1)).trans h1, ?_, h3.grown hg h3.size (fun k hk => by have := (hrow k hk).1; omega)⟩
  refine Kd.R_mono (Kd.R_grown (Kd.R_bound h2) hg (fun k hk e => ?_)) (fun _ _ => trivial)
  obtain ⟨_, _, _, q, _, cells, hc⟩ := hk
  exact ne _ _ _ hc e
/-- what the assignment of a round leaves -/
def AA (w : World) (f : Value) (x : Pl) (a' : Act) (W : World) : Prop :=
  ∃ B, a' = { tmps := #[.slice none 0 0, f, .pointer (some ⟨w.heap.size, 0, none⟩), undef, .slice none 0 0, .pointer (some ⟨B, 0, none⟩), f, .agg #[.int .i64 x.1, .string x.2], undef, undef, undef, undef, undef], defers := [] } ∧ W.heap[B]? = some (.cells #[.int .i64 x.1, .string x.2] 156 (0, 0))
attribute [local go_sem] Oper.semAt_some
theorem appP {W : World} {base : Nat} {v : Value} {xs : List Pl} (h : dP.R 156 W base (fun _ => True) v xs) (x : Pl) (hl : xs.length ≤ 65537) (hb : base ≤ W.heap.size) :
    ∃ v' w', (Builtin.append_ #[220, 220] 220 #[v, .slice (some ⟨W.heap.size, 0, none⟩) 1 1]).run Tryz.prog (W.alloc (.cells #[.int .i64 x.1, .string x.2] 156)) = .ok v' w' ∧ dP.R 156 w' base (fun _ => True) v' (xs ++ [x]) ∧ W.grownBy w' v.ownBlock :=
  flat_app h 220 220 _ 24 Tryz.underlying220 info62 rfl (by decide) (by decide) x (by omega) hb
set_option maxHeartbeats 8000000 in
set_option maxRecDepth 100000 in
theorem appendSeq_in (n Bm b : Nat) (L : List (Pl × Sv)) (w : World) (hn : 3 ≤ n) (hcell : w.cell? ⟨Bm, 0, none⟩ = some (.map (some b))) (h : TabN w b L.length L) (hL : L.length ≤ 65537) :
    CallsIn Wd n Tryz.prog 203 #[.slice none 0 0, .func (.func 188) #[] #[.pointer (some ⟨Bm, 0, none⟩)]] w fun e w' => ∃ v ks, e = .returned v ∧ ks.Perm (L.map (·.1)) ∧ dP.R 156 w' w.heap.size (fun _ => True) v ks ∧ Below w.heap.size w w' := by
  obtain ⟨f, hf⟩ : ∃ f, f = Value.func (.func 188) #[] #[.pointer (some ⟨Bm, 0, none⟩)] := ⟨_, rfl⟩
  obtain ⟨w1, hw1⟩ : ∃ w1, w1 = w.alloc (.cells #[.slice none 0 0] 220) := ⟨_, rfl⟩
  have B1 : Below w.heap.size w w1 := by rw [hw1]; exact (Below.refl _ w).alloc (Nat.le_refl _) _
  have hs1 : w1.heap.size = w.heap.size + 1 := by rw [hw1]; simp
  have o1 : w1.heap[w.heap.size]? = some (.cells #[.slice none 0 0] 220 (0, 0)) := by rw [hw1]; exact heap_alloc_new w _
  have I0 : AI w [] w1 := ⟨_, o1, Kd.R_nil _ _ _ _ _, B1⟩
  have hs1' := Aside0.mk hs1
  clear hs1
  refine callsIn_of_wp_marks Tryz.func203 rfl trivial ?_ rfl
  simp only [Tryz.ntmps203, List.size_toArray, List.length_cons, List.length_nil, Nat.reduceAdd, Nat.reduceSub, Array.replicate_succ, Array.replicate_zero, List.push_toArray, List.append_toArray, List.nil_append, List.cons_append]
  rw [← hf]
  gi_wp2
  rw [← hw1]
  have hs1 := hs1'.out
  refine wpIn_rangeFunc_ownH (n := n) (α := Pl) (w0 := w) (encs := fun q : Pl => #[.agg #[.int .i64 q.1, .string q.2]]) (Kp := KeepsWalks) (S := fun ks => ks.Perm (L.map (·.1))) (Sp := fun _ => True) (N := L.length) (gf := 188) (lb := #[.pointer (some ⟨Bm, 0, none⟩)]) rfl (by omega) hf trivial (enters_of Tryz.func188 (by kernel_rfl) rfl)
    (keys61 (n - 1) Bm b L w hcell h) (fun h k => h.trans k) (fun W l o o' _ hl hc hw => KeepsWalks.putObj o' hl hw) B1 (fun _ => rfl) (AI w) (fun _ _ _ => False) ?hI (fun c _ _ _ _ h => h.elim) I0 (AA w f) ?hA ?assign ?body ?done (fun D c pre W _ _ h => h.elim)
  case hI =>
    intro ks W W' row hi hg hr
    exact hi.kept hg (fun r e => by rw [← hs1]; exact hr r e)
  case hA =>
    rintro x a' _ W W' row ⟨B, e, hB⟩ hg hr
    refine ⟨B, e, (hg.block B (Array.getElem?_eq_some_iff.1 hB).1 (fun e2 => ?_)).trans hB⟩
    obtain ⟨_, o, ho, hc⟩ := hr B e2.symm
    rw [hB] at ho
    injection ho with ho
    subst ho
    cases hc
  case assign =>
    intro l pre x W K hi hK
    subst hf
    have hw2 := hK { tmps := #[.slice none 0 0, .func (.func 188) #[] #[.pointer (some ⟨Bm, 0, none⟩)], .pointer (some ⟨w.heap.size, 0, none⟩), undef, .slice none 0 0, .pointer (some ⟨W.heap.size, 0, none⟩), .func (.func 188) #[] #[.pointer (some ⟨Bm, 0, none⟩)], .agg #[.int .i64 x.1, .string x.2], undef, undef, undef, undef, undef], defers := [] } (W.alloc (.cells #[.int .i64 x.1, .string x.2] 156))
      ((KeepsOthers.alloc _ _).from _) (KeepsWalks.alloc _ _) (hi.kept (World.grownBy_alloc _ _ none) (by simp)) ⟨_, rfl, heap_alloc_new W _⟩
    gi_wp2
    exact hw2
  case body =>
    rintro l pre x a' W hl _ ⟨v, hbox, hrow, hB⟩ ⟨B, rfl, hxB⟩ hlen
    subst hf
    obtain ⟨bc, bf⟩ : W.cell? ⟨w.heap.size, 0, none⟩ = some v ∧ W.frozen? ⟨w.heap.size, 0, none⟩ = false := by constructor <;> simp [World.cell?, World.frozen?, hbox]
    have x0 := cell_of_row W B 0 _ 156 (0, 0) hxB
    have x1 := cell_of_row W B 1 _ 156 (0, 0) hxB
    obtain ⟨v', w', hrun, hrow', hg'⟩ := appP hrow x (by omega) hB.size
    obtain ⟨A', c', rfl, _, _⟩ := (Lo.ofR hrow').slice
    have hne : v.ownBlock ≠ some w.heap.size := fun e => by
      obtain ⟨_, _, cells, hc⟩ := flat_typed hrow _ e
      rw [hbox] at hc
      injection hc with hc
      injection hc with _ hc
      cases hc
    have hbox' := (hg'.block w.heap.size (Array.getElem?_eq_some_iff.1 hbox).1 (fun e => hne e.symm)).trans hbox
    obtain ⟨bc', bf'⟩ : w'.cell? ⟨w.heap.size, 0, none⟩ = some v ∧ w'.frozen? ⟨w.heap.size, 0, none⟩ = false := by constructor <;> simp [World.cell?, World.frozen?, hbox']
    gi_wp2_with (gi_at_builtin; refine app_listIn rfl rfl rfl rfl hrun ?_)
    have hne' : (Value.slice A' (pre.length + 1) c').ownBlock ≠ some w.heap.size := fun e => by
      obtain ⟨_, _, cells, hc⟩ := flat_typed hrow' _ (by simpa using e)
      rw [hbox'] at hc
      injection hc with hc
      injection hc with _ hc
      cases hc
    have hk : KeepsOthers W (w'.setCell ⟨w.heap.size, 0, none⟩ (.slice A' (pre.length + 1) c')) := by
      refine (KeepsOthers.of_grownBy hg' fun j o e ho => ?_).trans (KeepsOthers.setCell _ _ _)
      obtain ⟨_, _, cells, hc⟩ := flat_typed hrow _ e
      rw [hc] at ho
      injection ho with ho
      subst ho
      rfl
    have hlen' : (pre ++ [x]).length = pre.length + 1 := by simp
    rw [hlen'] at hrow'
    refine ⟨hk.from _, hk.walks, _, blk_set hbox' 0 _, ?_, (hB.grown hg' hB.size (fun k hk => (flat_typed hrow k hk).1)).grown (grown_set _ _ 0 _) (Nat.le_trans hB.size hg'.size) (fun k hk => by injection hk with hk; omega)⟩
    refine Kd.R_mono (Kd.R_grown (Kd.R_bound hrow') (grown_set w' w.heap.size 0 _) (fun k hk e => ?_)) (fun _ _ => trivial)
    obtain ⟨_, _, _, q, hq, cells, hc⟩ := hk
    injection e with e
    subst e
    rw [hbox'] at hc
    injection hc with hc
    injection hc with _ hc
    subst hc
    revert hq
    exact (by decide : ¬ (220 ∈ (156 :: dP.E)))
  case done =>
    rintro D ks W hD hS ⟨v, hbox, hrow, hB⟩ hdef
    have bc := cell_of_row W w.heap.size 0 _ 220 (0, 0) hbox
    gi_wp2
    have hDc : ∀ cells e, W.heap[D]? ≠ some (.cells cells e (0, 0)) := fun cells e h => by rw [hdef] at h; cases h
    refine ⟨by simp, .inl ⟨_, _, rfl, run_takeDeferred hdef, ?_⟩⟩
    refine ⟨_, results_tmp rfl _ _ _, v, ks, rfl, hS, ?_, hB.grown (grownBy_putObj' W D _) hB.size (fun k e => by cases e; omega)⟩
    refine Kd.R_mono (Kd.R_grown (Kd.R_bound hrow) (grownBy_putObj' W D _) (fun k hk e => ?_)) (fun _ _ => trivial)
    obtain ⟨_, _, _, q, hq, cells, hc⟩ := hk
    injection e with e
    subst e
    exact hDc _ _ hc
end Go.Proofs.YthaoedfalkebbaaGreat
namespace Go.Proofs.YthaoedfalkebbaaGreat
open Go.RowKit Go.Maps Go.Sort Go.Lib Go.Proofs.YthaoedfalkebbaaGreatW.PrintWords Go.Proofs.YthaoedfalkebbaaGreatW.PrintLast Go.Proofs.YthaoedfalkebbaaGreatW.PrintMore
set_option linter.unusedVariables false
set_option linter.unusedSimpArgs false
set_option linter.unusedSectionVars false
theorem srtC_congr {α : Type} {c : α → α → Int} (h : Ord3 c) (he : ∀ a b, c a b = 0 → a = b) {xs ys : List α} (hp : xs.Perm ys) : srtC c xs = srtC c ys := by
  refine List.Perm.eq_of_pairwise (fun a b _ _ h1 h2 => ?_) (srtC_rising h xs) (srtC_rising h ys) (((srtC_perm xs).trans hp).trans (srtC_perm ys).symm)
  have := h.anti a b
  have := h.anti b a
  exact he _ _ (by omega)
set_option maxRecDepth 100000 in
theorem Keys_calls (b : Nat) (w : World) : Calls Tryz.prog 154 #[.map (some b)] w fun e w' => e = .returned (.func (.func 188) #[] #[.pointer (some ⟨w.heap.size, 0, none⟩)]) ∧ w' = w.alloc (.cells #[.map (some b)] 148) := by
  go_enter Tryz.func154, Tryz.ntmps154
  go_wp2
  go_ret
  exact ⟨rfl, rfl⟩
section
variable {Bm b : Nat} {L : List (Pl × Sv)} {w : World}
set_option maxRecDepth 100000 in
theorem Collect_calls (hcell : w.cell? ⟨Bm, 0, none⟩ = some (.map (some b))) (h : TabN w b L.length L) (hL : L.length ≤ 65537) :
    Calls Tryz.prog 186 #[.func (.func 188) #[] #[.pointer (some ⟨Bm, 0, none⟩)]] w fun e w' => ∃ v ks, e = .returned v ∧ ks.Perm (L.map (·.1)) ∧ dP.R 156 w' w.heap.size (fun _ => True) v ks ∧ Below w.heap.size w w' := by
  have A := (callsIn_wide (n := 9)).1 (appendSeq_in 9 Bm b L w (by omega) hcell h hL)
  clear hcell h
  go_enter Tryz.func186, Tryz.ntmps186
  go_wp2_with fail
  refine A.mono ?_
  rintro e w' ⟨v, ks, rfl, h⟩
  go_wp2
  go_ret
  exact ⟨v, ks, rfl, h⟩
set_option maxRecDepth 100000 in
theorem SortedFunc_calls (hcell : w.cell? ⟨Bm, 0, none⟩ = some (.map (some b))) (h : TabN w b L.length L) (hL : L.length ≤ 65537) :
    Calls Tryz.prog 153 #[.func (.func 188) #[] #[.pointer (some ⟨Bm, 0, none⟩)], .func (.func 155) #[] #[]] w fun e w' => ∃ v, e = .returned v ∧ dP.R 156 w' w.heap.size (fun _ => True) v (srtC cmpPl (L.map (·.1))) ∧ Below w.heap.size w w' := by
  have C := Collect_calls hcell h hL
  clear hcell h
  go_enter Tryz.func153, Tryz.ntmps153
  go_wp2_with fail
  refine C.mono ?_
  rintro e w1 ⟨v, ks, rfl, hp, hv, B1⟩
  have hl : ks.length = L.length := by simpa using hp.length_eq
  have S := sortP_calls w1 w.heap.size _ v ks hv (by omega)
  rw [srtC_congr ord_Pl (fun _ _ => cmpPl_eq) hp] at S
  go_wp2_with fail
  refine S.mono ?_
  rintro e w2 ⟨rfl, hv2, G⟩
  go_wp2
  go_ret
  exact ⟨v, rfl, hv2, B1.grown G B1.size (fun k hk => (flat_typed hv k hk).1)⟩
end
/-- a map of notes -/
structure Mp (w : World) (base b : Nat) (L : List (Pl × Sv)) (R : Pl → List Rd) : Prop where
  tab : TabN w b L.length L
  rows : ∀ e ∈ L, RowR w base (mvS e.2) (R e.1)
  off : ∀ t, got L t = none → R t = []
theorem Mp.row {w : World} {base b : Nat} {L : List (Pl × Sv)} {R : Pl → List Rd} (h : Mp w base b L R) (q : Pl) : RowR w base (mvS ((got L q).getD none)) (R q) := by
  cases hg : got L q with
  | none => rw [h.off q hg]; exact Lo.nil _ _
  | some s => exact h.rows (q, s) (got_mem hg)
theorem Mp.kept {w w' : World} {base b : Nat} {L : List (Pl × Sv)} {R : Pl → List Rd} (h : Mp w base b L R) (hg : w.grownBy w' none) : Mp w' base b L R where
  tab := h.tab.kept hg (by simp)
  rows := fun e he => (h.rows e he).grown hg (by simp)
  off := h.off
/-- the place with the most notes of those that have more than one, the first such in the order of places -/
def crs (n : Pl → Nat) (s : Pl × Nat) (ks : List Pl) : Pl × Nat := ks.foldl (fun s q => if s.2 < n q then (q, n q) else s) s
def pl0 : Pl := (0, ⟨#[]⟩)
end Go.Proofs.YthaoedfalkebbaaGreat
namespace Go.Proofs.YthaoedfalkebbaaGreat
open Go.RowKit Go.Maps Go.Sort Go.Lib Go.Proofs.YthaoedfalkebbaaGreatW.PrintWords Go.Proofs.YthaoedfalkebbaaGreatW.PrintLast Go.Proofs.YthaoedfalkebbaaGreatW.PrintMore
set_option linter.unusedVariables false
set_option linter.unusedSimpArgs false
set_option linter.unusedSectionVars false
theorem Mp.beside {w w' : World} {base b q e : Nat} {L : List (Pl × Sv)} {R : Pl → List Rd} (h : Mp w base b L R) (hg : w.grownBy w' (some q)) (hq : ∃ c s, w.heap[q]? = some (.cells c e s)) (he : e ≠ 108) : Mp w' base b L R where
  tab := h.tab.kept hg (by
    rintro e
    injection e with e
    subst e
    obtain ⟨es, clock, hb⟩ := h.tab.isMap
    obtain ⟨c, s, hq⟩ := hq
    rw [hb] at hq
    cases hq)
  rows := fun e' he' => (h.rows e' he').grown hg (fun k hk e2 => by
    injection hk with hk
    subst hk
    obtain ⟨_, _, cells, hc⟩ := (h.rows e' he').typed _ e2
    obtain ⟨c, s, hq⟩ := hq
    rw [hq] at hc
    injection hc with hc
    injection hc with _ hc
    exact he hc)
  off := h.off
def boxP (q : Pl) : Obj := .cells #[.int .i64 q.1, .string q.2] 156 (0, 0)
theorem crs_next (n : Pl → Nat) (s : Pl × Nat) (ks : List Pl) (k : Nat) (q : Pl) (h : ks[k]? = some q) : crs n s (ks.take (k + 1)) = if (crs n s (ks.take k)).2 < n q then (q, n q) else crs n s (ks.take k) := by
  obtain ⟨hk, rfl⟩ := List.getElem?_eq_some_iff.1 h
  unfold crs
  rw [List.take_succ_eq_append_getElem hk, List.foldl_append]
  rfl
theorem crs_le (n : Pl → Nat) (m : Nat) (hn : ∀ q, n q ≤ m) : ∀ (ks : List Pl) (s : Pl × Nat), s.2 ≤ m → (crs n s ks).2 ≤ m
  | [], s, h => h
  | q :: ks, s, h => by
    have : crs n s (q :: ks) = crs n (if s.2 < n q then (q, n q) else s) ks := rfl
    rw [this]
    refine crs_le n m hn ks _ ?_
    split
    · exact hn q
    · exact h
/-- within the loop of coarsest -/
def CJ (w : World) (base b base2 : Nat) (L : List (Pl × Sv)) (R : Pl → List Rd) (A : Option Addr) (c : Nat) (ks : List Pl) (vi v5 : Value) (wr : World) : Prop :=
  ∃ k : Nat, vi = .int .i64 (k : Int) ∧ k ≤ ks.length ∧ v5 = .int .i64 ((crs (fun q => (R q).length) (pl0, 1) (ks.take k)).2 : Int) ∧ wr.heap[w.heap.size + 1]? = some (boxP (crs (fun q => (R q).length) (pl0, 1) (ks.take k)).1) ∧ wr.heap[w.heap.size]? = some (boxP pl0) ∧
    dP.R 156 wr base2 (fun _ => True) (.slice A ks.length c) ks ∧ Mp wr base b L R ∧ Below w.heap.size w wr ∧ w.heap.size + 2 ≤ base2
set_option maxHeartbeats 8000000 in
set_option maxRecDepth 100000 in
theorem coarsest_calls (base b : Nat) (L : List (Pl × Sv)) (R : Pl → List Rd) (w : World) (h : Mp w base b L R) (hL : L.length ≤ 65537) (hR : ∀ q, (R q).length ≤ 65537) :
    Calls Tryz.prog 115 #[.map (some b)] w fun e w' => e = .returned (.tuple #[.agg #[.int .i64 (crs (fun q => (R q).length) (pl0, 1) (srtC cmpPl (L.map (·.1)))).1.1, .string (crs (fun q => (R q).length) (pl0, 1) (srtC cmpPl (L.map (·.1)))).1.2], .bool (decide (1 < (crs (fun q => (R q).length) (pl0, 1) (srtC cmpPl (L.map (·.1)))).2))]) ∧ Below w.heap.size w w' := by
  obtain ⟨w1, hw1⟩ : ∃ w1, w1 = (w.alloc (.cells #[.int .i64 0, .string ⟨#[]⟩] 156)).alloc (.cells #[.int .i64 0, .string ⟨#[]⟩] 156) := ⟨_, rfl⟩
  have B1 : Below w.heap.size w w1 := by rw [hw1]; exact below_alloc ((Below.refl _ w).alloc (Nat.le_refl _) _) _
  have o0 : w1.heap[w.heap.size]? = some (boxP pl0) := by rw [hw1]; exact (Below.heap_alloc _ _ _ (by simp)).trans (heap_alloc_new w _)
  have o1 : w1.heap[w.heap.size + 1]? = some (boxP pl0) := by
    rw [hw1]
    have := heap_alloc_new (w.alloc (.cells #[.int .i64 0, .string ⟨#[]⟩] 156)) (.cells #[.int .i64 0, .string ⟨#[]⟩] 156)
    simpa [boxP, pl0] using this
  have hs1 : w1.heap.size = w.heap.size + 2 := by rw [hw1]; simp
  have hs1' := Aside0.mk hs1
  clear hs1
  have KC := Keys_calls b w1
  go_enter Tryz.func115, Tryz.ntmps115
  go_upto_region 3 with (fail)
  rw [← hw1]
  clear hw1
  go_wp2_with fail
  refine KC.mono ?_
  rintro e w2 ⟨rfl, hw2⟩
  have B2 : Below w1.heap.size w1 w2 := by rw [hw2]; exact (Below.refl _ w1).alloc (Nat.le_refl _) _
  have c2 : w2.cell? ⟨w1.heap.size, 0, none⟩ = some (.map (some b)) := by rw [hw2]; simp [go_sem]
  clear hw2
  have B2' := below_then B1 B1.size B2
  have M2 := h.kept (grown_of_below B2' none)
  have SF := SortedFunc_calls c2 M2.tab hL
  generalize hks : srtC cmpPl (L.map (·.1)) = ks at SF ⊢
  have hkl : ks.length ≤ 65537 := by rw [← hks, srtC_length, List.length_map]; exact hL
  have hkok : ∀ q ∈ ks, okP q := fun q hq => by
    rw [← hks] at hq
    obtain ⟨p, hp, rfl⟩ := List.mem_map.1 ((srtC_perm _).mem_iff.1 hq)
    exact h.tab.good p hp
  clear c2
  replace hks := Aside0.mk hks
  replace hkok := Aside0.mk hkok
  go_wp2_with fail
  refine SF.mono ?_
  rintro e w3 ⟨v, rfl, hv, B3⟩
  obtain ⟨A, c, rfl, hlc, hA⟩ := (Lo.ofR hv).slice
  have B3' := below_then B2' B2'.size B3
  have hb2 : w.heap.size + 2 ≤ w2.heap.size := by rw [← hs1'.out]; exact B2.size
  have hJ0 : CJ w base b w2.heap.size L R A c ks (.int .i64 0) (.int .i64 1) w3 := ⟨0, rfl, Nat.zero_le _, by simp [crs], by
      have e := (B3.block _ (Nat.lt_of_lt_of_le (Array.getElem?_eq_some_iff.1 o1).1 B2.size)).trans ((B2.block _ (Array.getElem?_eq_some_iff.1 o1).1).trans o1)
      simpa [crs] using e, (B3.block _ (Nat.lt_of_lt_of_le (Array.getElem?_eq_some_iff.1 o0).1 B2.size)).trans ((B2.block _ (Array.getElem?_eq_some_iff.1 o0).1).trans o0), hv, M2.kept (grown_of_below B3 none), B3', hb2⟩
  clear hv B3 B3' M2 B2' B2 B1 o0 o1 SF KC h
  go_wp2_with fail
  go_loopw [5, 12] (fun v5 vi wr => CJ w base b w2.heap.size L R A c ks vi v5 wr) (fun _ vi _ => ks.length - (intOf vi).toNat)
  case atStart => exact hJ0
  case round =>
    clear hJ0
    obtain ⟨k, rfl, hk, rfl, ob, oz, hrow, hM, hB, hb3⟩ := hrel
    by_cases hlt : k < ks.length
    · obtain ⟨g, rfl, hg0⟩ := hA (by omega)
      have hx := List.getElem?_eq_getElem hlt
      have hxk := hkok.out _ (List.getElem_mem hlt)
      have hcr := crs_next (fun q => (R q).length) (pl0, 1) ks k _ hx
      have H := Lo.cell (Lo.ofR hrow) (fun _ => rfl) rfl k _ hx
      obtain ⟨x, hxe⟩ : ∃ x, x = ks[k] := ⟨_, rfl⟩
      rw [← hxe] at H hxk hcr
      have y0 : wr.cell? ⟨g, k * 2, none⟩ = some (.int .i64 x.1) := by simpa using H 0 _ rfl
      have y1 : wr.cell? ⟨g, k * 2 + 1, none⟩ = some (.string x.2) := H 1 _ rfl
      obtain ⟨W3, hW3⟩ : ∃ W3, W3 = wr.alloc (.cells #[.int .i64 x.1, .string x.2] 156) := ⟨_, rfl⟩
      have BA : Below wr.heap.size wr W3 := by rw [hW3]; exact (Below.refl _ wr).alloc (Nat.le_refl _) _
      have op : W3.heap[wr.heap.size]? = some (boxP x) := by rw [hW3]; exact heap_alloc_new wr _
      have p0 := cell_of_row W3 _ 0 _ 156 (0, 0) op
      have p1 := cell_of_row W3 _ 1 _ 156 (0, 0) op
      have hMA := hM.kept (grown_of_below BA none)
      have hlook := Tab.look1 (w := W3) (t := 148) keyP valS Tryz.underlying148 hMA.tab (zero42 _) hxk
      have hlook2 := Tab.look1 (w := W3.drew) (t := 148) keyP valS Tryz.underlying148 (show TabN W3.drew b L.length L from hMA.tab.kept (drewG W3) (by simp)) (zero42 _) hxk
      have hrx := (hMA.row x).slice
      obtain ⟨Ax, cx, hlv, _, _⟩ := hrx
      rw [hlv] at hlook hlook2
      have hlt1 : w.heap.size + 1 < wr.heap.size := (Array.getElem?_eq_some_iff.1 ob).1
      replace hlv := Aside0.mk hlv
      unfold mkP at hlook hlook2
      have ob3 := (BA.block _ (Array.getElem?_eq_some_iff.1 ob).1).trans ob
      have oz3 := (BA.block _ (Array.getElem?_eq_some_iff.1 oz).1).trans oz
      have hBA := below_then hB hB.size BA
      have hrowA : dP.R 156 W3 w2.heap.size (fun _ => True) (.slice (some ⟨g, 0, none⟩) ks.length c) ks := Kd.R_grown hrow (grown_of_below BA none) (by simp)
      have hRx : (R x).length ≤ 65537 := hR x
      have hbl := crs_le (fun q => (R q).length) 65537 hR (ks.take k) (pl0, 1) (by simp)
      generalize hcur : crs (fun q => (R q).length) (pl0, 1) (ks.take k) = cur at *
      obtain ⟨cq, cn⟩ := cur
      simp only at hcr ob ob3 hbl
      clear H hx ob oz hM hrow hB
      replace hxe := Aside0.mk hxe
      replace hMA := Aside0.mk hMA
      replace hrowA := Aside0.mk hrowA
      replace hBA := Aside0.mk hBA
      by_cases hgt : cn < (R x).length
      · rw [if_pos hgt] at hcr
        have hgt' : (cn : Int) < ((R x).length : Int) := by omega
        obtain ⟨q0, q1⟩ : W3.cell? ⟨w.heap.size + 1, 0, none⟩ = some (.int .i64 cq.1) ∧ W3.cell? ⟨w.heap.size + 1, 1, none⟩ = some (.string cq.2) := ⟨cell_of_row W3 _ 0 _ 156 (0, 0) ob3, cell_of_row W3 _ 1 _ 156 (0, 0) ob3⟩
        obtain ⟨f0, f1⟩ : W3.frozen? ⟨w.heap.size + 1, 0, none⟩ = false ∧ W3.frozen? ⟨w.heap.size + 1, 1, none⟩ = false := by constructor <;> simp [World.frozen?, ob3, boxP]
        obtain ⟨W5, hW5⟩ : ∃ W5, W5 = (W3.setCell ⟨w.heap.size + 1, 0, none⟩ (.int .i64 x.1)).setCell ⟨w.heap.size + 1, 1, none⟩ (.string x.2) := ⟨_, rfl⟩
        have G5 : W3.grownBy W5 (some (w.heap.size + 1)) := by rw [hW5]; exact trans_grown (grown_set _ _ 0 _) (grown_set _ _ 1 _)
        have hwr : w.heap.size + 1 < wr.heap.size := hlt1
        have op5 := (G5.block _ (Array.getElem?_eq_some_iff.1 op).1 (by simp; omega)).trans op
        have r0 := cell_of_row W5 _ 0 _ 156 (0, 0) op5
        have r1 := cell_of_row W5 _ 1 _ 156 (0, 0) op5
        have ob5 : W5.heap[w.heap.size + 1]? = some (boxP x) := by rw [hW5]; exact blk_set (blk_set ob3 0 _) 1 _
        have oz5 := (G5.block w.heap.size (Array.getElem?_eq_some_iff.1 oz3).1 (by simp)).trans oz3
        have M5 := hMA.out.beside G5 ⟨_, _, ob3⟩ (by decide)
        have hlook3 := Tab.look1 (w := W5.drew) (t := 148) keyP valS Tryz.underlying148 (show TabN W5.drew b L.length L from M5.tab.kept (drewG W5) (by simp)) (zero42 _) hxk
        have hl1 : mvS ((got L x).getD none) = .slice Ax (R x).length cx := hlv.out
        rw [hl1] at hlook3
        unfold mkP at hlook3
        have B5 := hBA.out.grown G5 hBA.out.size (fun k hk => by injection hk with hk; omega)
        have hrow5 : dP.R 156 W5 w2.heap.size (fun _ => True) (.slice (some ⟨g, 0, none⟩) ks.length c) ks := Kd.R_mono (Kd.R_grown (Kd.R_bound hrowA.out) G5 (fun k hk e => by injection e with e; have := hk.2.1; omega)) (fun _ _ => trivial)
        rw [hW5] at r0 r1 hlook3
        have hfin : ∀ W6, W6 = W5.drew → CJ w base b w2.heap.size L R (some ⟨g, 0, none⟩) c ks (.int .i64 ((k : Int) + 1)) (.int .i64 ((R x).length : Int)) W6 := fun W6 e => by
          subst e
          refine ⟨k + 1, by simp, by omega, by rw [hcr], ?_, oz5, Kd.R_grown hrow5 (drewG W5) (by simp), M5.kept (drewG W5), B5.grown (drewG W5) B5.size (by simp), hb3⟩
          rw [hcr]
          exact ob5
        rw [hW5] at hfin
        replace hfin := Aside0.mk hfin
        clear G5 op5 ob5 oz5 M5 B5 hrow5 hW5
        go_upto_region 6 with (fail)
        rw [← hW3]
        clear hW3
        go_wp2_with fail
        go_region_held3 (fun V => V.cell? ⟨wr.heap.size, 0, none⟩ = some (.int .i64 x.1) ∧ V.cell? ⟨wr.heap.size, 1, none⟩ = some (.string x.2)) (first | exact ⟨p0, p1⟩ | exact ⟨r0, r1⟩) (fail)
        go_wp2
        all_goals
          refine ⟨hfin.out _ rfl, ?_⟩
          simp [intOf]
          omega
      · rw [if_neg hgt] at hcr
        have hgt' : ¬ (cn : Int) < ((R x).length : Int) := by omega
        have hfin : CJ w base b w2.heap.size L R (some ⟨g, 0, none⟩) c ks (.int .i64 ((k : Int) + 1)) (.int .i64 (cn : Int)) W3 :=
          ⟨k + 1, by simp, by omega, by rw [hcr], by rw [hcr]; exact ob3, oz3, hrowA.out, hMA.out, hBA.out, hb3⟩
        replace hfin := Aside0.mk hfin
        go_upto_region 6 with (fail)
        rw [← hW3]
        clear hW3
        go_wp2
        refine ⟨hfin.out, ?_⟩
        simp [intOf]
        omega
    · obtain rfl : k = ks.length := by omega
      rw [List.take_length] at ob ⊢
      generalize hcur : crs (fun q => (R q).length) (pl0, 1) ks = cur at *
      obtain ⟨cq, cn⟩ := cur
      simp only at ob
      obtain ⟨q0, q1⟩ : wr.cell? ⟨w.heap.size + 1, 0, none⟩ = some (.int .i64 cq.1) ∧ wr.cell? ⟨w.heap.size + 1, 1, none⟩ = some (.string cq.2) := ⟨cell_of_row wr _ 0 _ 156 (0, 0) ob, cell_of_row wr _ 1 _ 156 (0, 0) ob⟩
      obtain ⟨z0, z1⟩ : wr.cell? ⟨w.heap.size, 0, none⟩ = some (.int .i64 pl0.1) ∧ wr.cell? ⟨w.heap.size, 1, none⟩ = some (.string pl0.2) := ⟨cell_of_row wr _ 0 _ 156 (0, 0) oz, cell_of_row wr _ 1 _ 156 (0, 0) oz⟩
      obtain ⟨f0, f1⟩ : wr.frozen? ⟨w.heap.size, 0, none⟩ = false ∧ wr.frozen? ⟨w.heap.size, 1, none⟩ = false := by constructor <;> simp [World.frozen?, oz, boxP]
      obtain ⟨W7, hW7⟩ : ∃ W7, W7 = (wr.setCell ⟨w.heap.size, 0, none⟩ (.int .i64 cq.1)).setCell ⟨w.heap.size, 1, none⟩ (.string cq.2) := ⟨_, rfl⟩
      have o7 : W7.heap[w.heap.size]? = some (boxP cq) := by rw [hW7]; exact blk_set (blk_set oz 0 _) 1 _
      have e0 := cell_of_row W7 _ 0 _ 156 (0, 0) o7
      have e1 := cell_of_row W7 _ 1 _ 156 (0, 0) o7
      have B7 : Below w.heap.size w W7 := hB.grown (by rw [hW7]; exact trans_grown (grown_set _ _ 0 _) (grown_set _ _ 1 _)) hB.size (fun k hk => by injection hk with hk; omega)
      go_wp2_with fail
      rw [← hW7]
      refine bodyPost_ret (v := .tuple #[.agg #[.int .i64 cq.1, .string cq.2], .bool (decide ((1 : Int) < (cn : Int)))]) (by simp [results, Tryz.results115, go_sem, e0, e1]) rfl ⟨?_, B7⟩
      have hd : decide ((1 : Int) < (cn : Int)) = decide (1 < cn) := decide_eq_decide.2 (by omega)
      rw [hks.out, hcur, hd]
end Go.Proofs.YthaoedfalkebbaaGreat
namespace Go.Proofs.YthaoedfalkebbaaGreat
open Go.RowKit Go.Maps Go.Sort Go.Lib Go.Proofs.YthaoedfalkebbaaGreatW.PrintWords Go.Proofs.YthaoedfalkebbaaGreatW.PrintLast Go.Proofs.YthaoedfalkebbaaGreatW.PrintMore
set_option linter.unusedVariables false
set_option linter.unusedSimpArgs false
set_option linter.unusedSectionVars false
theorem crs_spec (n : Pl → Nat) : ∀ (ks : List Pl) (s : Pl × Nat), crs n s ks = s ∨ ∃ q ∈ ks, crs n s ks = (q, n q) ∧ s.2 < n q
  | [], s => .inl rfl
  | q :: ks, s => by
    have e : crs n s (q :: ks) = crs n (if s.2 < n q then (q, n q) else s) ks := rfl
    rw [e]
    by_cases h : s.2 < n q
    · rw [if_pos h]
      rcases crs_spec n ks (q, n q) with h1 | ⟨p, hp, h1, h2⟩
      · exact .inr ⟨q, List.mem_cons_self, h1, h⟩
      · exact .inr ⟨p, List.mem_cons_of_mem _ hp, h1, Nat.lt_trans h h2⟩
    · rw [if_neg h]
      rcases crs_spec n ks s with h1 | ⟨p, hp, h1, h2⟩
      · exact .inl h1
      · exact .inr ⟨p, List.mem_cons_of_mem _ hp, h1, h2⟩
/-- a note of a whole table -/
def whole (t : ByteArray) : Rd := ⟨t, 3, ⟨#[]⟩, ⟨#[]⟩⟩
/-- which place is made coarse next -/
def pick (ks : List Pl) (R : Pl → List Rd) : Pl × Nat := crs (fun q => (R q).length) (pl0, 1) (srtC cmpPl ks)
def put1 (R : Pl → List Rd) (q : Pl) (l : List Rd) : Pl → List Rd := fun p => if p = q then l else R p
def coarse (ks : List Pl) (most : Int) : Nat → (Pl → List Rd) → Int → Option ((Pl → List Rd) × Int)
  | 0, R, n => some (R, n)
  | k + 1, R, n => if n ≤ most then some (R, n) else if 1 < (pick ks R).2 then coarse ks most k (put1 R (pick ks R).1 [whole (pick ks R).1.2]) (n - (((pick ks R).2 : Int) - 1)) else none
theorem coarse_more (ks : List Pl) (most : Int) : ∀ (k : Nat) (R : Pl → List Rd) (n : Int), (n - most).toNat ≤ k → coarse ks most (k + 1) R n = coarse ks most k R n
  | 0, R, n, h => by
    have : n ≤ most := by omega
    simp [coarse, this]
  | k + 1, R, n, h => by
    have e1 : coarse ks most (k + 1 + 1) R n = if n ≤ most then some (R, n) else if 1 < (pick ks R).2 then coarse ks most (k + 1) (put1 R (pick ks R).1 [whole (pick ks R).1.2]) (n - (((pick ks R).2 : Int) - 1)) else none := rfl
    have e2 : coarse ks most (k + 1) R n = if n ≤ most then some (R, n) else if 1 < (pick ks R).2 then coarse ks most k (put1 R (pick ks R).1 [whole (pick ks R).1.2]) (n - (((pick ks R).2 : Int) - 1)) else none := rfl
    rw [e1, e2]
    by_cases h1 : n ≤ most
    · rw [if_pos h1, if_pos h1]
    · rw [if_neg h1, if_neg h1]
      by_cases h2 : 1 < (pick ks R).2
      · rw [if_pos h2, if_pos h2]
        exact coarse_more ks most k _ _ (by omega)
      · rw [if_neg h2, if_neg h2]
theorem coarse_enough (ks : List Pl) (most : Int) (R : Pl → List Rd) (n : Int) (k : Nat) (h : (n - most).toNat ≤ k) : coarse ks most k R n = coarse ks most (n - most).toNat R n := by
  induction k with
  | zero =>
    have : (n - most).toNat = 0 := by omega
    rw [this]
  | succ k ih =>
    by_cases e : (n - most).toNat = k + 1
    · rw [e]
    · rw [coarse_more ks most k R n (by omega)]
      exact ih (by omega)
/-- made coarse until there are no more than the most: none: there is nothing to make coarse -/
def coarseF (ks : List Pl) (most : Int) (R : Pl → List Rd) (n : Int) : Option ((Pl → List Rd) × Int) := coarse ks most (n - most).toNat R n
theorem coarseF_eq (ks : List Pl) (most : Int) (R : Pl → List Rd) (n : Int) :
    coarseF ks most R n = if n ≤ most then some (R, n) else if 1 < (pick ks R).2 then coarseF ks most (put1 R (pick ks R).1 [whole (pick ks R).1.2]) (n - (((pick ks R).2 : Int) - 1)) else none := by
  by_cases h1 : n ≤ most
  · have : (n - most).toNat = 0 := by omega
    rw [if_pos h1]
    unfold coarseF
    rw [this]
    rfl
  · obtain ⟨k, hk⟩ : ∃ k, (n - most).toNat = k + 1 := ⟨(n - most).toNat - 1, by omega⟩
    rw [if_neg h1]
    have e2 : coarse ks most (k + 1) R n = if n ≤ most then some (R, n) else if 1 < (pick ks R).2 then coarse ks most k (put1 R (pick ks R).1 [whole (pick ks R).1.2]) (n - (((pick ks R).2 : Int) - 1)) else none := rfl
    unfold coarseF
    rw [hk, e2, if_neg h1]
    by_cases h2 : 1 < (pick ks R).2
    · rw [if_pos h2, if_pos h2]
      exact coarse_enough _ _ _ _ k (by omega)
    · rw [if_neg h2, if_neg h2]
section
variable {α β : Type} [DecidableEq α]
theorem got_some_of_mem {L : List (α × β)} {a : α} (h : a ∈ L.map (·.1)) : ∃ v, got L a = some v := by
  cases hg : got L a with
  | some v => exact ⟨v, rfl⟩
  | none =>
    obtain ⟨p, hp, rfl⟩ := List.mem_map.1 h
    exact absurd hp (got_none hg p.2)
theorem mem_of_got {L : List (α × β)} {a : α} {v : β} (h : got L a = some v) : a ∈ L.map (·.1) := List.mem_map.2 ⟨_, got_mem h, rfl⟩
theorem upd_keys (L : List (α × β)) (a : α) (v : β) : (upd L a v).map (·.1) = if (got L a).isSome = true then L.map (·.1) else L.map (·.1) ++ [a] := by
  unfold upd
  by_cases h : (got L a).isSome = true
  · rw [if_pos h, if_pos h, List.map_map]
    refine List.map_congr_left fun p hp => ?_
    simp only [Function.comp_apply]
    split
    · rename_i h; exact h.symm
    · rfl
  · rw [if_neg h, if_neg h]
    simp
end
end Go.Proofs.YthaoedfalkebbaaGreat
namespace Go.Proofs.YthaoedfalkebbaaGreat
open Go.RowKit Go.Maps Go.Sort Go.Lib Go.Proofs.YthaoedfalkebbaaGreatW.PrintWords Go.Proofs.YthaoedfalkebbaaGreatW.PrintLast Go.Proofs.YthaoedfalkebbaaGreatW.PrintMore
set_option linter.unusedVariables false
set_option linter.unusedSimpArgs false
set_option linter.unusedSectionVars false
theorem Mp.put {w w' : World} {base b : Nat} {L : List (Pl × Sv)} {R : Pl → List Rd} (h : Mp w base b L R) (q : Pl) (s : Sv) (l : List Rd) (n : Nat) (hT : TabN w' b n (upd L q s)) (hg : w.mapTurned w' b) (hrow : RowR w base (mvS s) l) : Mp w' base b (upd L q s) (put1 R q l) := by
  have tidy := h.tab.tidy
  have notb : ∀ v xs, RowR w base v xs → RowR w' base v xs := fun v xs hr => hr.grown (turned_grown hg) (fun k hk e' => by
    injection hk with hk
    subst hk
    obtain ⟨_, _, cells, hc⟩ := hr.typed _ e'
    obtain ⟨es, clock, hb⟩ := h.tab.isMap
    rw [hb] at hc
    cases hc)
  refine ⟨hT.exact, fun e he => ?_, fun p hp => ?_⟩
  · rcases (upd_mem tidy _ _ e).1 he with rfl | ⟨h1, h2⟩
    · show RowR _ base _ (put1 R q l q)
      unfold put1
      rw [if_pos rfl]
      exact notb _ _ hrow
    · unfold put1
      rw [if_neg h2]
      exact notb _ _ (h.rows e h1)
  · rw [got_upd tidy] at hp
    split at hp
    · cases hp
    · rename_i hne
      unfold put1
      rw [if_neg hne]
      exact h.off p hp
theorem row_one {w : World} {base g : Nat} (x : Rd) (h : w.heap[g]? = some (boxR x)) (hb : base ≤ g) : RowR w base (mvS (some (g, 1, 1))) [x] :=
  ⟨cellsR x, ⟨rfl, .inr ⟨g, 1, _, rfl, hb, h, Nat.le_refl _, by decide, by simp, rfl⟩⟩, by simpa using (Reps.none (fun x cs => cs = cellsR x) 4).snoc (p := x) (c := cellsR x) rfl rfl⟩
/-- within the loop of Note -/
def NJ (w : World) (base m : Nat) (most : Int) (K : List Pl) (res : Option ((Pl → List Rd) × Int)) (v : Value) (wr : World) : Prop :=
  ∃ L R n, v = .int .i64 n ∧ Mp wr base m L R ∧ L.map (·.1) = K ∧ (∀ q, ∀ x ∈ R q, x.OK) ∧ coarseF K most R n = res ∧ -65536 ≤ n ∧ n ≤ 65537 ∧ (∀ q, (R q).length ≤ 65537) ∧ Below w.heap.size w wr
theorem pick_in {L : List (Pl × Sv)} {R : Pl → List Rd} (h : 1 < (pick (L.map (·.1)) R).2) : (pick (L.map (·.1)) R).1 ∈ L.map (·.1) ∧ (pick (L.map (·.1)) R).2 = (R (pick (L.map (·.1)) R).1).length := by
  rcases crs_spec (fun q => (R q).length) (srtC cmpPl (L.map (·.1))) (pl0, 1) with e | ⟨q, hq, e, _⟩
  · unfold pick at h
    rw [e] at h
    exact absurd h (by simp)
  · unfold pick
    rw [e]
    exact ⟨(srtC_perm _).mem_iff.1 hq, rfl⟩
def keysN (L : List (Pl × Sv)) (q : Pl) : List Pl := if (got L q).isSome = true then L.map (·.1) else L.map (·.1) ++ [q]
end Go.Proofs.YthaoedfalkebbaaGreat
namespace Go.Proofs.YthaoedfalkebbaaGreat
open Go.RowKit Go.Maps Go.Sort Go.Lib Go.Proofs.YthaoedfalkebbaaGreatW.PrintWords Go.Proofs.YthaoedfalkebbaaGreatW.PrintLast Go.Proofs.YthaoedfalkebbaaGreatW.PrintMore
set_option linter.unusedVariables false
set_option linter.unusedSimpArgs false
set_option linter.unusedSectionVars false
/-- what a note that no other one covers comes to -/
def noteF (L : List (Pl × Sv)) (R : Pl → List Rd) (most many t : Int) (x : Rd) : Option ((Pl → List Rd) × Int) :=
  coarseF (keysN L (t, x.t)) most (put1 R (t, x.t) (left (R (t, x.t)) x)) (many - (R (t, x.t)).length + (left (R (t, x.t)) x).length)
def NotePost (res : Option ((Pl → List Rd) × Int)) (K : List Pl) (base p : Nat) (most : Int) (w : World) (e : Ending) (w' : World) : Prop :=
  (res = none ∧ e = .returned (.int .i64 4) ∧ Below w.heap.size w w') ∨
  (∃ R' n' b' L', res = some (R', n') ∧ w.heap.size ≤ b' ∧ e = .returned (.int .i64 0) ∧ Mr w' base p b' most n' L' R' ∧ L'.map (·.1) = K ∧ w.grownBy w' (some p))
set_option maxHeartbeats 16000000 in
set_option maxRecDepth 100000 in
theorem Note_full (base p b : Nat) (most many : Int) (L : List (Pl × Sv)) (R : Pl → List Rd) (t : Int) (x : Rd) (w : World) (h : Mr w base p b most many L R) (hx : x.OK) (ht : 1 ≤ t) (hwf : (Lit.int .i64 t).wf = true) (hm : mayB x = true)
    (hl : ∀ q, (R q).length ≤ 65536) (hL : L.length ≤ 65536) (hn0 : (R (t, x.t)).length ≤ many) (hn1 : many ≤ 65536) (hm0 : 0 ≤ most) (hc : (R (t, x.t)).any (fun y => cov y x) = false) (hb0 : base ≤ w.heap.size) (hk : ∀ e ∈ L, e.1.2.size ≤ reachBytes) :
    Calls Tryz.prog 70 #[.pointer (some ⟨p, 0, none⟩), .int .i64 t, .agg #[.string x.t, .int .i64 x.k, .string x.f, .string x.u]] w fun e w' =>
NotePost (noteF L R most many t x) (keysN L (t, x.t)) base p most w e w' := by
  have hl0 := hl (t, x.t)
  obtain ⟨res, hres⟩ : ∃ res, res = noteF L R most many t x := ⟨_, rfl⟩
  rw [← hres]
  replace hl := Aside0.mk hl
  obtain ⟨w1, hw1⟩ : ∃ w1, w1 = w.alloc (.cells #[.string x.t, .int .i64 x.k, .string x.f, .string x.u] 108) := ⟨_, rfl⟩
  have B1 : Below w.heap.size w w1 := by rw [hw1]; exact boxed w x
  have N := none_calls p b w1 ((B1.cell (World.block_lt_of_cell? _ _ h.cell.2.1)).trans h.cell.2.1)
  have ob : w1.heap[w.heap.size]? = some (boxR x) := by rw [hw1]; exact heap_alloc_new w _
  obtain ⟨b0, b1, b2, b3⟩ := rd_cells ob
  have M := may_calls x w1
  have ht' : ¬ t < 1 := by omega
  rw [hm] at M
  go_enter Tryz.func70, Tryz.ntmps70
  go_wp2_with fail
  rw [← hw1]
  clear hw1
  refine N.mono ?_
  rintro e w' ⟨rfl, rfl⟩
  go_wp2_with fail
  refine M.mono ?_
  rintro e w2 ⟨rfl, B2⟩
  have B12 := below_then B1 B1.size B2
  obtain ⟨w3, hw3⟩ : ∃ w3, w3 = w2.alloc (.cells #[.int .i64 t, .string x.t] 156) := ⟨_, rfl⟩
  have B3 : Below w2.heap.size w2 w3 := by rw [hw3]; exact (Below.refl _ w2).alloc (Nat.le_refl _) _
  have B13 := below_then B12 B12.size B3
  have o3 : w3.heap[w2.heap.size]? = some (.cells #[.int .i64 t, .string x.t] 156 (0, 0)) := by rw [hw3]; exact heap_alloc_new w2 _
  have obx := (B2.block _ (Array.getElem?_eq_some_iff.1 ob).1).trans ob
  have obx3 := (B3.block _ (Array.getElem?_eq_some_iff.1 obx).1).trans obx
  obtain ⟨c0, c1, c2, c3⟩ := rd_cells obx
  have ok : okP (t, x.t) := ⟨hwf, Nat.le_trans hx.t (by decide)⟩
  have T3 : TabN w3 b L.length L := h.tab.kept (grown_of_below B13 none) (by simp)
  have p1 : w3.cell? ⟨p, 1, none⟩ = some (.map (some b)) := (B13.cell (World.block_lt_of_cell? _ _ h.cell.2.1)).trans h.cell.2.1
  have pl0 : w3.cell? ⟨w2.heap.size, 0, none⟩ = some (.int .i64 t) := cell_of_row w3 _ 0 _ 156 (0, 0) o3
  have pl1 : w3.cell? ⟨w2.heap.size, 1, none⟩ = some (.string x.t) := cell_of_row w3 _ 1 _ 156 (0, 0) o3
  have hlook := Tab.look1 (w := w3.drew) (t := 148) keyP valS Tryz.underlying148 (show TabN w3.drew b L.length L from T3.kept (drewG w3) (by simp)) (zero42 _) ok
  have hrow : RowR w3.drew base (mvS ((got L (t, x.t)).getD none)) (R (t, x.t)) := (h.row (t, x.t)).grown (grown_of_below (B13.grown (drewG w3) B13.size (by simp)) none) (by simp)
  generalize mvS ((got L (t, x.t)).getD none) = lv at hlook hrow
  unfold mkP at hlook
  have C := ContainsFunc_calls base lv (R (t, x.t)) (fun y => cov y x) 109 #[.pointer (some ⟨w.heap.size, 0, none⟩)] enters29 w3.drew hrow (by omega) ((pred29 x w.heap.size _ hx (h.goodAt _)).preds (show w3.drew.heap[w.heap.size]? = some (boxR x) from obx3))
  rw [hc] at C
  replace B13 := Aside0.mk B13
  replace T3 := Aside0.mk T3
  replace hrow := Aside0.mk hrow
  go_upto_region 6 with (fail)
  rw [← hw3]
  clear hw3
  go_region_held3 (fun W => W.cell? ⟨p, 1, none⟩ = some (.map (some b)) ∧ W.cell? ⟨w2.heap.size, 0, none⟩ = some (.int .i64 t) ∧ W.cell? ⟨w2.heap.size, 1, none⟩ = some (.string x.t)) (exact ⟨p1, pl0, pl1⟩) (fail)
  go_wp2_with fail
  refine C.mono ?_
  rintro e w4 ⟨rfl, B4⟩
  have R4 := hrow.out.grown (grown_of_below B4 none) (by simp)
  have CL := cloneR_calls w4 base lv _ R4 (by omega)
  go_wp2_with fail
  refine CL.mono ?_
  rintro e w5 ⟨v5, rfl, R5, B5⟩
  have obx5 := (below_then B4 B4.size B5).block w.heap.size (Array.getElem?_eq_some_iff.1 (show w3.drew.heap[w.heap.size]? = some (boxR x) from obx3)).1 |>.trans (show w3.drew.heap[w.heap.size]? = some (boxR x) from obx3)
  have hne5 : v5.ownBlock ≠ some w.heap.size := fun e => by
    have := (R5.typed _ e).1
    have := B4.size
    have := B13.out.size
    have e1 : w3.drew.heap.size = w3.heap.size := rfl
    have := B3.size
    have := B2.size
    have : w1.heap.size ≤ w2.heap.size := B2.size
    have : w.heap.size < w1.heap.size := (Array.getElem?_eq_some_iff.1 ob).1
    omega
  have D := DeleteFunc_calls w4.heap.size v5 _ (fun y => cov x y) 113 w.heap.size (boxR x) enters32 w5 R5 (by omega) obx5 hne5 (pred32 x w.heap.size _ hx (h.goodAt _))
  go_wp2_with fail
  refine D.mono ?_
  rintro e w6 ⟨v6, rfl, R6, G6, e6⟩
  have obx6 := (G6.block w.heap.size (Array.getElem?_eq_some_iff.1 obx5).1 (fun e => hne5 e.symm)).trans obx5
  obtain ⟨d0, d1, d2, d3⟩ := rd_cells obx6
  have hflen : ((R (t, x.t)).filter fun y => !cov x y).length ≤ 65536 := Nat.le_trans (List.length_filter_le _ _) hl0
  obtain ⟨v7, w7, hrun, R7, G7⟩ := Lo.append (P := Tryz.prog) R6 (fun _ => rfl) cellsR_one 118 118 _ 56 Tryz.underlying118 info23 rfl (by omega) (by omega) x (by omega) (Nat.le_trans B5.size G6.size)
  have hw03 : w.heap.size ≤ w4.heap.size := by
    have := B4.size
    have := B13.out.size
    have e1 : w3.drew.heap.size = w3.heap.size := rfl
    omega
  have B4' : Below w.heap.size w w4 := below_then (B13.out.grown (drewG w3) B13.out.size (by simp)) (B13.out.grown (drewG w3) B13.out.size (by simp)).size B4
  have B5' : Below w.heap.size w w5 := below_then B4' B4'.size B5
  have B6' : Below w.heap.size w w6 := B5'.grown G6 B5'.size (fun k hk => by have := (R5.typed k hk).1; omega)
  have B7' : Below w.heap.size w w7 := B6'.grown G7 B6'.size (fun k hk => by have := (R6.typed k hk).1; omega)
  obtain ⟨A7, c7, rfl, hc7, hA7⟩ := R7.slice
  obtain ⟨g7, rfl, hg7⟩ := hA7 (by simp)
  have hlf : ((R (t, x.t)).filter fun y => !cov x y) ++ [x] = left (R (t, x.t)) x := rfl
  have hlfn : (left (R (t, x.t)) x).length ≤ 65537 := by rw [← hlf]; simp; omega
  have hlf1 : 1 ≤ (left (R (t, x.t)) x).length := by rw [← hlf]; simp
  rw [hlf] at R7 hrun hc7
  have T7 : TabN w7 b L.length L := h.tab.kept (grown_of_below B7' none) (by simp)
  have m0 : w7.cell? ⟨p, 0, none⟩ = some (.int .i64 most) := (B7'.cell (World.block_lt_of_cell? _ _ h.cell.1)).trans h.cell.1
  have m1 : w7.cell? ⟨p, 1, none⟩ = some (.map (some b)) := (B7'.cell (World.block_lt_of_cell? _ _ h.cell.2.1)).trans h.cell.2.1
  have m2 : w7.cell? ⟨p, 2, none⟩ = some (.int .i64 many) := (B7'.cell (World.block_lt_of_cell? _ _ h.cell.2.2)).trans h.cell.2.2
  have hlt23 : w2.heap.size < w3.heap.size := (Array.getElem?_eq_some_iff.1 o3).1
  have hs34 : w3.heap.size ≤ w4.heap.size := B4.size
  have pw7 : w7.heap[w2.heap.size]? = w3.heap[w2.heap.size]? := by
    have e4 : w4.heap[w2.heap.size]? = w3.heap[w2.heap.size]? := B4.block _ hlt23
    have e5 : w5.heap[w2.heap.size]? = w4.heap[w2.heap.size]? := B5.block _ (by omega)
    have e6' : w6.heap[w2.heap.size]? = w5.heap[w2.heap.size]? := G6.block _ (Nat.lt_of_lt_of_le (by omega) B5.size) (fun e => by have := (R5.typed _ e.symm).1; omega)
    have e7 : w7.heap[w2.heap.size]? = w6.heap[w2.heap.size]? := G7.block _ (Nat.lt_of_lt_of_le (by omega) (Nat.le_trans B5.size G6.size)) (fun e => by have := (R6.typed _ e.symm).1; omega)
    rw [e7, e6', e5, e4]
  have q0 : w7.cell? ⟨w2.heap.size, 0, none⟩ = some (.int .i64 t) := cell_of_row w7 _ 0 _ 156 (0, 0) (pw7.trans o3)
  have q1 : w7.cell? ⟨w2.heap.size, 1, none⟩ = some (.string x.t) := cell_of_row w7 _ 1 _ 156 (0, 0) (pw7.trans o3)
  obtain ⟨A0, c0', rfl, hc0, _⟩ := hrow.out.slice
  have CM := cloneMap_calls w7 b L.length L T7
  go_wp2_with (at_builtin; refine app_list rfl rfl rfl rfl hrun ?_)
  refine CM.mono ?_
  rintro e w8 ⟨rfl, T8, _, B8⟩
  obtain ⟨w9, hst, T9, G9⟩ := Tab.store (t := 148) keyP valS Tryz.underlying148 T8 (by simp only [maxLen]; omega) ok (some (g7, (left (R (t, x.t)) x).length, c7))
  unfold mkP mvS at hst
  dsimp only at hst
  have r0 := (B8.cell (World.block_lt_of_cell? _ _ q0)).trans q0
  have r1 := (B8.cell (World.block_lt_of_cell? _ _ q1)).trans q1
  have B8' : Below w.heap.size w w8 := below_then B7' B7'.size B8
  have B9' : Below w.heap.size w w9 := B8'.grown (turned_grown G9) B8'.size (fun k hk => by injection hk with hk; rw [← hk]; exact B7'.size)
  have n0 : w9.cell? ⟨p, 0, none⟩ = some (.int .i64 most) := (B9'.cell (World.block_lt_of_cell? _ _ h.cell.1)).trans h.cell.1
  have op9 : w9.heap[p]? = some (.cells #[.int .i64 most, .map (some b), .int .i64 many] 150 (0, 0)) := (B9'.block p (Array.getElem?_eq_some_iff.1 h.cells).1).trans h.cells
  have n1 := cell_of_row w9 p 1 _ 150 (0, 0) op9
  have n2 := cell_of_row w9 p 2 _ 150 (0, 0) op9
  have fz := blk_frozen op9
  have hmm : coarseF (keysN L (t, x.t)) most (put1 R (t, x.t) (left (R (t, x.t)) x)) (many - (R (t, x.t)).length + (left (R (t, x.t)) x).length) = res := hres.symm
  have M8 : Mp w8 base w7.heap.size L R := ⟨T8, fun e he => (h.rows e he).grown (grown_of_below B8' none) (by simp), h.off⟩
  have RN := (R7.grown (grown_of_below B8 none) (by simp)).lower (Nat.le_trans hb0 hw03)
  have M9 := M8.put (t, x.t) (some (g7, (left (R (t, x.t)) x).length, c7)) (left (R (t, x.t)) x) _ T9 G9 RN
  have gd : ∀ q, ∀ y ∈ put1 R (t, x.t) (left (R (t, x.t)) x) q, y.OK := by
    intro q y hy
    unfold put1 at hy
    split at hy
    · unfold left at hy
      rcases List.mem_append.1 hy with hy | hy
      · exact h.goodAt _ y (List.mem_filter.1 hy).1
      · rw [List.mem_singleton.1 hy]; exact hx
    · exact h.goodAt _ y hy
  have ln : ∀ q, (put1 R (t, x.t) (left (R (t, x.t)) x) q).length ≤ 65537 := by
    intro q
    unfold put1
    split
    · exact hlfn
    · exact Nat.le_trans (hl.out q) (by omega)
  have hmb : -65536 ≤ many - (R (t, x.t)).length + (left (R (t, x.t)) x).length ∧ many - (R (t, x.t)).length + (left (R (t, x.t)) x).length ≤ 65537 := by
    have hll : (left (R (t, x.t)) x).length ≤ (R (t, x.t)).length + 1 := by unfold left; rw [List.length_append]; have := List.length_filter_le (fun y => !cov x y) (R (t, x.t)); simp; omega
    omega
  generalize hmv : many - (R (t, x.t)).length + (left (R (t, x.t)) x).length = mm at hmm hmb ⊢
  have hJ0 : NJ w base w7.heap.size most (keysN L (t, x.t)) res (.int .i64 mm) w9 := ⟨_, _, mm, rfl, M9, upd_keys _ _ _, gd, hmm, hmb.1, hmb.2, ln, B9'⟩
  have hb7 : w.heap.size ≤ w7.heap.size := B7'.size
  have hpw : p < w.heap.size := (Array.getElem?_eq_some_iff.1 h.cells).1
  have hlow := h.low
  have hcp := h.cell
  have hcells := h.cells
  clear M9 M8 RN gd ln hmm hres T9 T8 B8 B9' G9 R7 B7' G7 R6 B6' D C CL R5 B5' B4' R4 hrow T3 B13 T7 G6 B5 B4 B8' hlook N M B1 ob obx obx3 o3 pw7 n0 n1 n2 op9 fz
  replace hcp := Aside0.mk hcp
  have hK : ∀ q ∈ keysN L (t, x.t), q.2.size ≤ reachBytes := by
    intro q hq
    unfold keysN at hq
    split at hq
    · obtain ⟨e, he, rfl⟩ := List.mem_map.1 hq
      exact hk e he
    · rcases List.mem_append.1 hq with hq | hq
      · obtain ⟨e, he, rfl⟩ := List.mem_map.1 hq
        exact hk e he
      · rw [List.mem_singleton.1 hq]
        exact hx.t
  clear hk
  have hKl : (keysN L (t, x.t)).length ≤ 65537 := by unfold keysN; split <;> simp <;> omega
  clear hlf hlfn hlf1 hflen hc hn0 hl0 hmv h hb0 m0 m1 m2 hc7 hg7 hc0 hw03 ok hlt23 hs34 ht' hL hn1 hx hwf hm
  generalize hKe : keysN L (t, x.t) = K at hJ0 hKl hK ⊢
  replace hKe := Aside0.mk hKe
  replace hK := Aside0.mk hK
  obtain ⟨m, hmdef⟩ : ∃ m, m = w7.heap.size := ⟨_, rfl⟩
  rw [← hmdef] at hb7 hJ0
  have mOK : ∀ e : World → World → Prop, True := fun _ => trivial
  go_wp2_with fail
  rw [← hmdef]
  clear hmdef
  go_loopw [10] (fun v wr => NJ w base m most K res v wr) (fun v _ => (intOf v + 65536).toNat)
  case atStart => exact hJ0
  case round =>
    clear hJ0 hmb
    obtain ⟨Lk, Rk, nk, rfl, Mk, hkeys, gk, hck, lo, hi, lnk, Bk⟩ := hrel
    rw [coarseF_eq] at hck
    have op := (Bk.block p hpw).trans hcells
    have n0 := cell_of_row wr p 0 _ 150 (0, 0) op
    by_cases hle : nk ≤ most
    · rw [if_pos hle] at hck
      have n1 := cell_of_row wr p 1 _ 150 (0, 0) op
      have n2 := cell_of_row wr p 2 _ 150 (0, 0) op
      have fz := blk_frozen op
      have hle' : ¬ most < nk := by omega
      replace Mk := Aside0.mk Mk
      replace gk := Aside0.mk gk
      replace lnk := Aside0.mk lnk
      replace hck := Aside0.mk hck
      go_wp2
      go_ret
      have GS : wr.grownBy ((wr.setCell ⟨p, 1, none⟩ (.map (some m))).setCell ⟨p, 2, none⟩ (.int .i64 nk)) (some p) := trans_grown (grown_set _ p _ _) (grown_set _ p _ _)
      refine .inr ⟨Rk, nk, m, Lk, hck.out.symm, by omega, rfl, ⟨?_, ?_, hlow, ?_, Mk.out.off, fun e he => gk.out _⟩, hkeys.trans hKe.out.symm, trans_grown (grown_of_below Bk _) GS⟩
      · rw [blk_set (blk_set op 1 _) 2 _]; rfl
      · exact Mk.out.tab.kept GS (fun e => by injection e with e; omega)
      · intro e he
        refine (Mk.out.rows e he).grown GS (fun k hk e' => ?_)
        injection hk with hk
        subst hk
        obtain ⟨_, _, cells, hc⟩ := (Mk.out.rows e he).typed _ e'
        rw [op] at hc
        injection hc with hc
        injection hc with _ hc
        cases hc
    · rw [if_neg hle] at hck
      have hgt : most < nk := by omega
      have hLk : Lk.length ≤ 65537 := by
        have : (Lk.map (·.1)).length = K.length := by rw [hkeys]
        rw [List.length_map] at this
        omega
      have C : Calls Tryz.prog 115 #[.map (some m)] wr fun e w' => e = .returned (.tuple #[.agg #[.int .i64 (pick K Rk).1.1, .string (pick K Rk).1.2], .bool (decide (1 < (pick K Rk).2))]) ∧ Below wr.heap.size wr w' := by
        have := coarsest_calls base m Lk Rk wr Mk hLk lnk
        rw [hkeys] at this
        exact this
      have hpi := pick_in (L := Lk) (R := Rk)
      rw [hkeys] at hpi
      generalize pick K Rk = pk at C hck hpi
      obtain ⟨pq, pn⟩ := pk
      simp only at C hck hpi
      by_cases hpn : 1 < pn
      · obtain ⟨hpK, hpl⟩ := hpi hpn
        rw [if_pos hpn] at hck
        rw [decide_eq_true hpn] at C
        replace gk := Aside0.mk gk
        replace hck := Aside0.mk hck
        go_wp2_with fail
        refine C.mono ?_
        rintro e wa ⟨rfl, Ba⟩
        obtain ⟨Wc, hWc⟩ : ∃ Wc, Wc = wa.alloc (.cells #[.int .i64 pq.1, .string pq.2] 156) := ⟨_, rfl⟩
        have BC : Below wa.heap.size wa Wc := by rw [hWc]; exact (Below.refl _ wa).alloc (Nat.le_refl _) _
        have opc : Wc.heap[wa.heap.size]? = some (boxP pq) := by rw [hWc]; exact heap_alloc_new wa _
        have s0 := cell_of_row Wc _ 0 _ 156 (0, 0) opc
        have s1 := cell_of_row Wc _ 1 _ 156 (0, 0) opc
        have BaC := below_then Ba Ba.size BC
        have Mc := Mk.kept (grown_of_below BaC none)
        have okq : okP pq := by
          rw [← hkeys] at hpK
          obtain ⟨e, he, rfl⟩ := List.mem_map.1 hpK
          exact Mk.tab.good e he
        have hlook := Tab.look1 (w := Wc) (t := 148) keyP valS Tryz.underlying148 Mc.tab (zero42 _) okq
        obtain ⟨Aq, cq, hlv, _, _⟩ := (Mc.row pq).slice
        rw [hlv] at hlook
        unfold mkP at hlook
        obtain ⟨Wd, hWd⟩ : ∃ Wd, Wd = Wc.alloc (.cells #[.string pq.2, .int .i64 3, .string ⟨#[]⟩, .string ⟨#[]⟩] 108) := ⟨_, rfl⟩
        have Bd : Below Wc.heap.size Wc Wd := by rw [hWd]; exact (Below.refl _ Wc).alloc (Nat.le_refl _) _
        have od : Wd.heap[Wc.heap.size]? = some (boxR (whole pq.2)) := by rw [hWd]; exact heap_alloc_new Wc _
        have Md := Mc.kept (grown_of_below Bd none)
        obtain ⟨we, hst, Te, Ge⟩ := Tab.store (t := 148) keyP valS Tryz.underlying148 Md.tab (by simp only [maxLen]; omega) okq (some (Wc.heap.size, 1, 1))
        have Bk1 := below_then Bk Bk.size BaC
        have Bk2 := below_then Bk1 Bk1.size Bd
        have Me := Md.put pq (some (Wc.heap.size, 1, 1)) [whole pq.2] _ Te Ge (row_one _ od (Nat.le_trans (by omega) Bk1.size))
        unfold mkP mvS at hst
        dsimp only at hst
        rw [hWd] at hst
        have hfin : NJ w base m most K res (.int .i64 (nk - ((pn : Int) - 1))) we := by
          refine ⟨_, _, _, rfl, Me, ?_, ?_, hck.out, by have := lnk pq; omega, by omega, ?_, Bk2.grown (turned_grown Ge) Bk2.size (fun k hk => by injection hk with hk; omega)⟩
          · rw [upd_keys, if_pos, hkeys]
            rw [← hkeys] at hpK
            obtain ⟨v, hv⟩ := got_some_of_mem hpK
            rw [hv]; rfl
          · intro q y hy
            unfold put1 at hy
            split at hy
            · rw [List.mem_singleton.1 hy]
              exact ⟨hK.out _ hpK, by show (Lit.int .i64 3).wf = true; decide, by show (0 : Nat) ≤ reachBytes; decide, by show (0 : Nat) ≤ reachBytes; decide⟩
            · exact gk.out _ y hy
          · intro q
            unfold put1
            split
            · simp
            · exact lnk q
        have hq := lnk pq
        rw [hpl] at hfin hpn
        replace hfin := Aside0.mk hfin
        replace Bk1 := Aside0.mk Bk1
        clear Me Te Md Mc Mk lnk hlv od hkeys Bk2 Bd BaC Ba opc hck gk Bk op n0
        go_upto_region 18 with (fail)
        rw [← hWc]
        clear hWc
        go_upto_region 19 with (fail)
        go_wp2
        refine ⟨hfin.out, ?_⟩
        simp [intOf]
        omega
      · rw [if_neg hpn] at hck
        rw [decide_eq_false hpn] at C
        replace Mk := Aside0.mk Mk
        replace gk := Aside0.mk gk
        replace lnk := Aside0.mk lnk
        replace hck := Aside0.mk hck
        go_wp2_with fail
        refine C.mono ?_
        rintro e wa ⟨rfl, Ba⟩
        go_wp2
        go_ret
        exact .inl ⟨hck.out.symm, rfl, below_then Bk Bk.size (below_then Ba Ba.size ((Below.refl _ wa).alloc (Nat.le_refl _) _))⟩
end Go.Proofs.YthaoedfalkebbaaGreat
namespace Go.Proofs.YthaoedfalkebbaaGreat
open Go.RowKit Go.Maps Go.Sort Go.Lib Go.Proofs.YthaoedfalkebbaaGreatW.PrintWords Go.Proofs.YthaoedfalkebbaaGreatW.PrintLast Go.Proofs.YthaoedfalkebbaaGreatW.PrintMore
set_option linter.unusedVariables false
set_option linter.unusedSimpArgs false
set_option linter.unusedSectionVars false
section
variable {α : Type} {enc : α → List Value} {k : Nat} {hn : ∀ x, (enc x).length = k} {h1c : ∀ x, ∀ u ∈ enc x, u.oneCell' = true}
/-- an append of a slice to a flat row -/
theorem flat_appS {P : Program} {w : World} {base e : Nat} {ok : Nat → Prop} {v : Value} {xs ys : List α} (h : (Kd.flat enc k hn h1c).R e w base ok v xs) (t ty : TypeId) (z : Value) (bytes : Nat) (ht : P.underlying t = some (.slice e)) (hinfo : (P.info? e).map (fun i => (i.zero, i.size, i.bytes)) = some (some z, k, bytes)) (hzs : z.cells.size = k) (hk : 0 < k) (hb0 : 0 < bytes)
    (A : Option Addr) (c : Nat) (hs : Src enc k w A ys) (hbytes : (xs.length + ys.length) * bytes ≤ 140737488355328) (hbase : base ≤ w.heap.size) (hfresh : ∀ k, w.heap.size ≤ k → ok k) :
    ∃ v' w', (Builtin.append_ #[t, t] ty #[v, .slice A ys.length c]).run P w = .ok v' w' ∧ (Kd.flat enc k hn h1c).R e w' base ok v' (xs ++ ys) ∧ w.grownBy w' v.ownBlock := by
  obtain ⟨i0, hi0, hzz⟩ := Option.map_eq_some_iff.1 hinfo
  simp only [Prod.mk.injEq] at hzz
  obtain ⟨hz0, hz1, hz2⟩ := hzz
  have hlen : xs.length + ys.length ≤ 140737488355328 := Nat.le_trans (Nat.le_mul_of_pos_right _ hb0) hbytes
  obtain ⟨news, hl, hr, hc⟩ := hs
  rcases Nat.eq_zero_or_pos ys.length with h0 | h0
  · have hy : ys = [] := List.eq_nil_of_length_eq_zero h0
    obtain ⟨B, cB, hv, hle, _⟩ := (Lo.ofR h).slice
    refine ⟨v, w, ?_, by rw [hy, List.append_nil]; exact h, ⟨rfl, rfl, rfl, Nat.le_refl _, fun _ _ _ => rfl⟩⟩
    rw [h0, hv]
    exact run_append_zero t ty e i0 ht hi0 B xs.length cB A c hle
  · obtain ⟨a, rfl, hcells⟩ := hc h0
    obtain ⟨h0', inner, h1, h2⟩ := h
    obtain ⟨v', w', hrun, ho, hg, _, hown⟩ := run_append_own_at (P := P) (w := w) base t ty e i0 z k bytes ht hi0 hz0 hz1 hz2 hzs hk v xs.length inner h1 a ys.length c news hl hcells (fun u hu => by
      obtain ⟨j, hj⟩ := List.mem_iff_getElem?.1 hu
      have hjl : j < ys.length * k := by rw [← hl]; exact (List.getElem?_eq_some_iff.1 hj).1
      have hd : j / k < ys.length := by rw [Nat.div_lt_iff_lt_mul hk]; exact hjl
      have hm := Nat.mod_lt j hk
      have e0 : j / k * k + j % k = j := Nat.div_add_mod' j k
      have h3 : (news.drop (j / k * k)).take k = enc ys[j / k] := hr.2 (j / k) _ (List.getElem?_eq_getElem hd)
      have h4 : ((news.drop (j / k * k)).take k)[j % k]? = news[j]? := by rw [List.getElem?_take, if_pos hm, List.getElem?_drop, e0]
      rw [h3, hj] at h4
      exact h1c _ u (List.mem_of_getElem? h4)) (by simp only [maxLen]; omega) hbytes hbase
    refine ⟨v', w', hrun, ⟨fun k hk => ?_, _, by rw [List.length_append]; exact ho, Kd.reps_append h2 hr⟩, hg⟩
    rcases hown with e1 | e1
    · exact h0' k (e1 ▸ hk)
    · rw [e1] at hk; injection hk with hk; exact hfresh k (by omega)
end
/-- a transaction's notes, place by place -/
def notesT (L : List (Pl × Sv)) (R : Pl → List Rd) (t : Int) : List Rd := (L.filter (fun e => e.1.1 == t)).flatMap (fun e => R e.1)
def sumR (L : List (Pl × Sv)) (R : Pl → List Rd) : Nat := (L.map (fun e => (R e.1).length)).sum
theorem notesT_len (R : Pl → List Rd) (t : Int) : ∀ L : List (Pl × Sv), (notesT L R t).length ≤ sumR L R
  | [] => by simp [notesT, sumR]
  | e :: L => by
    have ih := notesT_len R t L
    unfold notesT sumR at *
    rw [List.filter_cons]
    split
    · simp only [List.flatMap_cons, List.length_append, List.map_cons, List.sum_cons]; omega
    · simp only [List.map_cons, List.sum_cons]; omega
theorem sumR_perm {L L' : List (Pl × Sv)} (R : Pl → List Rd) (h : L.Perm L') : sumR L R = sumR L' R := (h.map _).sum_nat
theorem sumR_append (L L' : List (Pl × Sv)) (R : Pl → List Rd) : sumR (L ++ L') R = sumR L R + sumR L' R := by simp [sumR]
theorem notesT_perm {L L' : List (Pl × Sv)} (R : Pl → List Rd) (t : Int) (h : L.Perm L') : (notesT L R t).Perm (notesT L' R t) := (h.filter _).flatMap_right _
def OJ (w : World) (b r : Nat) (L : List (Pl × Sv)) (R : Pl → List Rd) (t : Int) (v : Value) (wr : World) : Prop :=
  ∃ vis rem : List (Pl × Sv), (vis ++ rem).Perm L ∧ RngN wr b r L.length L rem ∧ w.heap.size ≤ r ∧ dR.R 108 wr w.heap.size (fun k => r < k) v (notesT vis R t) ∧ Below w.heap.size w wr
theorem notesT_snoc (vis : List (Pl × Sv)) (a : Pl) (sv : Sv) (R : Pl → List Rd) (t : Int) : notesT (vis ++ [(a, sv)]) R t = notesT vis R t ++ (if a.1 == t then R a else []) := by
  unfold notesT
  rw [List.filter_append, List.flatMap_append]
  congr 1
  by_cases h : (a.1 == t) = true
  · simp [List.filter_cons, h]
  · simp [List.filter_cons, h]
set_option maxHeartbeats 8000000 in
set_option maxRecDepth 100000 in
theorem Of_calls (base p b : Nat) (most many : Int) (L : List (Pl × Sv)) (R : Pl → List Rd) (t : Int) (w : World) (h : Mr w base p b most many L R) (hL : L.length ≤ 65536) (hR : sumR L R ≤ 65536) :
    Calls Tryz.prog 52 #[.pointer (some ⟨p, 0, none⟩), .int .i64 t] w fun e w' => ∃ v, e = .returned v ∧ dR.R 108 w' w.heap.size (fun _ => True) v (srtC cmpRd (notesT L R t)) ∧ Below w.heap.size w w' := by
  obtain ⟨c0, c1, c2⟩ := h.cell
  have N := none_calls p b w c1
  have hblt : b < w.heap.size := h.tab.lt
  obtain ⟨w2, hrun, hRg, hg2, hs2⟩ := Tab.range (t := 148) keyP Tryz.underlying148 (h.tab : TabN w b L.length L)
  have hp2 : w.heap.size < w2.heap.size := by omega
  go_enter Tryz.func52, Tryz.ntmps52
  go_wp2_with fail
  refine N.mono ?_
  rintro e w' ⟨rfl, rfl⟩
  go_wp2_with fail
  go_loopw [5] (fun v wr => OJ w b w.heap.size L R t v wr) (fun _ wr => wr.rangeLeft b w.heap.size)
  case atStart =>
    exact ⟨[], L, List.Perm.refl _, hRg, Nat.le_refl _, Kd.R_nil _ _ _ _ _, (Below.refl _ w).grown hg2 (Nat.le_refl _) (by simp)⟩
  case round =>
    obtain ⟨vis, rem, hp, hr, hle, hv, hB⟩ := hrel
    have hsum := sumR_perm R hp
    rw [sumR_append] at hsum
    rcases hr.next keyP valS 0 with ⟨hnil, hrun1⟩ | ⟨a, sv, w3, hmem, hok, hrun1, hr3, hlt, hg3, hs3, hent⟩
    · subst hnil
      rw [List.append_nil] at hp
      have hlen := notesT_len R t vis
      have hbase0 := Kd.R_base hv
      have S := sortR_calls wr w.heap.size _ u5 _ hv (by omega)
      rw [srtC_congr ord_Rd (fun _ _ => cmpRd_eq) (notesT_perm R t hp)] at S
      go_wp2_with fail
      refine S.mono ?_
      rintro e w4 ⟨rfl, H4, G4⟩
      go_wp2
      go_ret
      exact ⟨_, rfl, Kd.R_mono H4 (fun _ _ => trivial), hB.grown G4 hB.size (fun k hk => hbase0 k hk)⟩
    · unfold mkP at hrun1 hent
      have hB3 : Below w.heap.size w w3 := hB.grown hg3 hB.size (fun k e => by injection e with e; omega)
      have hv3 : dR.R 108 w3 w.heap.size (fun k => w.heap.size < k) u5 (notesT vis R t) := Kd.R_grown hv hg3 (fun k hk e => by injection e with e; omega)
      obtain ⟨W, hW⟩ : ∃ W, W = w3.alloc (.cells #[.int .i64 a.1, .string a.2] 156) := ⟨_, rfl⟩
      have BA : Below w3.heap.size w3 W := by rw [hW]; exact (Below.refl _ w3).alloc (Nat.le_refl _) _
      have hrl : w.heap.size < wr.heap.size := hr.lt
      have hop : W.heap[wr.heap.size]? = some (.cells #[.int .i64 a.1, .string a.2] 156 (0, 0)) := by rw [hW, ← hs3]; exact heap_alloc_new w3 _
      have p0 := cell_of_row W _ 0 _ 156 (0, 0) hop
      have BW := below_then hB3 hB3.size BA
      have hmL : (a, sv) ∈ L := hp.mem_iff.1 (List.mem_append_right _ hmem)
      have hrow : RowR W base (mvS sv) (R a) := (h.rows _ hmL).grown (grown_of_below BW none) (by simp)
      obtain ⟨A, c, hmv, hlc, _⟩ := hrow.slice
      have hsrc := Lo.src hrow hmv
      rw [hmv] at hrun1 hent
      have hvW : dR.R 108 W w.heap.size (fun k => w.heap.size < k) u5 (notesT vis R t) := Kd.R_below hv3 BA
      have hrem : sumR [(a, sv)] R ≤ sumR rem R := by
        obtain ⟨l1, l2, e⟩ := List.append_of_mem hmem
        rw [e, sumR_append]
        simp [sumR]
        omega
      have hRa : (R a).length = sumR [(a, sv)] R := by simp [sumR]
      have hlen := notesT_len R t vis
      obtain ⟨v4, w4, hrun4, H4, G4⟩ := flat_appS hvW 118 118 _ 56 Tryz.underlying118 info23 rfl (by decide) (by decide) A c hsrc (by omega) BW.size (fun k hk => by have := BW.size; have := BA.size; omega)
      obtain ⟨hrW, elW⟩ := hr3.kept (grown_of_below BA none) (by simp) (by simp)
      have hbase0 := Kd.R_base hvW
      cases hyes : (a.1 == t) with
      | true =>
        have fin : OJ w b w.heap.size L R t v4 w4 ∧ w4.rangeLeft b w.heap.size < wr.rangeLeft b w.heap.size := by
          obtain ⟨hr7, el2⟩ := hrW.kept G4 (fun e => by have := hbase0 _ e.symm; omega) (fun e => by have := hvW.1 _ e.symm; omega)
          refine ⟨⟨vis ++ [(a, sv)], _, perm_next hr.apart hp hmem, hr7, Nat.le_refl _, ?_, BW.grown G4 BW.size (fun k hk => hbase0 k hk)⟩, by rw [el2, elW]; exact hlt⟩
          rw [notesT_snoc, hyes, if_pos rfl]
          exact H4
        replace fin := Aside0.mk fin
        replace h := Aside0.mk h
        go_upto_region 7 with (fail)
        rw [← hW]
        clear hW
        go_wp2_with (at_builtin; refine app_list rfl rfl rfl rfl hrun4 ?_)
        exact fin.out
      | false =>
        have fin : OJ w b w.heap.size L R t u5 W ∧ W.rangeLeft b w.heap.size < wr.rangeLeft b w.heap.size := by
          refine ⟨⟨vis ++ [(a, sv)], _, perm_next hr.apart hp hmem, hrW, Nat.le_refl _, ?_, BW⟩, by rw [elW]; exact hlt⟩
          rw [notesT_snoc, hyes, if_neg (by decide), List.append_nil]
          exact hvW
        replace fin := Aside0.mk fin
        replace h := Aside0.mk h
        go_upto_region 7 with (fail)
        rw [← hW]
        clear hW
        go_wp2
        exact fin.out
end Go.Proofs.YthaoedfalkebbaaGreat
namespace Go.Proofs.YthaoedfalkebbaaGreat
open Go.RowKit Go.Maps Go.Sort Go.Lib Go.Proofs.YthaoedfalkebbaaGreatW.PrintWords Go.Proofs.YthaoedfalkebbaaGreatW.PrintLast Go.Proofs.YthaoedfalkebbaaGreatW.PrintMore
set_option linter.unusedVariables false
set_option linter.unusedSimpArgs false
set_option linter.unusedSectionVars false
theorem blk_fz {w : World} {g : Nat} {c : Array Value} {e : TypeId} (h : w.heap[g]? = some (.cells c e (0, 0))) (j : Nat) : w.frozen? ⟨g, j, none⟩ = false := by simp [World.frozen?, h]
end Go.Proofs.YthaoedfalkebbaaGreat
namespace Go.Proofs.YthaoedfalkebbaaGreat
open Go.RowKit Go.Maps Go.Sort Go.Lib Go.Proofs.YthaoedfalkebbaaGreatW.PrintWords Go.Proofs.YthaoedfalkebbaaGreatW.PrintLast Go.Proofs.YthaoedfalkebbaaGreatW.PrintMore
set_option linter.unusedVariables false
set_option linter.unusedSimpArgs false
set_option linter.unusedSectionVars false
/-- the notes of a manager: its places, the notes of each, how many -/
structure St where
  K : List Pl
  R : Pl → List Rd
  n : Int
def LeanR (a b : Rd) : Prop := cov a b = false ∧ cov b a = false
/-- what the notes of a manager are -/
structure InvK (S : St) : Prop where
  nodup : S.K.Nodup
  off : ∀ q, q ∉ S.K → S.R q = []
  pos : ∀ q ∈ S.K, S.R q ≠ []
  sum : S.n = ((S.K.map fun q => (S.R q).length).sum : Nat)
  tab : ∀ q, ∀ y ∈ S.R q, y.t = q.2 ∧ mayB y = true ∧ y.OK
  lean : ∀ q, (S.R q).Pairwise LeanR
  size : ∀ q ∈ S.K, q.2.size ≤ reachBytes
  one : ∀ q ∈ S.K, 1 ≤ q.1
def inK (K : List Pl) (q : Pl) : Bool := K.any (fun p => decide (p = q))
theorem inK_iff {K : List Pl} {q : Pl} : inK K q = true ↔ q ∈ K := by
  unfold inK
  rw [List.any_eq_true]
  constructor
  · rintro ⟨p, hp, e⟩
    rw [← of_decide_eq_true e]; exact hp
  · exact fun h => ⟨q, h, decide_eq_true rfl⟩
def keysK (K : List Pl) (q : Pl) : List Pl := if inK K q = true then K else K ++ [q]
theorem keysN_K (L : List (Pl × Sv)) (q : Pl) : keysN L q = keysK (L.map (·.1)) q := by
  unfold keysN keysK
  by_cases h : q ∈ L.map (·.1)
  · obtain ⟨v, hv⟩ := got_some_of_mem h
    rw [if_pos (inK_iff.2 h), hv]; rfl
  · rw [if_neg (fun e => h (inK_iff.1 e))]
    cases hv : got L q with
    | none => rfl
    | some v => exact absurd (mem_of_got hv) h
theorem mem_keysK {K : List Pl} {q p : Pl} : p ∈ keysK K q ↔ p = q ∨ p ∈ K := by
  unfold keysK
  split
  · rename_i h
    rw [inK_iff] at h
    constructor
    · exact .inr
    · rintro (rfl | h2)
      · exact h
      · exact h2
  · simp [or_comm]
theorem put1_same (R : Pl → List Rd) (q : Pl) (l : List Rd) : put1 R q l q = l := by unfold put1; rw [if_pos rfl]
theorem put1_other (R : Pl → List Rd) {q p : Pl} (l : List Rd) (h : p ≠ q) : put1 R q l p = R p := by unfold put1; rw [if_neg h]
theorem sum_put_out (R : Pl → List Rd) (q : Pl) (l : List Rd) : ∀ K : List Pl, q ∉ K → (K.map fun p => (put1 R q l p).length).sum = (K.map fun p => (R p).length).sum
  | [], _ => rfl
  | p :: K, h => by
    simp only [List.mem_cons, not_or] at h
    simp only [List.map_cons, List.sum_cons]
    rw [put1_other R l (fun e => h.1 e.symm), sum_put_out R q l K h.2]
theorem sum_put (R : Pl → List Rd) (q : Pl) (l : List Rd) : ∀ K : List Pl, K.Nodup → q ∈ K → (K.map fun p => (put1 R q l p).length).sum + (R q).length = (K.map fun p => (R p).length).sum + l.length
  | [], _, h => by cases h
  | p :: K, hn, h => by
    rw [List.nodup_cons] at hn
    simp only [List.map_cons, List.sum_cons]
    by_cases e : p = q
    · subst e
      rw [put1_same, sum_put_out R p l K hn.1]
      omega
    · have hq : q ∈ K := by
        rcases List.mem_cons.1 h with h | h
        · exact absurd h.symm e
        · exact h
      rw [put1_other R l e]
      have := sum_put R q l K hn.2 hq
      omega
theorem len_le_sum (R : Pl → List Rd) (q : Pl) : ∀ K : List Pl, q ∈ K → (R q).length ≤ (K.map fun p => (R p).length).sum
  | [], h => by cases h
  | p :: K, h => by
    simp only [List.map_cons, List.sum_cons]
    rcases List.mem_cons.1 h with rfl | h
    · omega
    · have := len_le_sum R q K h; omega
theorem card_le_sum (R : Pl → List Rd) : ∀ K : List Pl, (∀ q ∈ K, R q ≠ []) → K.length ≤ (K.map fun p => (R p).length).sum
  | [], _ => by simp
  | p :: K, h => by
    simp only [List.map_cons, List.sum_cons, List.length_cons]
    have h1 := card_le_sum R K (fun q hq => h q (List.mem_cons_of_mem _ hq))
    have h2 : 0 < (R p).length := List.length_pos_iff.2 (h p List.mem_cons_self)
    omega
theorem InvK.len {S : St} (h : InvK S) (q : Pl) : ((S.R q).length : Int) ≤ S.n := by
  rw [h.sum]
  by_cases hq : q ∈ S.K
  · have := len_le_sum S.R q S.K hq; omega
  · rw [h.off q hq]; simp
theorem InvK.card {S : St} (h : InvK S) : (S.K.length : Int) ≤ S.n := by
  rw [h.sum]
  have := card_le_sum S.R S.K h.pos
  omega
theorem whole_may (t : ByteArray) : mayB (whole t) = true := by
  unfold mayB whole
  simp only [if_true]
  kernel_rfl
/-- a place's notes, put in the place of others -/
theorem InvK.put {S : St} (h : InvK S) (q : Pl) (l : List Rd) (hl : l ≠ []) (ht : ∀ y ∈ l, y.t = q.2 ∧ mayB y = true ∧ y.OK) (hlean : l.Pairwise LeanR) (hs : q.2.size ≤ reachBytes) (h1 : 1 ≤ q.1) : InvK ⟨keysK S.K q, put1 S.R q l, S.n - (S.R q).length + l.length⟩ where
  nodup := by
    show (keysK S.K q).Nodup
    unfold keysK
    split
    · exact h.nodup
    · rename_i hq
      rw [inK_iff] at hq
      rw [List.nodup_append]
      refine ⟨h.nodup, by simp, ?_⟩
      intro a ha b hb
      rw [List.mem_singleton.1 hb]
      rintro rfl
      exact hq ha
  off p hp := by
    rw [mem_keysK, not_or] at hp
    show put1 S.R q l p = []
    rw [put1_other _ _ hp.1]
    exact h.off p hp.2
  pos p hp := by
    show put1 S.R q l p ≠ []
    by_cases e : p = q
    · subst e; rw [put1_same]; exact hl
    · rw [put1_other _ _ e]
      exact h.pos p ((mem_keysK.1 hp).resolve_left e)
  sum := by
    show S.n - (S.R q).length + l.length = (((keysK S.K q).map fun p => (put1 S.R q l p).length).sum : Nat)
    rw [h.sum]
    unfold keysK
    split
    · rename_i hq
      rw [inK_iff] at hq
      have := sum_put S.R q l S.K h.nodup hq
      omega
    · rename_i hq
      rw [inK_iff] at hq
      rw [h.off q hq, List.map_append, List.sum_append, sum_put_out _ _ _ _ hq]
      simp [put1_same]
  tab p y hy := by
    replace hy : y ∈ put1 S.R q l p := hy
    by_cases e : p = q
    · subst e; rw [put1_same] at hy; exact ht y hy
    · rw [put1_other _ _ e] at hy; exact h.tab p y hy
  lean p := by
    show (put1 S.R q l p).Pairwise LeanR
    by_cases e : p = q
    · subst e; rw [put1_same]; exact hlean
    · rw [put1_other _ _ e]; exact h.lean p
  size p hp := by
    rcases mem_keysK.1 hp with rfl | hp
    · exact hs
    · exact h.size p hp
  one p hp := by
    rcases mem_keysK.1 hp with rfl | hp
    · exact h1
    · exact h.one p hp
theorem left_lean {l : List Rd} {x : Rd} (h : l.Pairwise LeanR) (hc : l.any (fun y => cov y x) = false) : (left l x).Pairwise LeanR := by
  unfold left
  rw [List.pairwise_append]
  refine ⟨h.filter _, by simp, fun a ha b hb => ?_⟩
  rw [List.mem_singleton.1 hb]
  rw [List.mem_filter] at ha
  refine ⟨?_, by simpa using ha.2⟩
  have := List.any_eq_false.1 hc a ha.1
  simpa using this
theorem InvK.note {S : St} (h : InvK S) {t : Int} {x : Rd} (ht : 1 ≤ t) (hx : x.OK) (hm : mayB x = true) (hc : (S.R (t, x.t)).any (fun y => cov y x) = false) : InvK ⟨keysK S.K (t, x.t), put1 S.R (t, x.t) (left (S.R (t, x.t)) x), S.n - (S.R (t, x.t)).length + (left (S.R (t, x.t)) x).length⟩ := by
  refine h.put (t, x.t) _ (by unfold left; simp) (fun y hy => ?_) (left_lean (h.lean _) hc) hx.t ht
  unfold left at hy
  rcases List.mem_append.1 hy with hy | hy
  · exact h.tab _ y (List.mem_filter.1 hy).1
  · rw [List.mem_singleton.1 hy]; exact ⟨rfl, hm, hx⟩
theorem pick_inK {K : List Pl} {R : Pl → List Rd} (h : 1 < (pick K R).2) : (pick K R).1 ∈ K ∧ (pick K R).2 = (R (pick K R).1).length := by
  rcases crs_spec (fun q => (R q).length) (srtC cmpPl K) (pl0, 1) with e | ⟨q, hq, e, _⟩
  · unfold pick at h
    rw [e] at h
    exact absurd h (by simp)
  · unfold pick
    rw [e]
    exact ⟨(srtC_perm _).mem_iff.1 hq, rfl⟩
theorem whole_ok {t : ByteArray} (h : t.size ≤ reachBytes) : (whole t).OK := ⟨h, by show (Lit.int .i64 3).wf = true; decide, by show (0 : Nat) ≤ reachBytes; decide, by show (0 : Nat) ≤ reachBytes; decide⟩
theorem InvK.whole {S : St} (h : InvK S) (hp : 1 < (pick S.K S.R).2) : InvK ⟨S.K, put1 S.R (pick S.K S.R).1 [whole (pick S.K S.R).1.2], S.n - (((pick S.K S.R).2 : Int) - 1)⟩ := by
  obtain ⟨h1, h2⟩ := pick_inK hp
  have := h.put (pick S.K S.R).1 [YthaoedfalkebbaaGreat.whole (pick S.K S.R).1.2] (by simp) (fun y hy => by rw [List.mem_singleton.1 hy]; exact ⟨rfl, whole_may _, whole_ok (h.size _ h1)⟩) (by simp) (h.size _ h1) (h.one _ h1)
  have e : keysK S.K (pick S.K S.R).1 = S.K := by unfold keysK; rw [if_pos (inK_iff.2 h1)]
  rw [e] at this
  have e2 : S.n - (((pick S.K S.R).2 : Int) - 1) = S.n - ((S.R (pick S.K S.R).1).length : Int) + (([YthaoedfalkebbaaGreat.whole (pick S.K S.R).1.2].length : Nat) : Int) := by rw [h2]; simp; omega
  rw [e2]
  exact this
/-- whatever the coarsening keeps, where the notes are what they are -/
theorem coarse_keeps {most : Int} {K : List Pl} (P : (Pl → List Rd) → Prop) (hP : ∀ R q, P R → q ∈ K → P (put1 R q [whole q.2])) : ∀ (k : Nat) (R : Pl → List Rd) (n : Int) (R' : Pl → List Rd) (n' : Int), (n - most).toNat ≤ k → InvK ⟨K, R, n⟩ → P R → coarse K most k R n = some (R', n') → InvK ⟨K, R', n'⟩ ∧ P R' ∧ n' ≤ most
  | 0, R, n, R', n', hk, hI, hR, h => by
    injection h with h
    injection h with h1 h2
    subst h1 h2
    exact ⟨hI, hR, by omega⟩
  | k + 1, R, n, R', n', hk, hI, hR, h => by
    have e2 : coarse K most (k + 1) R n = if n ≤ most then some (R, n) else if 1 < (pick K R).2 then coarse K most k (put1 R (pick K R).1 [whole (pick K R).1.2]) (n - (((pick K R).2 : Int) - 1)) else none := rfl
    rw [e2] at h
    by_cases h1 : n ≤ most
    · rw [if_pos h1] at h
      injection h with h
      injection h with h3 h4
      subst h3 h4
      exact ⟨hI, hR, h1⟩
    · rw [if_neg h1] at h
      by_cases h2 : 1 < (pick K R).2
      · rw [if_pos h2] at h
        exact coarse_keeps P hP k (put1 R (pick K R).1 [whole (pick K R).1.2]) (n - (((pick K R).2 : Int) - 1)) R' n' (by omega) (hI.whole h2) (hP _ _ hR (pick_inK h2).1) h
      · rw [if_neg h2] at h
        cases h
/-- Note, plain -/
def noteP (S : St) (most t : Int) (x : Rd) : Int × St :=
  if t < 1 ∨ mayB x = false then (1, S)
  else if (S.R (t, x.t)).any (fun y => cov y x) = true then (0, S)
  else match coarseF (keysK S.K (t, x.t)) most (put1 S.R (t, x.t) (left (S.R (t, x.t)) x)) (S.n - (S.R (t, x.t)).length + (left (S.R (t, x.t)) x).length) with
    | none => (4, S)
    | some (R', n') => (0, ⟨keysK S.K (t, x.t), R', n'⟩)
theorem noteP_inv {S : St} (h : InvK S) {most t : Int} {x : Rd} (hx : x.OK) (hn : S.n ≤ most) : InvK (noteP S most t x).2 ∧ (noteP S most t x).2.n ≤ most := by
  unfold noteP
  split
  · exact ⟨h, hn⟩
  · rename_i h1
    simp only [not_or, Int.not_lt, Bool.not_eq_false] at h1
    split
    · exact ⟨h, hn⟩
    · rename_i h2
      have hI := h.note h1.1 hx h1.2 (by simpa using h2)
      split
      · exact ⟨h, hn⟩
      · rename_i R' n' he
        have := coarse_keeps (most := most) (fun _ => True) (fun _ _ _ _ => trivial) _ _ _ R' n' (Nat.le_refl _) hI trivial he
        exact ⟨this.1, this.2.2⟩
end Go.Proofs.YthaoedfalkebbaaGreat
namespace Go.Proofs.YthaoedfalkebbaaGreat
open Go.RowKit Go.Maps Go.Sort Go.Lib Go.Proofs.YthaoedfalkebbaaGreatW.PrintWords Go.Proofs.YthaoedfalkebbaaGreatW.PrintLast Go.Proofs.YthaoedfalkebbaaGreatW.PrintMore
set_option linter.unusedVariables false
set_option linter.unusedSimpArgs false
set_option linter.unusedSectionVars false
structure MrS (w : World) (base p b : Nat) (most : Int) (S : St) : Prop where
  ex : ∃ L, Mr w base p b most S.n L S.R ∧ L.map (·.1) = S.K ∧ base ≤ b
  inv : InvK S
  le : S.n ≤ most
  top : most ≤ 65536
  bot : 1 ≤ most
theorem MrS.kept {w w' : World} {base p b : Nat} {most : Int} {S : St} (h : MrS w base p b most S) (hg : w.grownBy w' none) : MrS w' base p b most S := by
  obtain ⟨⟨L, M, hk, hbb⟩, r1, r2, r3, r4⟩ := h
  exact ⟨⟨L, M.kept hg, hk, hbb⟩, r1, r2, r3, r4⟩
theorem MrS.lt {w : World} {base p b : Nat} {most : Int} {S : St} (h : MrS w base p b most S) : p < w.heap.size := by
  obtain ⟨⟨L, M, hk, hbb⟩, r⟩ := h
  exact (Array.getElem?_eq_some_iff.1 M.cells).1
theorem MrS.low {w : World} {base p b : Nat} {most : Int} {S : St} (h : MrS w base p b most S) : base ≤ p := by
  obtain ⟨⟨L, M, hk, hbb⟩, r⟩ := h
  exact M.low
theorem MrS.is55 {w : World} {base p b : Nat} {most : Int} {S : St} (h : MrS w base p b most S) : ∃ c s, w.heap[p]? = some (.cells c 150 s) := by
  obtain ⟨⟨L, M, hk, hbb⟩, r⟩ := h
  exact ⟨_, _, M.cells⟩
def St0 : St := ⟨[], fun _ => [], 0⟩
theorem InvK.empty : InvK St0 := ⟨List.nodup_nil, fun _ _ => rfl, by simp [St0], by simp [St0], by simp [St0], by simp [St0], by simp [St0], by simp [St0]⟩
theorem noteF_P (L : List (Pl × Sv)) (S : St) (most t : Int) (x : Rd) (hk : L.map (·.1) = S.K) :
    noteF L S.R most S.n t x = coarseF (keysK S.K (t, x.t)) most (put1 S.R (t, x.t) (left (S.R (t, x.t)) x)) (S.n - (S.R (t, x.t)).length + (left (S.R (t, x.t)) x).length) := by
  unfold noteF
  rw [keysN_K, hk]
theorem Note_S (base p b : Nat) (most : Int) (S : St) (t : Int) (x : Rd) (w : World) (h : MrS w base p b most S) (hx : x.OK) (hwf : (Lit.int .i64 t).wf = true) :
    Calls Tryz.prog 70 #[.pointer (some ⟨p, 0, none⟩), .int .i64 t, .agg #[.string x.t, .int .i64 x.k, .string x.f, .string x.u]] w fun e w' => e = .returned (.int .i64 (noteP S most t x).1) ∧ (∃ b', MrS w' base p b' most (noteP S most t x).2 ∧ (b' = b ∨ w.heap.size ≤ b')) ∧ w.grownBy w' (some p) := by
  obtain ⟨⟨L, M, hk, hbb⟩, hI, hn, h3, h4⟩ := h
  have hinv := noteP_inv hI (t := t) hx hn
  have hlow := M.low
  have hplt : p < w.heap.size := (Array.getElem?_eq_some_iff.1 M.cells).1
  by_cases hb : t < 1 ∨ mayB x = false
  · have e : noteP S most t x = (1, S) := by unfold noteP; rw [if_pos hb]
    rw [e]
    refine (Note_bad base p b most S.n L S.R t x w M hx hb).mono ?_
    rintro e w' ⟨rfl, B⟩
    exact ⟨rfl, ⟨b, ⟨⟨L, M.kept (grown_of_below B none), hk, hbb⟩, hI, hn, h3, h4⟩, .inl rfl⟩, grown_of_below B _⟩
  · have hb' := hb
    simp only [not_or, Int.not_lt, Bool.not_eq_false] at hb'
    have hlen := hI.len
    have hlen' : ∀ q, (S.R q).length ≤ 65536 := fun q => by have := hlen q; omega
    by_cases hc : (S.R (t, x.t)).any (fun y => cov y x) = true
    · have e : noteP S most t x = (0, S) := by unfold noteP; rw [if_neg hb, if_pos hc]
      rw [e]
      refine (Note_held base p b most S.n L S.R t x w M hx hb'.1 hwf hb'.2 (hlen' _) hc).mono ?_
      rintro e w' ⟨rfl, B⟩
      exact ⟨rfl, ⟨b, ⟨⟨L, M.kept (grown_of_below B none), hk, hbb⟩, hI, hn, h3, h4⟩, .inl rfl⟩, grown_of_below B _⟩
    · have hc' : (S.R (t, x.t)).any (fun y => cov y x) = false := by simpa using hc
      have hL : L.length ≤ 65536 := by
        have h1 : L.length = S.K.length := by rw [← hk, List.length_map]
        have := hI.card
        omega
      have F := Note_full base p b most S.n L S.R t x w M hx hb'.1 hwf hb'.2 hlen' hL (hlen _) (by omega) (by omega) hc' (by omega) (fun e he => hI.size _ (by rw [← hk]; exact List.mem_map.2 ⟨e, he, rfl⟩))
      rw [noteF_P L S most t x hk] at F
      refine F.mono ?_
      rintro e w' (⟨hr, rfl, B⟩ | ⟨R', n', b', L', hr, hbb', rfl, M', hk', G⟩)
      · have e : noteP S most t x = (4, S) := by unfold noteP; rw [if_neg hb, if_neg hc, hr]
        rw [e]
        exact ⟨rfl, ⟨b, ⟨⟨L, M.kept (grown_of_below B none), hk, hbb⟩, hI, hn, h3, h4⟩, .inl rfl⟩, grown_of_below B _⟩
      · have e : noteP S most t x = (0, ⟨keysK S.K (t, x.t), R', n'⟩) := by unfold noteP; rw [if_neg hb, if_neg hc, hr]
        rw [e] at hinv ⊢
        refine ⟨rfl, ⟨b', ⟨⟨L', M', ?_, by omega⟩, hinv.1, hinv.2, h3, h4⟩, .inr hbb'⟩, G⟩
        rw [hk', keysN_K, hk]
/-- a transaction's notes -/
def ofP (S : St) (t : Int) : List Rd := (S.K.filter (fun q => q.1 == t)).flatMap S.R
theorem notesT_P (L : List (Pl × Sv)) (S : St) (t : Int) (hk : L.map (·.1) = S.K) : notesT L S.R t = ofP S t := by
  unfold notesT ofP
  rw [← hk, List.filter_map, List.flatMap_map]
  rfl
theorem Of_S (base p b : Nat) (most : Int) (S : St) (t : Int) (w : World) (h : MrS w base p b most S) :
    Calls Tryz.prog 52 #[.pointer (some ⟨p, 0, none⟩), .int .i64 t] w fun e w' => ∃ v, e = .returned v ∧ dR.R 108 w' w.heap.size (fun _ => True) v (srtC cmpRd (ofP S t)) ∧ Below w.heap.size w w' := by
  obtain ⟨⟨L, M, hk, hbb⟩, hI, hn, h3, h4⟩ := h
  have hL : L.length ≤ 65536 := by
    have h1 : L.length = S.K.length := by rw [← hk, List.length_map]
    have := hI.card
    omega
  have hs : sumR L S.R ≤ 65536 := by
    have h1 : sumR L S.R = (S.K.map fun q => (S.R q).length).sum := by unfold sumR; rw [← hk, List.map_map]; rfl
    have := hI.sum
    omega
  have O := Of_calls base p b most S.n L S.R t w M hL hs
  rw [notesT_P L S t hk] at O
  exact O
theorem Len_S (base p b : Nat) (most : Int) (S : St) (w : World) (h : MrS w base p b most S) :
    Calls Tryz.prog 61 #[.pointer (some ⟨p, 0, none⟩)] w fun e w' => e = .returned (.int .i64 S.n) ∧ w = w' := by
  obtain ⟨⟨L, M, hk, hbb⟩, hI, hn, h3, h4⟩ := h
  exact Len_calls base p b most S.n L S.R w M
/-- who has read a key -/
def readP (S : St) (tab key : ByteArray) : List Int := rise ((S.K.filter (fun q => (q.2.toList == tab.toList) && (S.R q).any (fun y => holdB y key))).map (·.1))
theorem readersOf_P (L : List (Pl × Sv)) (S : St) (tab key : ByteArray) (hk : L.map (·.1) = S.K) : readersOf L S.R tab key = readP S tab key := by
  unfold readersOf readP
  rw [← hk, List.filter_map, List.map_map]
  rfl
theorem Readers_S (base p b : Nat) (most : Int) (S : St) (tab key : ByteArray) (w : World) (h : MrS w base p b most S) :
    Calls Tryz.prog 47 #[.pointer (some ⟨p, 0, none⟩), .string tab, .string key] w fun e w' => ∃ v, e = .returned v ∧ dI.R 2 w' w.heap.size (fun _ => True) v (readP S tab key) ∧ Below w.heap.size w w' := by
  obtain ⟨⟨L, M, hk, hbb⟩, hI, hn, h3, h4⟩ := h
  have hL : L.length ≤ 65536 := by
    have h1 : L.length = S.K.length := by rw [← hk, List.length_map]
    have := hI.card
    omega
  have O := Readers_calls base p b most S.n L S.R tab key w M hL (fun q => by have := hI.len q; omega)
  rw [readersOf_P L S tab key hk] at O
  exact O
end Go.Proofs.YthaoedfalkebbaaGreat
