import Derived.Test.YtedcnpaomphffaaME
import Derived.Test.YtedcnpaomphffaaK0
namespace Go.Proofs.Ytedcnpaomphffaa
open Go.RowKit Go.Maps Go.Sort Go.Lib Go.Proofs.YtedcnpaomphffaaW.PrintWords Go.Proofs.YtedcnpaomphffaaW.PrintLast Go.Proofs.YtedcnpaomphffaaW.PrintMore
set_option linter.unusedVariables false
set_option linter.unusedSimpArgs false
set_option linter.unusedSectionVars false
/-! ### places as keys -/
theorem laid : laidOutB Try.prog = true := by kernel_rfl
abbrev Pl := Int × ByteArray
def mkP (a : Pl) : Value := .agg #[.int .i64 a.1, .string a.2]
def okP (a : Pl) : Prop := (Lit.int .i64 a.1).wf = true ∧ a.2.size ≤ maxLen
theorem wide100 : (match Try.prog.underlying 84 with | some (.array _ _) | some (.struct _) => true | _ => false) = true := by rw [Try.underlying84]
theorem keyType100 : Try.prog.keyType 84 = true := by kernel_rfl
theorem cells100 : Try.prog.cellsOf 84 = 2 := by kernel_rfl
theorem cells9 : Try.prog.cellsOf 9 = 1 := by kernel_rfl
theorem cells3 : Try.prog.cellsOf 3 = 1 := by kernel_rfl
theorem size_pos : ∃ m, Try.prog.types.size = m + 1 := ⟨Try.prog.types.size - 1, by
    have : (decide (1 ≤ Try.prog.types.size)) = true := by kernel_rfl
    have := of_decide_eq_true this
    omega⟩
def strLit : Value → Option (List Lit)
  | .string s => if s.size ≤ maxLen then some [.string s.data.toList] else none
  | _ => none
def intLit : Value → Option (List Lit)
  | .int q a => if q = .i64 ∧ (Lit.int .i64 a).wf = true then some [.int .i64 a] else none
  | _ => none
theorem keyLits9 (d : Nat) (a : Value) : Try.prog.keyLits (d + 1) 9 [a] = strLit a := by
  unfold Program.keyLits
  simp only [Try.underlying9]
  cases a <;> rfl
theorem keyLits3 (d : Nat) (a : Value) : Try.prog.keyLits (d + 1) 3 [a] = intLit a := by
  unfold Program.keyLits
  simp only [Try.underlying3]
  cases a <;> first | rfl | (simp [intLit])
theorem keyLits100 (d : Nat) (a b : Value) : Try.prog.keyLits (d + 2) 84 [a, b] = (intLit a).bind fun x => (strLit b).bind fun y => some (x ++ y) := by
  rw [show d + 2 = (d + 1) + 1 from rfl]
  unfold Program.keyLits
  simp only [Try.underlying84, cells100, List.length_cons, List.length_nil]
  simp [cells9, cells3, keyLits9, keyLits3]
  cases intLit a <;> cases strLit b <;> simp
theorem key_of (a : Pl) (h : okP a) : ∃ kl, keyOf Try.prog 84 (mkP a) = some kl := by
  obtain ⟨m, hm⟩ := size_pos
  have hf : (mkP a).formed Try.prog 84 = true := by
    simp [mkP, Value.formed, Try.underlying84, cells100]
  unfold keyOf
  simp only [Try.underlying84, keyType100, hf, Bool.and_self, if_true, hm]
  have e : (mkP a).cells.toList = [.int .i64 a.1, .string a.2] := rfl
  rw [e, keyLits100]
  simp [strLit, intLit, h.1, h.2]
set_option maxRecDepth 100000 in
theorem of_key (v : Value) (kl : Lit) (h : keyOf Try.prog 84 v = some kl) : ∃ a : Pl, okP a ∧ v = mkP a := by
  obtain ⟨m, hm⟩ := size_pos
  obtain ⟨xs, L, rfl, h1, _⟩ := keyOf_top wide100 h
  rw [hm] at h1
  have hl : xs.toList.length = 2 := by
    unfold Program.keyLits at h1
    simp only [Try.underlying84, cells100] at h1
    by_cases hh : xs.toList.length = 2
    · exact hh
    · rw [if_neg (fun h => hh h.1)] at h1
      cases h1
  obtain ⟨l⟩ := xs
  match l, hl with
  | [a, b], _ =>
    have h2 : Try.prog.keyLits (m + 2) 84 [a, b] = some L := h1
    rw [keyLits100] at h2
    cases ha : intLit a with
    | none => rw [ha] at h2; cases h2
    | some x =>
      cases hb : strLit b with
      | none => rw [ha, hb] at h2; cases h2
      | some y =>
        have st : ∀ (v : Value) (z : List Lit), strLit v = some z → ∃ u : ByteArray, v = .string u ∧ u.size ≤ maxLen := by
          intro v z hz
          cases v <;> try cases hz
          rename_i u
          refine ⟨u, rfl, ?_⟩
          by_cases hu : u.size ≤ maxLen
          · exact hu
          · exfalso
            have : strLit (.string u) = none := if_neg hu
            rw [this] at hz
            cases hz
        have it : ∀ (v : Value) (z : List Lit), intLit v = some z → ∃ u : Int, v = .int .i64 u ∧ (Lit.int .i64 u).wf = true := by
          intro v z hz
          cases v <;> try cases hz
          rename_i q u
          by_cases hu : q = .i64 ∧ (Lit.int .i64 u).wf = true
          · obtain ⟨rfl, hu⟩ := hu
            exact ⟨u, rfl, hu⟩
          · exfalso
            have : intLit (.int q u) = none := if_neg hu
            rw [this] at hz
            cases hz
        obtain ⟨u, rfl, hu⟩ := it a x ha
        obtain ⟨u', rfl, hu'⟩ := st b y hb
        exact ⟨(u, u'), ⟨hu, hu'⟩, rfl⟩
set_option maxRecDepth 100000 in
theorem keyP : KeyAs Try.prog 84 mkP okP where
  keyed := Keyed.of_law (deep_law_gate laid (of_decide_eq_true (by kernel_rfl)) (of_decide_eq_true (by kernel_rfl)) keyType100 wide100)
  lit := key_of
  inj := fun a b h => by
    injection h with h
    have h := congrArg Array.toList h
    simp at h
    exact Prod.ext h.1 h.2
  inv := of_key
/-! ### dependencies as keys -/
theorem wide37 : (match Try.prog.underlying 64 with | some (.array _ _) | some (.struct _) => true | _ => false) = true := by rw [Try.underlying64]
theorem keyType37 : Try.prog.keyType 64 = true := by kernel_rfl
theorem cells37 : Try.prog.cellsOf 64 = 3 := by kernel_rfl
def okDp (d : Dp) : Prop := (Lit.int .i64 d.f).wf = true ∧ (Lit.int .i64 d.t).wf = true ∧ (Lit.int .i64 d.k).wf = true
theorem keyLits37 (d : Nat) (a b c : Value) : Try.prog.keyLits (d + 2) 64 [a, b, c] = (intLit a).bind fun x => (intLit b).bind fun y => (intLit c).bind fun z => some (x ++ y ++ z) := by
  rw [show d + 2 = (d + 1) + 1 from rfl]
  unfold Program.keyLits
  simp only [Try.underlying64, cells37, List.length_cons, List.length_nil]
  simp [cells3, keyLits3]
  cases intLit a <;> cases intLit b <;> cases intLit c <;> simp
theorem key_ofD (a : Dp) (h : okDp a) : ∃ kl, keyOf Try.prog 64 (mkD a) = some kl := by
  obtain ⟨m, hm⟩ := size_pos
  have hf : (mkD a).formed Try.prog 64 = true := by
    simp [Value.formed, Try.underlying64, cells37]
  unfold keyOf
  simp only [Try.underlying64, keyType37, hf, Bool.and_self, if_true, hm]
  have e : (mkD a).cells.toList = [.int .i64 a.f, .int .i64 a.t, .int .i64 a.k] := rfl
  rw [e, keyLits37]
  simp [intLit, h.1, h.2.1, h.2.2]
set_option maxRecDepth 100000 in
theorem of_keyD (v : Value) (kl : Lit) (h : keyOf Try.prog 64 v = some kl) : ∃ a : Dp, okDp a ∧ v = mkD a := by
  obtain ⟨m, hm⟩ := size_pos
  obtain ⟨xs, L, rfl, h1, _⟩ := keyOf_top wide37 h
  rw [hm] at h1
  have hl : xs.toList.length = 3 := by
    unfold Program.keyLits at h1
    simp only [Try.underlying64, cells37] at h1
    by_cases hh : xs.toList.length = 3
    · exact hh
    · rw [if_neg (fun h => hh h.1)] at h1
      cases h1
  obtain ⟨l⟩ := xs
  match l, hl with
  | [a, b, c], _ =>
    have h2 : Try.prog.keyLits (m + 2) 64 [a, b, c] = some L := h1
    rw [keyLits37] at h2
    have it : ∀ (v : Value) (z : List Lit), intLit v = some z → ∃ u : Int, v = .int .i64 u ∧ (Lit.int .i64 u).wf = true := by
      intro v z hz
      cases v <;> try cases hz
      rename_i q u
      by_cases hu : q = .i64 ∧ (Lit.int .i64 u).wf = true
      · obtain ⟨rfl, hu⟩ := hu
        exact ⟨u, rfl, hu⟩
      · exfalso
        have : intLit (.int q u) = none := if_neg hu
        rw [this] at hz
        cases hz
    cases ha : intLit a with
    | none => rw [ha] at h2; cases h2
    | some x =>
      cases hb : intLit b with
      | none => rw [ha, hb] at h2; cases h2
      | some y =>
        cases hc : intLit c with
        | none => rw [ha, hb, hc] at h2; cases h2
        | some z =>
          obtain ⟨u, rfl, hu⟩ := it a x ha
          obtain ⟨u', rfl, hu'⟩ := it b y hb
          obtain ⟨u'', rfl, hu''⟩ := it c z hc
          exact ⟨⟨u, u', u''⟩, ⟨hu, hu', hu''⟩, rfl⟩
set_option maxRecDepth 100000 in
theorem keyD : KeyAs Try.prog 64 (fun d : Dp => mkD d) okDp where
  keyed := Keyed.of_law (deep_law_gate laid (of_decide_eq_true (by kernel_rfl)) (of_decide_eq_true (by kernel_rfl)) keyType37 wide37)
  lit := key_ofD
  inj := fun a b h => by
    injection h with h
    have h := congrArg Array.toList h
    simp at h
    obtain ⟨a1, a2, a3⟩ := a
    obtain ⟨b1, b2, b3⟩ := b
    simp at h
    obtain ⟨h1, h2, h3⟩ := h
    rw [h1, h2, h3]
  inv := of_keyD
/-! ### whole numbers and texts as keys -/
def mkN (a : Int) : Value := .int .i64 a
def okN (a : Int) : Prop := (Lit.int .i64 a).wf = true
theorem keyN : KeyAs Try.prog 3 mkN okN where
  keyed := int_keyed Try.underlying3
  lit := fun a h => ⟨_, keyOf_int_mk Try.underlying3 h⟩
  inj := fun a b h => by injection h
  inv := fun v kl h => by
    obtain ⟨x, rfl, _, hw⟩ := Maps.keyOf_int_inv Try.underlying3 h
    exact ⟨x, hw, rfl⟩
def mkT (a : ByteArray) : Value := .string a
def okT (a : ByteArray) : Prop := a.size ≤ maxLen
theorem keyT : KeyAs Try.prog 9 mkT okT where
  keyed := string_keyed Try.underlying9
  lit := fun a h => by
    unfold okT at h
    simp [keyOf, Try.underlying9, mapKey, mkT, h]
  inj := fun a b h => by injection h
  inv := fun v kl h => by
    have h' := h
    simp only [keyOf, Try.underlying9] at h
    cases v <;> simp [mapKey] at h
    rename_i s
    exact ⟨s, h.1, rfl⟩
/-! ### elements: whole numbers, rows -/
def cdI (a : Int) : DataW Unit := .lit (.int .i64 a)
def rI : Value → Option (DataW Unit × List MemPlace)
  | .int .i64 a => some (.lit (.int .i64 a), [])
  | _ => none
theorem valI : ValAs mkN rI cdI where
  reads := fun b => rfl
  inv := fun v y ps h => by
    unfold rI at h
    split at h
    · rename_i a
      injection h with h
      injection h with h1 h2
      exact ⟨a, rfl, h1.symm⟩
    · cases h
  inj := fun b b' h => by simpa [cdI] using h
def cdS : Sv → DataW Unit
  | none => .nil
  | some (g, n, c) => .agg [.lit (.int .i64 g), .lit (.int .i64 n), .lit (.int .i64 c)]
def rS : Value → Option (DataW Unit × List MemPlace)
  | .slice none 0 0 => some (.nil, [])
  | .slice (some ⟨g, 0, none⟩) n c => some (.agg [.lit (.int .i64 g), .lit (.int .i64 n), .lit (.int .i64 c)], [])
  | _ => none
theorem valS : ValAs mvS rS cdS where
  reads := fun b => by
    rcases b with _ | ⟨g, n, c⟩
    · rfl
    · rfl
  inv := fun v y ps h => by
    unfold rS at h
    split at h
    · injection h with h
      injection h with h1 h2
      exact ⟨none, rfl, h1.symm⟩
    · rename_i g n c
      injection h with h
      injection h with h1 h2
      exact ⟨some (g, n, c), rfl, h1.symm⟩
    · cases h
  inj := fun b b' h => by
    rcases b with _ | ⟨g, n, c⟩ <;> rcases b' with _ | ⟨g', n', c'⟩
    · rfl
    · cases h
    · cases h
    · simp [cdS] at h
      obtain ⟨h1, h2, h3⟩ := h
      have e1 : g = g' := by exact_mod_cast h1
      have e2 : n = n' := by exact_mod_cast h2
      have e3 : c = c' := by exact_mod_cast h3
      rw [e1, e2, e3]
abbrev TabP (w : World) (b n : Nat) (L : List (Int × Int)) : Prop := Tab Try.prog 3 mkN okN rI cdI w b n L
abbrev TabV (w : World) (b n : Nat) (L : List (ByteArray × Sv)) : Prop := Tab Try.prog 9 mkT okT rS cdS w b n L
abbrev TabO (w : World) (b n : Nat) (L : List (Pl × Int)) : Prop := Tab Try.prog 84 mkP okP rI cdI w b n L
abbrev TabD (w : World) (b n : Nat) (L : List (Dp × Int)) : Prop := Tab Try.prog 64 (fun d : Dp => mkD d) okDp rI cdI w b n L
abbrev RngV (w : World) (b r n : Nat) (L rem : List (ByteArray × Sv)) : Prop := Rng Try.prog 9 mkT okT rS cdS w b r n L rem
abbrev RngD (w : World) (b r n : Nat) (L rem : List (Dp × Int)) : Prop := Rng Try.prog 64 (fun d : Dp => mkD d) okDp rI cdI w b r n L rem
abbrev RngP (w : World) (b r n : Nat) (L rem : List (Int × Int)) : Prop := Rng Try.prog 3 mkN okN rI cdI w b r n L rem
theorem zero22 (w : World) : (zeroValue 22).run Try.prog w = .ok (mvS none) w := Try.zeroValue22 w
theorem zero3 (w : World) : (zeroValue 3).run Try.prog w = .ok (mkN 0) w := Try.zeroValue3 w
end Go.Proofs.Ytedcnpaomphffaa
namespace Go.Proofs.Ytedcnpaomphffaa
open Go.RowKit Go.Maps Go.Sort Go.Lib Go.Shelf Go.Proofs.YtedcnpaomphffaaW.PrintWords Go.Proofs.YtedcnpaomphffaaW.PrintLast Go.Proofs.YtedcnpaomphffaaW.PrintMore
set_option linter.unusedVariables false
set_option linter.unusedSimpArgs false
set_option linter.unusedSectionVars false
/-! ### comparisons, the sorts -/
set_option maxRecDepth 100000 in
theorem isNaN64_calls (s : Int) (w : World) : Calls Try.prog 57 #[.int .i64 s] w fun e w' => e = .returned (.bool false) ∧ w = w' := by
  go_enter Try.func57, Try.ntmps57
  go_wp2
  go_ret
  exact ⟨by simp, rfl⟩
set_option maxRecDepth 100000 in
theorem Compare38_calls (s u : Int) (w : World) : Calls Try.prog 35 #[.int .i64 s, .int .i64 u] w fun e w' => e = .returned (.int .i64 (cmpN s u)) ∧ w = w' := by
  have N := fun s => isNaN64_calls s w
  unfold cmpN
  rcases Int.lt_trichotomy s u with h1 | h1 | h1
  · rw [if_pos h1]
    go_enter Try.func35, Try.ntmps35
    go_wp2_with fail
    refine (N s).mono ?_
    rintro e w' ⟨rfl, rfl⟩
    go_wp2_with fail
    refine (N u).mono ?_
    rintro e w' ⟨rfl, rfl⟩
    go_wp2
    go_ret
    exact ⟨rfl, rfl⟩
  · subst h1
    rw [if_neg (Int.lt_irrefl _), if_pos rfl]
    go_enter Try.func35, Try.ntmps35
    go_wp2_with fail
    refine (N s).mono ?_
    rintro e w' ⟨rfl, rfl⟩
    go_wp2_with fail
    refine (N s).mono ?_
    rintro e w' ⟨rfl, rfl⟩
    go_wp2
    go_ret
    exact ⟨rfl, rfl⟩
  · have h2 : ¬ s < u := by omega
    have h3 : ¬ s = u := by omega
    rw [if_neg h2, if_neg h3]
    go_enter Try.func35, Try.ntmps35
    go_wp2_with fail
    refine (N s).mono ?_
    rintro e w' ⟨rfl, rfl⟩
    go_wp2_with fail
    refine (N u).mono ?_
    rintro e w' ⟨rfl, rfl⟩
    go_wp2
    go_ret
    exact ⟨rfl, rfl⟩
/-- the first that is not nought -/
def fst0 : List Int → Int
  | [] => 0
  | x :: xs => if x ≠ 0 then x else fst0 xs
theorem fst0_drop (xs : List Int) (i : Nat) (x : Int) (h : xs[i]? = some x) : fst0 (xs.drop i) = if x ≠ 0 then x else fst0 (xs.drop (i + 1)) := by
  obtain ⟨hi, rfl⟩ := List.getElem?_eq_some_iff.1 h
  rw [List.drop_eq_getElem_cons hi]
  rfl
def OrK (w : World) (xs : List Int) (v : Value) (wr : World) : Prop := ∃ i : Nat, v = .int .i64 (i : Int) ∧ i ≤ xs.length ∧ wr = w ∧ fst0 xs = fst0 (xs.drop i)
set_option maxHeartbeats 1000000 in
set_option maxRecDepth 100000 in
theorem Or_calls (g c : Nat) (xs : List Int) (w : World) (hl : xs.length ≤ 65536) (h : ∀ j x, xs[j]? = some x → w.cell? ⟨g, j, none⟩ = some (.int .i64 x)) :
    Calls Try.prog 34 #[.slice (some ⟨g, 0, none⟩) xs.length c] w fun e w' => e = .returned (.int .i64 (fst0 xs)) ∧ w = w' := by
  go_enter Try.func34, Try.ntmps34
  go_wp2_with fail
  go_loopw [8] (fun v wr => OrK w xs v wr) (fun v _ => xs.length - (intOf v).toNat)
  case atStart => exact ⟨0, rfl, Nat.zero_le _, rfl, rfl⟩
  case round =>
    obtain ⟨i, rfl, hi, rfl, he⟩ := hrel
    by_cases hlt : i < xs.length
    · have hx := h i xs[i] (List.getElem?_eq_getElem hlt)
      have hd := fst0_drop xs i xs[i] (List.getElem?_eq_getElem hlt)
      generalize xs[i] = x at hx hd
      clear h
      by_cases hx0 : x = 0
      · subst hx0
        rw [if_neg (by simp)] at hd
        go_wp2
        go_roundw
        case rel => exact ⟨i + 1, by go_num, by omega, rfl, he.trans hd⟩
        case measure => simp [intOf]; omega
      · have hx1 : (x != 0) = true := by simpa using hx0
        rw [if_pos hx0] at hd
        go_wp2
        go_ret
        exact ⟨by rw [he, hd]; rfl, rfl⟩
    · obtain rfl : i = xs.length := by omega
      rw [List.drop_length] at he
      go_wp2
      go_ret
      exact ⟨by rw [he]; rfl, rfl⟩
section
variable {α : Type} {enc : α → List Value} {k : Nat} {hn : ∀ x, (enc x).length = k} {h1 : ∀ x, ∀ u ∈ enc x, u.oneCell' = true}
/-- an append to a flat row -/
theorem flat_app {P : Program} {W : World} {base e : Nat} {v : Value} {xs : List α} (h : (Kd.flat enc k hn h1).R e W base (fun _ => True) v xs) (t ty : TypeId) (z : Value) (bytes : Nat) (ht : P.underlying t = some (.slice e)) (hinfo : (P.info? e).map (fun i => (i.zero, i.size, i.bytes)) = some (some z, k, bytes)) (hzs : z.cells.size = k) (hk : 0 < k) (hb0 : 0 < bytes)
    (x : α) (hbytes : (xs.length + 1) * bytes ≤ 140737488355328) (hbase : base ≤ W.heap.size) :
    ∃ v' w', (Builtin.append_ #[t, t] ty #[v, .slice (some ⟨W.heap.size, 0, none⟩) 1 1]).run P (W.alloc (.cells (enc x).toArray e)) = .ok v' w' ∧ (Kd.flat enc k hn h1).R e w' base (fun _ => True) v' (xs ++ [x]) ∧ W.grownBy w' v.ownBlock := by
  obtain ⟨_, inner, ho, hr⟩ := h
  obtain ⟨i0, hi0, hzz⟩ := Option.map_eq_some_iff.1 hinfo
  simp only [Prod.mk.injEq] at hzz
  obtain ⟨hz0, hz1, hz2⟩ := hzz
  have hlen : xs.length + 1 ≤ 140737488355328 := Nat.le_trans (Nat.le_mul_of_pos_right _ hb0) hbytes
  obtain ⟨v', w', hr', ho', hg, _⟩ := run_append_own_at (P := P) (w := W.alloc (.cells (enc x).toArray e)) base t ty e i0 z k bytes ht hi0 hz0 hz1 hz2 hzs hk v xs.length inner (World.ownsRow.alloc ho _) ⟨W.heap.size, 0, none⟩ 1 1 (enc x) (by rw [hn, Nat.one_mul])
    (by simpa using World.news_of_block (cs := (enc x).toArray) (t := e) (fr := (0, 0)) (heap_alloc_new W (.cells (enc x).toArray e))) (h1 x) (by simp only [maxLen]; omega) hbytes (by simp; omega)
  refine ⟨v', w', hr', ⟨fun _ _ => trivial, _, by rw [List.length_append]; exact ho', hr.snoc rfl (hn x)⟩, trans_grown (World.grownBy_alloc W _ _) hg⟩
theorem flat_typed {W : World} {base e : Nat} {ok : Nat → Prop} {v : Value} {xs : List α} (h : (Kd.flat enc k hn h1).R e W base ok v xs) (b : Nat) (hb : v.ownBlock = some b) : base ≤ b ∧ b < W.heap.size ∧ ∃ cells, W.heap[b]? = some (.cells cells e (0, 0)) := by
  exact (Lo.ofR h).typed b hb
end
section
variable {α : Type} {enc : α → List Value} {k : Nat} {hn : ∀ x, (enc x).length = k} {h1c : ∀ x, ∀ u ∈ enc x, u.oneCell' = true}
/-- an append of a slice to a flat row -/
theorem flat_appS {P : Program} {w : World} {base e : Nat} {ok : Nat → Prop} {v : Value} {xs ys : List α} (h : (Kd.flat enc k hn h1c).R e w base ok v xs) (t ty : TypeId) (z : Value) (bytes : Nat) (ht : P.underlying t = some (.slice e)) (hinfo : (P.info? e).map (fun i => (i.zero, i.size, i.bytes)) = some (some z, k, bytes)) (hzs : z.cells.size = k) (hk : 0 < k) (hb0 : 0 < bytes)
    (A : Option Addr) (c : Nat) (hs : Src enc k w A ys) (hbytes : (xs.length + ys.length) * bytes ≤ 140737488355328) (hbase : base ≤ w.heap.size) (hfresh : ∀ k, w.heap.size ≤ k → ok k) :
    ∃ v' w', (Builtin.append_ #[t, t] ty #[v, .slice A ys.length c]).run P w = .ok v' w' ∧ (Kd.flat enc k hn h1c).R e w' base ok v' (xs ++ ys) ∧ w.grownBy w' v.ownBlock := by
  obtain ⟨i0, hi0, hzz⟩ := Option.map_eq_some_iff.1 hinfo
  simp only [Prod.mk.injEq] at hzz
  obtain ⟨hz0, hz1, hz2⟩ := hzz
  have hlen : xs.length + ys.length ≤ 140737488355328 := Nat.le_trans (Nat.le_mul_of_pos_right _ hb0) hbytes
  obtain ⟨news, hl, hr, hc⟩ := hs
  rcases Nat.eq_zero_or_pos ys.length with h0 | h0
  · have hy : ys = [] := List.eq_nil_of_length_eq_zero h0
    obtain ⟨B, cB, hv, hle, _⟩ := (Lo.ofR h).slice
    refine ⟨v, w, ?_, by rw [hy, List.append_nil]; exact h, ⟨rfl, rfl, rfl, Nat.le_refl _, fun _ _ _ => rfl⟩⟩
    rw [h0, hv]
    exact run_append_zero t ty e i0 ht hi0 B xs.length cB A c hle
  · obtain ⟨a, rfl, hcells⟩ := hc h0
    obtain ⟨h0', inner, h1, h2⟩ := h
    obtain ⟨v', w', hrun, ho, hg, _, hown⟩ := run_append_own_at (P := P) (w := w) base t ty e i0 z k bytes ht hi0 hz0 hz1 hz2 hzs hk v xs.length inner h1 a ys.length c news hl hcells (fun u hu => by
      obtain ⟨j, hj⟩ := List.mem_iff_getElem?.1 hu
      have hjl : j < ys.length * k := by rw [← hl]; exact (List.getElem?_eq_some_iff.1 hj).1
      have hd : j / k < ys.length := by rw [Nat.div_lt_iff_lt_mul hk]; exact hjl
      have hm := Nat.mod_lt j hk
      have e0 : j / k * k + j % k = j := Nat.div_add_mod' j k
      have h3 : (news.drop (j / k * k)).take k = enc ys[j / k] := hr.2 (j / k) _ (List.getElem?_eq_getElem hd)
      have h4 : ((news.drop (j / k * k)).take k)[j % k]? = news[j]? := by rw [List.getElem?_take, if_pos hm, List.getElem?_drop, e0]
      rw [h3, hj] at h4
      exact h1c _ u (List.mem_of_getElem? h4)) (by simp only [maxLen]; omega) hbytes hbase
    refine ⟨v', w', hrun, ⟨fun k hk => ?_, _, by rw [List.length_append]; exact ho, Kd.reps_append h2 hr⟩, hg⟩
    rcases hown with e1 | e1
    · exact h0' k (e1 ▸ hk)
    · rw [e1] at hk; injection hk with hk; exact hfresh k (by omega)
end
theorem Or3 (g c : Nat) (A B C : Int) (w : World) (h0 : w.cell? ⟨g, 0, none⟩ = some (.int .i64 A)) (h1 : w.cell? ⟨g, 1, none⟩ = some (.int .i64 B)) (h2 : w.cell? ⟨g, 2, none⟩ = some (.int .i64 C)) :
    Calls Try.prog 34 #[.slice (some ⟨g, 0, none⟩) 3 c] w fun e w' => e = .returned (.int .i64 (fst0 [A, B, C])) ∧ w = w' := by
  refine Or_calls g c [A, B, C] w (by simp) fun j x hx => ?_
  match j, hx with
  | 0, hx => injection hx with hx; subst hx; exact h0
  | 1, hx => injection hx with hx; subst hx; exact h1
  | 2, hx => injection hx with hx; subst hx; exact h2
theorem cmpDp_fst (a b : Dp) : cmpDp a b = fst0 [cmpN a.f b.f, cmpN a.t b.t, cmpN a.k b.k] := by
  unfold cmpDp
  simp only [fst0]
  by_cases h : cmpN a.k b.k = 0 <;> simp [h]
set_option maxHeartbeats 4000000 in
set_option maxRecDepth 100000 in
theorem closure36 (x y : Dp) (W : World) : Calls Try.prog 33 #[mkD x, mkD y] W fun e w' => e = .returned (.int .i64 (cmpDp x y)) ∧ ∃ q os', w' = grow (W.drewN q) os' := by
  obtain ⟨w1, hw1⟩ : ∃ w1, w1 = (W.alloc (.cells #[.int .i64 x.f, .int .i64 x.t, .int .i64 x.k] 64)).alloc (.cells #[.int .i64 y.f, .int .i64 y.t, .int .i64 y.k] 64) := ⟨_, rfl⟩
  have hg : w1 = grow W #[.cells #[.int .i64 x.f, .int .i64 x.t, .int .i64 x.k] 64, .cells #[.int .i64 y.f, .int .i64 y.t, .int .i64 y.k] 64] := by rw [hw1, alloc_eq_grow, alloc_eq_grow, grow_grow]; rfl
  have c0 : w1.cell? ⟨W.heap.size, 0, none⟩ = some (.int .i64 x.f) := by rw [hw1]; simp [go_sem]
  have c1 : w1.cell? ⟨W.heap.size, 1, none⟩ = some (.int .i64 x.t) := by rw [hw1]; simp [go_sem]
  have c2 : w1.cell? ⟨W.heap.size, 2, none⟩ = some (.int .i64 x.k) := by rw [hw1]; simp [go_sem]
  have d0 : w1.cell? ⟨W.heap.size + 1, 0, none⟩ = some (.int .i64 y.f) := by rw [hw1]; simp [go_sem]
  have d1 : w1.cell? ⟨W.heap.size + 1, 1, none⟩ = some (.int .i64 y.t) := by rw [hw1]; simp [go_sem]
  have d2 : w1.cell? ⟨W.heap.size + 1, 2, none⟩ = some (.int .i64 y.k) := by rw [hw1]; simp [go_sem]
  replace hg := Aside0.mk hg
  have up := fun o {p : Addr} {v : Value} (h : w1.cell? p = some v) => (((Below.refl _ w1).alloc (Nat.le_refl _) o).cell (World.block_lt_of_cell? _ _ h)).trans h
  rw [cmpDp_fst]
  generalize hA : cmpN x.f y.f = A
  generalize hB : cmpN x.t y.t = B
  generalize hC : cmpN x.k y.k = C
  have C1 := fun w => hA ▸ Compare38_calls x.f y.f w
  have C2 := fun w => hB ▸ Compare38_calls x.t y.t w
  have C3 := fun w => hC ▸ Compare38_calls x.k y.k w
  clear hA hB hC
  have OC := fun w h0 h1 h2 => Or3 w1.heap.size 3 A B C w h0 h1 h2
  generalize fst0 [A, B, C] = R at OC ⊢
  go_enter Try.func33, Try.ntmps33
  go_upto_region 1 with fail
  rw [← hw1]
  clear hw1
  go_region_held3 (fun V => V.cell? ⟨W.heap.size, 0, none⟩ = some (.int .i64 x.f) ∧ V.cell? ⟨W.heap.size, 1, none⟩ = some (.int .i64 x.t) ∧ V.cell? ⟨W.heap.size, 2, none⟩ = some (.int .i64 x.k) ∧ V.cell? ⟨W.heap.size + 1, 0, none⟩ = some (.int .i64 y.f) ∧ V.cell? ⟨W.heap.size + 1, 1, none⟩ = some (.int .i64 y.t) ∧ V.cell? ⟨W.heap.size + 1, 2, none⟩ = some (.int .i64 y.k))
    (first | exact ⟨c0, c1, c2, d0, d1, d2⟩ | exact ⟨up _ c0, up _ c1, up _ c2, up _ d0, up _ d1, up _ d2⟩)
    (first | (go_at_call 35; with_reducible refine (C1 _).mono ?_; rintro e w' ⟨rfl, rfl⟩) | (go_at_call 35; with_reducible refine (C2 _).mono ?_; rintro e w' ⟨rfl, rfl⟩) | (go_at_call 35; with_reducible refine (C3 _).mono ?_; rintro e w' ⟨rfl, rfl⟩) | (go_at_call 34; refine (OC _ (by simp [go_sem]) (by simp [go_sem]) (by simp [go_sem])).mono ?_; rintro e w' ⟨rfl, rfl⟩))
  go_wp2
  go_ret
  refine ⟨rfl, ?_⟩
  rw [hg.out]
  rw [alloc_eq_grow, grow_grow]
  exact ⟨1, _, rfl⟩
instance : Inhabited Dp := ⟨⟨0, 0, 0⟩⟩
set_option maxRecDepth 100000 in
theorem sortD_calls (W : World) (base : Nat) (ok : Nat → Prop) (v : Value) (xs : List Dp) (h : dD.R 64 W base ok v xs) (hl : xs.length < 4611686018427387904) :
    Calls Try.prog 55 #[v, .func (.func 33) #[] #[]] W fun e w' => e = .returned (.tuple #[]) ∧ dD.R 64 w' base ok v (srtC cmpDp xs) ∧ W.grownBy w' v.ownBlock := by
  obtain ⟨inner, ho⟩ := Kd.R_own h
  rcases ho.2 with ⟨rfl, hn⟩ | ⟨g, cap, cur, rfl, hb, hh, _⟩
  · obtain rfl : xs = [] := List.eq_nil_of_length_eq_zero hn
    refine (AnyF.slices_SortFunc_none Try.sortD none 0 _ W).mono ?_
    rintro e w' ⟨rfl, rfl⟩
    exact ⟨rfl, by rw [show srtC cmpDp [] = [] by simp [srtC]]; exact Kd.R_nil _ _ _ _ _, ⟨rfl, rfl, rfl, Nat.le_refl _, fun _ _ _ => rfl⟩⟩
  · have eg : ∀ args w, (callFunc 33 args).run Try.prog w = .ok (.enter 33 args) w := enters_of Try.func33 (by kernel_rfl) rfl
    have hlt : g < W.heap.size := (Array.getElem?_eq_some_iff.1 hh).1
    have hc : CmpLays Try.prog 33 #[] encD 3 cmpDp g 0 xs.toArray.size W := fun m os dk _ x y => closure36 x y _
    have hcon := AnyQ.slices_SortFunc_total Try.sortD 3 Try.isAgg64 Try.sizeOf64 encD (fun _ => rfl) encD_one cmpDp ord_Dp.swo 33 #[] g 0 cap xs.toArray W eg hc (flat_holds h) hlt (by simpa using hl) (ord_Dp.tot fun _ _ => cmpDp_eq)
    rw [show xs.toArray.size = xs.length from rfl] at hcon
    refine Calls.mono hcon ?_
    rintro e w' ⟨rfl, n, os, rfl⟩
    obtain ⟨h2, h3⟩ := flat_sorted h (srtC_length (c := cmpDp) xs) n os
    rw [srtC_length] at h2
    exact ⟨rfl, h2, h3⟩
/-! a row, its elements told by others -/
theorem flat_pull {α β : Type} {enc : α → List Value} {k : Nat} {hn : ∀ x, (enc x).length = k} {h1 : ∀ x, ∀ u ∈ enc x, u.oneCell' = true} (f : β → α) {e : Nat} {w : World} {base : Nat} {ok : Nat → Prop} {v : Value} {xs : List β} (h : (Kd.flat enc k hn h1).R e w base ok v (xs.map f)) :
    (Kd.flat (fun x => enc (f x)) k (fun x => hn (f x)) (fun x => h1 (f x))).R e w base ok v xs := by
  obtain ⟨h0, inner, ho, hr⟩ := h
  rw [List.length_map] at ho
  refine ⟨h0, inner, ho, by rw [hr.1, List.length_map]; rfl, fun j p hj => ?_⟩
  exact hr.2 j (f p) (by rw [List.getElem?_map, hj]; rfl)
theorem flat_push {α β : Type} {enc : α → List Value} {k : Nat} {hn : ∀ x, (enc x).length = k} {h1 : ∀ x, ∀ u ∈ enc x, u.oneCell' = true} (f : β → α) {e : Nat} {w : World} {base : Nat} {ok : Nat → Prop} {v : Value} {xs : List β} (h : (Kd.flat (fun x => enc (f x)) k (fun x => hn (f x)) (fun x => h1 (f x))).R e w base ok v xs) :
    (Kd.flat enc k hn h1).R e w base ok v (xs.map f) := by
  obtain ⟨h0, inner, ho, hr⟩ := h
  refine ⟨h0, inner, by rw [List.length_map]; exact ho, by rw [hr.1, List.length_map]; rfl, fun j p hj => ?_⟩
  rw [List.getElem?_map, Option.map_eq_some_iff] at hj
  obtain ⟨q, hq, rfl⟩ := hj
  exact hr.2 j q hq
end Go.Proofs.Ytedcnpaomphffaa
namespace Go.Proofs.Ytedcnpaomphffaa
open Go.RowKit Go.Maps Go.Sort Go.Lib Go.Shelf Go.Proofs.YtedcnpaomphffaaW.PrintWords Go.Proofs.YtedcnpaomphffaaW.PrintLast Go.Proofs.YtedcnpaomphffaaW.PrintMore
set_option linter.unusedVariables false
set_option linter.unusedSimpArgs false
set_option linter.unusedSectionVars false
/-! ### versions in order -/
set_option maxHeartbeats 2000000 in
set_option maxRecDepth 100000 in
theorem closure59 (p hb b n : Nat) (L : List (Int × Int)) (x y : Int) (W : World) (hp : W.cell? ⟨p, 0, none⟩ = some (.pointer (some ⟨hb, 0, none⟩))) (hm : W.cell? ⟨hb, 0, none⟩ = some (.map (some b))) (ht : TabP W b n L) (hx : okN x) (hy : okN y) :
    Calls Try.prog 42 #[.int .i64 x, .int .i64 y, .pointer (some ⟨p, 0, none⟩)] W fun e w' => e = .returned (.int .i64 (cmpN ((got L x).getD 0) ((got L y).getD 0))) ∧ ∃ q os', w' = grow (W.drewN q) os' := by
  have l1 := Tab.look1 (w := W.drew) (t := 60) keyN valI Try.underlying60 (show TabP W.drew b n L from ht.kept (drewG W) (by simp)) (zero3 _) hx
  have l2 := Tab.look1 (w := W.drew) (t := 60) keyN valI Try.underlying60 (show TabP W.drew b n L from ht.kept (drewG W) (by simp)) (zero3 _) hy
  have C1 := Compare38_calls ((got L x).getD 0) ((got L y).getD 0) W.drew
  generalize hA : (got L x).getD 0 = A at *
  generalize hB : (got L y).getD 0 = B at *
  generalize cmpN A B = R at *
  unfold mkN at l1 l2
  clear hx hy ht hA hB
  go_enter Try.func42, Try.ntmps42
  go_wp2_with fail
  go_region_held3 (fun V => V.cell? ⟨p, 0, none⟩ = some (.pointer (some ⟨hb, 0, none⟩)) ∧ V.cell? ⟨hb, 0, none⟩ = some (.map (some b))) (exact ⟨hp, hm⟩)
    (first | (go_at_call 35; with_reducible refine C1.mono ?_; rintro e w' ⟨rfl, rfl⟩))
  all_goals
    try go_wp2
    go_ret
    exact ⟨rfl, 1, #[], (grow_empty _).symm⟩
/-! the sort of whole numbers, compared by a table -/
abbrev InC (C : List Int) := {x : Int // x ∈ C}
def cmpC (C : List Int) (x y : InC C) : Int := cmpN (plc C x.1) (plc C y.1)
theorem ord_C (C : List Int) : Ord3 (cmpC C) := ord_N.by (fun x : InC C => plc C x.1)
theorem plc_inj {C : List Int} {x y : Int} (hx : x ∈ C) (hy : y ∈ C) (h : plc C x = plc C y) : x = y := by
  rw [(plc_mem hx).1, (plc_mem hy).1] at h
  have h' : C.idxOf x = C.idxOf y := by omega
  have e1 := List.getElem_idxOf (List.idxOf_lt_length_of_mem hx)
  have e2 := List.getElem_idxOf (List.idxOf_lt_length_of_mem hy)
  rw [← e1, ← e2]
  congr 1
theorem putRow_k1 {α : Type} [Inhabited α] (enc : α → Value) (w : World) (g : Nat) (d : Array α) : putRow enc w g 0 d = putRowK (fun x => [enc x]) 1 w g 0 d := by
  unfold putRowK putRow
  congr 1
  funext c
  unfold putCells
  refine Array.ext (by simp) fun i h1 h2 => ?_
  simp only [Array.getElem_mapIdx]
  by_cases hi : i < d.size
  · rw [if_pos ⟨by omega, by omega⟩, if_pos ⟨by omega, by simp; omega⟩]
    rw [Nat.sub_zero, get_flatK _ _ _ _ (by omega), Nat.mod_one]
    simp
  · rw [if_neg (by omega), if_neg (by simp; omega)]
theorem sortWorld_one {α : Type} [Inhabited α] (enc : α → Value) (w : World) (g m : Nat) (d : Array α) (os : Array Obj) : sortWorld enc w g 0 m d os = sortWorldK (fun x => [enc x]) 1 w g 0 m d os := by
  unfold sortWorld sortWorldK
  rw [putRow_k1]
theorem holds_one {α : Type} [Inhabited α] {enc : α → Value} {w : World} {g : Nat} {d : Array α} (h : HoldsK (fun x => [enc x]) 1 w g 0 d) : Holds enc w g 0 d := by
  intro j hj
  have := h j (by simp; omega)
  rw [get_flatK _ _ _ _ (by omega)] at this
  have e : j % 1 = 0 := Nat.mod_one j
  rw [e] at this
  simpa using this
set_option maxHeartbeats 1000000 in
set_option maxRecDepth 100000 in
theorem sortF_calls (C : List Int) (p hb b n : Nat) (L : List (Int × Int)) (W : World) (hp : W.cell? ⟨p, 0, none⟩ = some (.pointer (some ⟨hb, 0, none⟩))) (hm : W.cell? ⟨hb, 0, none⟩ = some (.map (some b))) (ht : TabP W b n L)
    (hL : ∀ c ∈ C, okN c ∧ got L c = some (plc C c)) (base : Nat) (ok : Nat → Prop) (v : Value) (xs : List (InC C)) (h : dI.R 3 W base ok v (xs.map (·.1))) (hl : xs.length < 4611686018427387904) (h1 : v.ownBlock ≠ some p) (h2 : v.ownBlock ≠ some hb) (h3 : v.ownBlock ≠ some b) :
    Calls Try.prog 41 #[v, .func (.func 42) #[] #[.pointer (some ⟨p, 0, none⟩)]] W fun e w' => e = .returned (.tuple #[]) ∧ dI.R 3 w' base ok v ((srtC (cmpC C) xs).map (·.1)) ∧ W.grownBy w' v.ownBlock := by
  obtain ⟨inner, ho⟩ := Kd.R_own h
  rcases ho.2 with ⟨rfl, hn⟩ | ⟨g, cap, cur, rfl, hbb, hh, _⟩
  · obtain rfl : xs = [] := List.map_eq_nil_iff.1 (List.eq_nil_of_length_eq_zero hn)
    refine (AnyF.slices_SortFunc_none Try.sortF none 0 _ W).mono ?_
    rintro e w' ⟨rfl, rfl⟩
    exact ⟨rfl, by rw [show srtC (cmpC C) [] = [] by simp [srtC]]; exact Kd.R_nil _ _ _ _ _, ⟨rfl, rfl, rfl, Nat.le_refl _, fun _ _ _ => rfl⟩⟩
  · have eg : ∀ args w, (callFunc 42 args).run Try.prog w = .ok (.enter 42 args) w := enters_of Try.func42 (by kernel_rfl) rfl
    have hlt : g < W.heap.size := (Array.getElem?_eq_some_iff.1 hh).1
    rcases xs with _ | ⟨x0, xs0⟩
    · refine (AnyF.slices_SortFunc_none Try.sortF (some ⟨g, 0, none⟩) cap _ W).mono ?_
      rintro e w' ⟨rfl, rfl⟩
      exact ⟨rfl, by rw [show srtC (cmpC C) [] = [] by simp [srtC]]; exact h, ⟨rfl, rfl, rfl, Nat.le_refl _, fun _ _ _ => rfl⟩⟩
    · letI : Inhabited (InC C) := ⟨x0⟩
      generalize x0 :: xs0 = xs at h hl
      rw [List.length_map] at h
      have h' := flat_pull (fun x : InC C => x.1) h
      have hc : CmpLays1 Try.prog 42 #[.pointer (some ⟨p, 0, none⟩)] (fun x : InC C => .int .i64 x.1) (cmpC C) g 0 xs.toArray.size W := fun m os dk hs x y => by
        have hg : W.grownBy (sortWorld (fun x : InC C => .int .i64 x.1) W g 0 m dk os) (some g) := by
          rw [sortWorld_one]
          have := (flat_sorted (ys := dk.toList) h' (by simpa using hs) m os).2
          rw [Array.toArray_toList] at this
          exact this
        have := closure59 p hb b n L x.1 y.1 _ (hg.cell hp (fun e => h1 e.symm)) (hg.cell hm (fun e => h2 e.symm)) (ht.kept hg (fun e => h3 e.symm)) (hL _ x.2).1 (hL _ y.2).1
        rw [(hL _ x.2).2, (hL _ y.2).2] at this
        exact this
      have hcon := Any.slices_SortFunc_total Try.sortFF (fun x : InC C => .int .i64 x.1) (fun _ => rfl) (cmpC C) (ord_C C).swo 42 #[.pointer (some ⟨p, 0, none⟩)] g 0 cap xs.toArray W eg hc (holds_one (flat_holds h')) hlt (by simpa using hl) ((ord_C C).tot fun x y e => Subtype.ext (plc_inj x.2 y.2 (cmpN_eq e)))
      rw [show xs.toArray.size = xs.length from rfl] at hcon
      rw [List.length_map]
      refine Calls.mono hcon ?_
      rintro e w' ⟨rfl, n, os, rfl⟩
      rw [sortWorld_one]
      obtain ⟨h4, h5⟩ := flat_sorted h' (srtC_length (c := cmpC C) xs) n os
      rw [srtC_length] at h4
      exact ⟨rfl, flat_push _ h4, h5⟩
/-- a row in order by place is the list of the versions -/
theorem vers_sorted {C : List Int} (hn : C.Nodup) {q : Int → Bool} {xs : List (InC C)} (hx : ∀ c, c ∈ xs.map (·.1) ↔ c ∈ C ∧ q c = true) (hnd : (xs.map (·.1)).Nodup) : (srtC (cmpC C) xs).map (·.1) = C.filter q := by
  have hC : C.Pairwise (fun a b => plc C a < plc C b) := by
    refine List.pairwise_iff_getElem.2 fun i j hi hj hij => ?_
    rw [(plc_mem (List.getElem_mem hi)).1, (plc_mem (List.getElem_mem hj)).1, hn.idxOf_getElem i hi, hn.idxOf_getElem j hj]
    omega
  have hF := hC.sublist (List.filter_sublist (p := q))
  have hin : ∀ x ∈ C.filter q, x ∈ C := fun x hx => (List.mem_filter.1 hx).1
  have e : C.filter q = ((C.filter q).attachWith (· ∈ C) hin).map (·.1) := (List.attachWith_map_subtype_val hin).symm
  rw [e]
  congr 1
  have nd : (srtC (cmpC C) xs).Nodup := (srtC_perm xs).nodup_iff.2 (List.pairwise_map.1 hnd |>.imp fun {a b} h e => h (by rw [e]))
  refine strictC_unique (ord_C C) (fun x y e => Subtype.ext (plc_inj x.2 y.2 (cmpN_eq e))) ?_ ?_ ?_
  · refine ((srtC_rising (ord_C C) xs).and (List.nodup_iff_pairwise_ne.1 nd)).imp fun {a b} hab => ?_
    rcases Int.lt_or_eq_of_le hab.1 with h | h
    · exact h
    · exact absurd (Subtype.ext (plc_inj a.2 b.2 (cmpN_eq h))) hab.2
  · rw [e] at hF
    rw [List.pairwise_map] at hF
    exact hF.imp fun {a b} h => cmpN_lt.2 h
  · intro x
    rw [(srtC_perm xs).mem_iff, List.mem_attachWith]
    constructor
    · intro hm
      exact List.mem_filter.2 ((hx x.1).1 (List.mem_map.2 ⟨x, hm, rfl⟩))
    · intro hm
      obtain ⟨y, hy, e⟩ := List.mem_map.1 ((hx x.1).2 (List.mem_filter.1 hm))
      rwa [← Subtype.ext e]
end Go.Proofs.Ytedcnpaomphffaa
namespace Go.Proofs.Ytedcnpaomphffaa
open Go.RowKit Go.Maps Go.Sort Go.Lib Go.Shelf Go.Proofs.YtedcnpaomphffaaW.PrintWords Go.Proofs.YtedcnpaomphffaaW.PrintLast Go.Proofs.YtedcnpaomphffaaW.PrintMore
set_option linter.unusedVariables false
set_option linter.unusedSimpArgs false
set_option linter.unusedSectionVars false
/-! ### the writers of an item, as they lie -/
/-- the transactions that write an item, in the order of the acts -/
def wts (A : List Ac) (item : ByteArray) : List Int := (A.filter (fun a => a.wr && (a.item.toList == item.toList))).map (·.t)
theorem mem_wts {A : List Ac} {item : ByteArray} {t : Int} : t ∈ wts A item ↔ wrs A t item = true := by
  unfold wts
  rw [List.mem_map, wrs_iff]
  constructor
  · rintro ⟨a, ha, rfl⟩
    rw [List.mem_filter] at ha
    simp only [Bool.and_eq_true, beq_iff_eq] at ha
    exact ⟨a, ha.1, ha.2.1, rfl, ha.2.2⟩
  · rintro ⟨a, h1, h2, h3, h4⟩
    refine ⟨a, List.mem_filter.2 ⟨h1, ?_⟩, h3⟩
    simp only [Bool.and_eq_true, beq_iff_eq]
    exact ⟨h2, h4⟩
theorem wts_snoc (A : List Ac) (a : Ac) (item : ByteArray) : wts (A ++ [a]) item = if a.wr = true ∧ item = a.item then wts A item ++ [a.t] else wts A item := by
  unfold wts
  rw [List.filter_append, List.map_append]
  by_cases h1 : a.wr = true
  · by_cases h2 : item = a.item
    · subst h2
      rw [if_pos ⟨h1, rfl⟩]
      simp [h1]
    · rw [if_neg (fun e => h2 e.2)]
      have : (a.item.toList == item.toList) = false := by
        rw [beq_eq_false_iff_ne]
        exact fun e => h2 (toList_inj e).symm
      simp [this]
  · rw [if_neg (fun e => h1 e.1)]
    simp [h1]
theorem wts_len (A : List Ac) (item : ByteArray) : (wts A item).length ≤ A.length := by
  unfold wts
  rw [List.length_map]
  exact List.length_filter_le _ _
theorem wts_nodup {A : List Ac} (h : A.Pairwise (fun a b => ¬ (a.wr = true ∧ b.wr = true ∧ a.t = b.t ∧ a.item.toList = b.item.toList))) (item : ByteArray) : (wts A item).Nodup := by
  unfold wts
  rw [List.nodup_iff_pairwise_ne, List.pairwise_map, List.pairwise_filter]
  refine h.imp fun {a b} k h1 h2 e => ?_
  simp only [Bool.and_eq_true, beq_iff_eq] at h1 h2
  exact k ⟨h1.1, h2.1, e, h1.2.trans h2.2.symm⟩
/-- the acts of a history, as far as the second loop has seen them -/
structure Seen (C : List Int) (A : List Ac) : Prop where
  inC : ∀ a ∈ A, a.t ∈ C
  wv : ∀ a ∈ A, a.wr = true → a.v = 0
  once : A.Pairwise (fun a b => ¬ (a.wr = true ∧ b.wr = true ∧ a.t = b.t ∧ a.item.toList = b.item.toList))
theorem Seen.snoc {C : List Int} {A : List Ac} (h : Seen C A) {a : Ac} (h1 : a.t ∈ C) (h2 : a.wr = true → a.v = 0) (h3 : a.wr = true → wrs A a.t a.item = false) : Seen C (A ++ [a]) where
  inC := fun x hx => by
    rcases List.mem_append.1 hx with hx | hx
    · exact h.inC x hx
    · rw [List.mem_singleton.1 hx]; exact h1
  wv := fun x hx => by
    rcases List.mem_append.1 hx with hx | hx
    · exact h.wv x hx
    · rw [List.mem_singleton.1 hx]; exact h2
  once := by
    rw [List.pairwise_append]
    refine ⟨h.once, List.pairwise_singleton _ _, fun x hx y hy k => ?_⟩
    rw [List.mem_singleton.1 hy] at k
    have e := h3 k.2.1
    have : wrs A a.t a.item = true := wrs_iff.2 ⟨x, hx, k.1, k.2.2.1, k.2.2.2⟩
    rw [e] at this
    cases this
/-! a row's value -/
theorem row_sv {W : World} {base : Nat} {ok : Nat → Prop} {v : Value} {xs : List Int} (h : dI.R 3 W base ok v xs) : ∃ s : Sv, v = mvS s ∧ (∀ g n c, s = some (g, n, c) → n = xs.length) ∧ (s = none → xs = []) := by
  obtain ⟨inner, ho⟩ := Kd.R_own h
  rcases ho.2 with ⟨rfl, hn⟩ | ⟨g, cap, cur, rfl, hbb, hh, _⟩
  · exact ⟨none, rfl, fun _ _ _ e => by (cases e), fun _ => List.eq_nil_of_length_eq_zero hn⟩
  · exact ⟨some (g, xs.length, cap), rfl, fun _ _ _ e => by injection e with e; injection e with _ e; injection e with e _; exact e.symm, fun e => by cases e⟩
theorem row_grown {W w' : World} {base : Nat} {ok : Nat → Prop} {v : Value} {xs : List Int} {q : Option Nat} (h : dI.R 3 W base ok v xs) (hg : W.grownBy w' q) (hne : ∀ k, v.ownBlock = some k → q ≠ some k) : dI.R 3 w' base ok v xs := by
  obtain ⟨h0, rest⟩ := h
  have h' : dI.R 3 W base (fun k => v.ownBlock = some k) v xs := ⟨fun k hk => hk, rest⟩
  exact ⟨h0, (Kd.R_grown h' hg (fun k hk e => hne k hk e.symm)).2⟩
structure Vs (w : World) (base b : Nat) (L : List (ByteArray × Sv)) (R : ByteArray → List Int) : Prop where
  tab : TabV w b L.length L
  rows : ∀ e ∈ L, dI.R 3 w base (fun _ => True) (mvS e.2) (R e.1)
  apart : ∀ e ∈ L, ∀ e' ∈ L, e.1 ≠ e'.1 → ∀ k, (mvS e.2).ownBlock = some k → (mvS e'.2).ownBlock ≠ some k
  off : ∀ t, got L t = none → R t = []
section
variable {w w' : World} {base b : Nat} {L : List (ByteArray × Sv)} {R : ByteArray → List Int}
theorem Vs.row (h : Vs w base b L R) (t : ByteArray) : dI.R 3 w base (fun _ => True) (mvS ((got L t).getD none)) (R t) := by
  cases hg : got L t with
  | none => rw [h.off t hg]; exact Kd.R_nil _ _ _ _ _
  | some s => exact h.rows (t, s) (got_mem hg)
theorem Vs.beside (h : Vs w base b L R) {q : Option Nat} (hg : w.grownBy w' q) (hb : q ≠ some b) (hr : ∀ e ∈ L, ∀ k, (mvS e.2).ownBlock = some k → q ≠ some k) : Vs w' base b L R where
  tab := h.tab.kept hg (fun e => hb e.symm)
  rows := fun e he => row_grown (h.rows e he) hg (fun k hk => hr e he k hk)
  apart := h.apart
  off := h.off
theorem Vs.kept (h : Vs w base b L R) (hg : w.grownBy w' none) : Vs w' base b L R := h.beside hg (by simp) (fun _ _ _ _ => by simp)
theorem Vs.typed (h : Vs w base b L R) {e : ByteArray × Sv} (he : e ∈ L) {k : Nat} (hk : (mvS e.2).ownBlock = some k) : base ≤ k ∧ k < w.heap.size ∧ ∃ cells, w.heap[k]? = some (.cells cells 3 (0, 0)) := flat_typed (h.rows e he) k hk
theorem Vs.low (h : Vs w base b L R) {q : Nat} (hq : q < base) (hg : w.grownBy w' (some q)) (hb : q ≠ b) : Vs w' base b L R := h.beside hg (fun e => hb (by injection e)) (fun e he k hk e2 => by
  have := (h.typed he hk).1
  injection e2 with e2
  omega)
/-- a row of the table, put in -/
theorem Vs.put {w2 : World} {item : ByteArray} {s : Sv} {l : List Int} {n : Nat} (h : Vs w base b L R) (hg : w.grownBy w' (mvS ((got L item).getD none)).ownBlock) (hbb : b < base) (hrow : dI.R 3 w' base (fun _ => True) (mvS s) l) (hown : (mvS s).ownBlock = (mvS ((got L item).getD none)).ownBlock ∨ ∃ k, (mvS s).ownBlock = some k ∧ w.heap.size ≤ k)
    (hT : TabV w2 b n (upd L item s)) (hm : w'.mapTurned w2 b) : Vs w2 base b (upd L item s) (fun t => if t = item then l else R t) := by
  have tidy := h.tab.tidy
  have hother : ∀ e ∈ L, e.1 ≠ item → ∀ k, (mvS e.2).ownBlock = some k → (mvS ((got L item).getD none)).ownBlock ≠ some k := by
    intro e he hne k hk
    cases hgt : got L item with
    | none => intro e2; cases e2
    | some s0 => exact h.apart e he (item, s0) (got_mem hgt) hne k hk
  have up : ∀ v xs, dI.R 3 w' base (fun _ => True) v xs → dI.R 3 w2 base (fun _ => True) v xs := fun v xs hr => row_grown hr (turned_grown hm) (fun k hk e => by
    have := (flat_typed hr _ hk).1
    injection e with e
    omega)
  have hs' : ∀ e ∈ L, e.1 ≠ item → ∀ k, (mvS e.2).ownBlock = some k → (mvS s).ownBlock ≠ some k := by
    intro e he hne k hk
    rcases hown with h1 | ⟨k', h1, h2⟩
    · rw [h1]; exact hother e he hne k hk
    · rw [h1]
      intro e2
      injection e2 with e2
      have := (h.typed he hk).2.1
      omega
  refine ⟨hT.exact, fun e he => ?_, fun e he e' he' hne k hk => ?_, fun t ht => ?_⟩
  · rcases (upd_mem tidy _ _ e).1 he with rfl | ⟨h1, h2⟩
    · show dI.R 3 _ base _ _ (if item = item then l else R item)
      rw [if_pos rfl]
      exact up _ _ hrow
    · rw [if_neg h2]
      exact up _ _ (row_grown (h.rows e h1) hg (fun k hk => hother e h1 h2 k hk))
  · rcases (upd_mem tidy _ _ e).1 he with rfl | ⟨h1, h2⟩
    · rcases (upd_mem tidy _ _ e').1 he' with rfl | ⟨h3, h4⟩
      · exact absurd rfl hne
      · intro e2
        exact hs' e' h3 h4 k e2 hk
    · rcases (upd_mem tidy _ _ e').1 he' with rfl | ⟨h3, h4⟩
      · exact hs' e h1 h2 k hk
      · exact h.apart e h1 e' h3 hne k hk
  · rw [got_upd tidy] at ht
    split at ht
    · cases ht
    · rename_i hne
      rw [if_neg hne]
      exact h.off t ht
/-- one row turned in its place -/
theorem Vs.turn (h : Vs w base b L R) {item : ByteArray} {s : Sv} (hs : (item, s) ∈ L) {l : List Int} (hg : w.grownBy w' (mvS s).ownBlock) (hbb : b < base) (hrow : dI.R 3 w' base (fun _ => True) (mvS s) l) : Vs w' base b L (fun t => if t = item then l else R t) where
  tab := h.tab.kept hg (fun e => by have := (h.typed hs e.symm).1; omega)
  rows := fun e he => by
    by_cases hne : e.1 = item
    · have : e.2 = s := by
        have e1 := mem_got h.tab.tidy hs
        have e2 := mem_got h.tab.tidy (show (item, e.2) ∈ L by rw [← hne]; exact he)
        rw [e1] at e2
        injection e2 with e2
        exact e2.symm
      rw [if_pos hne, this]
      exact hrow
    · rw [if_neg hne]
      exact row_grown (h.rows e he) hg (fun k hk => h.apart e he (item, s) hs hne k hk)
  apart := h.apart
  off := fun t ht => by
    have hne : t ≠ item := fun e => by
      rw [e, mem_got h.tab.tidy hs] at ht
      cases ht
    rw [if_neg hne]
    exact h.off t ht
end
/-- an append to a row of whole numbers -/
theorem row_app {W : World} {base : Nat} {v : Value} {xs : List Int} (h : dI.R 3 W base (fun _ => True) v xs) (x : Int) (hl : xs.length ≤ 65536) (hbase : base ≤ W.heap.size) :
    ∃ v' w', (Builtin.append_ #[22, 22] 22 #[v, .slice (some ⟨W.heap.size, 0, none⟩) 1 1]).run Try.prog (W.alloc (.cells #[.int .i64 x] 3)) = .ok v' w' ∧ dI.R 3 w' base (fun _ => True) v' (xs ++ [x]) ∧ W.grownBy w' v.ownBlock ∧ (v'.ownBlock = v.ownBlock ∨ ∃ k, v'.ownBlock = some k ∧ W.heap.size ≤ k) := by
  obtain ⟨_, inner, ho, hr⟩ := h
  obtain ⟨i0, hi0, hzz⟩ := Option.map_eq_some_iff.1 info3
  simp only [Prod.mk.injEq] at hzz
  obtain ⟨hz0, hz1, hz2⟩ := hzz
  obtain ⟨v', w', hr', ho', hg, _, hown⟩ := run_append_own_at (P := Try.prog) (w := W.alloc (.cells #[.int .i64 x] 3)) base 22 22 3 i0 _ _ _ Try.underlying22 hi0 hz0 hz1 hz2 rfl (by decide) v xs.length inner (World.ownsRow.alloc ho _) ⟨W.heap.size, 0, none⟩ 1 1 (encI x) rfl
    (by simpa [encI] using World.news_of_block (cs := #[.int .i64 x]) (t := 3) (fr := (0, 0)) (heap_alloc_new W (.cells #[.int .i64 x] 3))) (encI_one x) (by simp only [maxLen]; omega) (by omega) (by simp; omega)
  refine ⟨v', w', hr', ⟨fun _ _ => trivial, _, by rw [List.length_append]; exact ho', hr.snoc rfl rfl⟩, trans_grown (World.grownBy_alloc W _ _) hg, ?_⟩
  rcases hown with h1 | h1
  · exact .inl h1
  · exact .inr ⟨_, h1, by simp⟩
end Go.Proofs.Ytedcnpaomphffaa
