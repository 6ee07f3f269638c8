import Derived.Test.YtoeefamnglbakaaA
import Derived.Deep.Slices
import Derived.SizedLaws
import Derived.OpenShut
import Derived.ProofKit
namespace Go.Proofs.Ytoeefamnglbakaa
open Go.ChangeShapes Go.WideShapes Go.ChangeAt Go.RowKit Go.Proofs.YtoeefamnglbakaaW.PrintWords Go.Proofs.YtoeefamnglbakaaW.PrintLast Go.Proofs.YtoeefamnglbakaaW.PrintMore
open Go.Deep (open_slice)
set_option linter.unusedVariables false
section
variable {H : Type} {enc : TypeId × Value → H} {P : Program} {w : World} {base : Nat} {spare : Nat → Bool} {held : Bool}
def Light (P : Program) (t : TypeId) (d : DataW H) : Prop := ∀ n ∈ d.weights P t, n ≤ reachBytes
theorem light_of {ts : List TypeId} {ds : List (DataW H)} (h : (DataW.weightsEach P ts ds).all (· ≤ reachBytes) = true) {j : Nat} {t : TypeId} {d : DataW H} (ht : ts[j]? = some t) (hd : ds[j]? = some d) : Light P t d := by
  intro n hn
  simpa using List.all_eq_true.1 h _ (DataW.weights_mem_each ht hd n hn)
theorem light_field {t : TypeId} {fs : Array Field} (ht : P.underlying t = some (.struct fs)) {ds : List (DataW H)} (h : Light P t (.agg ds)) {j : Nat} {f : Field} {d : DataW H} (hf : fs[j]? = some f) (hd : ds[j]? = some d) : Light P f.type d := by
  intro n hn
  refine h n ?_
  simp only [DataW.weights, ht]
  exact DataW.weights_mem_each (j := j) (by rw [List.getElem?_map, Array.getElem?_toList, hf]; rfl) hd n hn
theorem weightsAll_mem {e : TypeId} : ∀ {l : List (DataW H)} {d : DataW H}, d ∈ l → ∀ n ∈ d.weights P e, n ∈ DataW.weightsAll P e l
  | x :: l, d, h, n, hn => by
    unfold DataW.weightsAll
    rcases List.mem_cons.1 h with rfl | h
    · exact List.mem_append_left _ hn
    · exact List.mem_append_right _ (weightsAll_mem h n hn)
theorem light_elem {t e : TypeId} (ht : P.underlying t = some (.slice e)) {l s : List (DataW H)} (h : Light P t (.slice l s)) {d : DataW H} (hd : d ∈ l) : Light P e d := by
  intro n hn
  refine h n ?_
  simp only [DataW.weights, ht]
  exact List.mem_cons_of_mem _ (List.mem_append_left _ (weightsAll_mem hd n hn))
theorem light_len {t e : TypeId} (ht : P.underlying t = some (.slice e)) {l s : List (DataW H)} (h : Light P t (.slice l s)) : (l.length + s.length) * P.bytesOf e ≤ reachBytes := by
  refine h _ ?_
  simp only [DataW.weights, ht]
  exact List.mem_cons_self
/-- what a reading by the form says of the cells -/
def Opens (enc : TypeId × Value → H) (P : Program) (w : World) (base : Nat) (spare : Nat → Bool) (held : Bool) (t : TypeId) {α : Type} (d : Kd α) (G : α → Prop) : Prop :=
  ∀ fuel cs y, DataW.trod enc P w base spare held fuel t cs = some y → Light P t y.1 → ∃ x, d.K w x cs ∧ G x
theorem opens_int {t : TypeId} {k : IntKind} (ht : P.underlying t = some (.int k)) : Opens enc P w base spare held t (Kd.int k) (fun x => (Lit.int k x).wf = true) := by
  intro fuel cs y h _
  obtain ⟨n, rfl, _, hw⟩ := DataW.trod_int ht h
  exact ⟨n, rfl, hw⟩
theorem opens_bool {t : TypeId} (ht : P.underlying t = some .bool) : Opens enc P w base spare held t Kd.bool (fun _ => True) := by
  intro fuel cs y h _
  obtain ⟨n, rfl, _⟩ := DataW.trod_bool ht h
  exact ⟨n, rfl, trivial⟩
theorem opens_string {t : TypeId} (ht : P.underlying t = some .string) : Opens enc P w base spare held t Kd.string (fun s => s.size ≤ reachBytes) := by
  intro fuel cs y h hl
  obtain ⟨s, rfl, rfl, _⟩ := DataW.trod_string ht h
  refine ⟨s, rfl, ?_⟩
  have := hl s.data.toList.length (by simp [DataW.weights])
  rwa [Array.length_toList] at this
theorem list_of {α : Type} {R : Nat → α → Prop} : ∀ n : Nat, (∀ i, i < n → ∃ x, R i x) → ∃ xs : List α, xs.length = n ∧ ∀ i x, xs[i]? = some x → R i x
  | 0, _ => ⟨[], rfl, by simp⟩
  | n + 1, h => by
    obtain ⟨xs, hl, hx⟩ := list_of n (fun i hi => h i (by omega))
    obtain ⟨x, hr⟩ := h n (by omega)
    refine ⟨xs ++ [x], by simp [hl], fun i y hy => ?_⟩
    rcases Nat.lt_trichotomy i n with hi | hi | hi
    · rw [List.getElem?_append_left (by omega)] at hy
      exact hx i y hy
    · subst hi
      rw [List.getElem?_append_right (by omega)] at hy
      simp [hl] at hy
      subst hy
      exact hr
    · rw [List.getElem?_eq_none (by simp; omega)] at hy
      cases hy
theorem opens_C {t e : TypeId} {α : Type} {d : Kd α} {G : α → Prop} (ht : P.underlying t = some (.slice e)) (hC : P.cellsOf e = d.sz) (he : Opens enc P w base spare held e d G)
    {fuel : Nat} {cs : List Value} {y : DataW H × List MemPlace} (h : DataW.trod enc P w base spare held fuel t cs = some y) (hl : Light P t y.1) :
    ∃ A c xs, cs = [.slice A xs.length c] ∧ xs.length ≤ c ∧ c ≤ maxLen ∧ d.C w A xs.length xs ∧ xs.length * P.bytesOf e ≤ reachBytes ∧ ∀ x ∈ xs, G x := by
  rcases open_slice ht h with ⟨rfl, rfl⟩ | ⟨a, len, cap, m, n, D, Pl, rfl, hb, hlc, hcm, hm, rfl, hel⟩
  · exact ⟨none, 0, [], rfl, Nat.le_refl _, Nat.zero_le _, Kd.C_nil _ _, by simp, by simp⟩
  · have hlm : len ≤ m := by rw [hm]; split <;> omega
    have hx : ∀ i, i < len → ∃ x, (∃ c, c.length = d.sz ∧ d.K w x c ∧ ∀ j u, c[j]? = some u → w.cell? (a.add (i * d.sz + j)) = some u) ∧ G x := by
      intro i hi
      obtain ⟨cs', hc, ht'⟩ := hel i (by omega)
      rw [hC] at hc
      obtain ⟨x, hk, hg⟩ := he _ _ _ ht' (light_elem ht hl (List.mem_map.2 ⟨i, by simpa using hi, rfl⟩))
      obtain ⟨_, hcl, hat⟩ := World.cells?_some hc
      refine ⟨x, ⟨cs', d.K_len hk, hk, fun j u hu => ?_⟩, hg⟩
      have hj : j < d.sz := by
        rcases Nat.lt_or_ge j cs'.length with h | h
        · rw [← d.K_len hk]; exact h
        · rw [List.getElem?_eq_none h] at hu; cases hu
      have := hat j hj
      rw [← this] at hu
      rw [← Go.Deep.add_add]
      exact hu
    obtain ⟨xs, hxl, hxs⟩ := list_of len hx
    subst hxl
    have hw := light_len ht hl
    refine ⟨some a, cap, xs, rfl, hlc, hcm, ⟨rfl, by simp only [maxLen] at hcm; omega, fun _ => ⟨a, rfl, fun j p hp => (hxs j p hp).1⟩⟩, ?_, fun x hx => ?_⟩
    · refine Nat.le_trans (Nat.mul_le_mul_right _ ?_) hw
      simp
    · obtain ⟨i, hi⟩ := List.mem_iff_getElem?.1 hx
      exact (hxs i x hi).2
end
/-! ### a struct's cells, field by field -/
section
variable {H : Type} {enc : TypeId × Value → H} {P : Program} {w : World} {base : Nat} {spare : Nat → Bool} {held : Bool}
theorem opens_fields {t : TypeId} {fs : Array Field} (ht : P.underlying t = some (.struct fs)) {fuel : Nat} {cs : List Value} {y : DataW H × List MemPlace} (h : DataW.trod enc P w base spare held fuel t cs = some y) (hl : Light P t y.1) :
    cs.length = P.cellsOf t ∧ ∀ (i : Nat) (f : Field), fs[i]? = some f → ∃ n y', DataW.trod enc P w base spare held n f.type ((cs.drop f.offset).take (P.cellsOf f.type)) = some y' ∧ Light P f.type y'.1 := by
  obtain ⟨xs, n, _, rfl, hc, hxl, hf⟩ := DataW.trod_struct ht h
  refine ⟨hc, fun i f hi => ?_⟩
  have hlt : i < xs.length := by rw [hxl]; exact (Array.getElem?_eq_some_iff.1 hi).1
  have h1 := hf i f hi
  rw [List.getElem?_eq_getElem hlt] at h1
  exact ⟨n, _, h1, light_field ht hl hi (by rw [List.getElem?_map, List.getElem?_eq_getElem hlt]; rfl)⟩
theorem opens_param {t : TypeId} {fs : Array Field} (ht : P.underlying t = some (.struct fs)) {r : Reach} {b0 : Nat} {v : Value} {d : DataW H} {p : List MemPlace} (hv : Value.okWide P w r b0 t v) (h : DataW.Trod enc P w base spare held t v d p) (hl : Light P t d) :
    ∃ cs : List Value, v = .agg cs.toArray ∧ cs.length = P.cellsOf t ∧ ∀ (i : Nat) (f : Field), fs[i]? = some f → ∃ n y', DataW.trod enc P w base spare held n f.type ((cs.drop f.offset).take (P.cellsOf f.type)) = some y' ∧ Light P f.type y'.1 := by
  obtain ⟨ca, rfl, hsz⟩ := okWide_struct ht hv
  obtain ⟨fuel, hf⟩ := h
  obtain ⟨cs⟩ := ca
  obtain ⟨hc, hff⟩ := opens_fields ht hf hl
  exact ⟨cs, rfl, by simpa using hsz, hff⟩
end
def FldAt {H : Type} (enc : TypeId × Value → H) (P : Program) (w : World) (base : Nat) (spare : Nat → Bool) (held : Bool) (cs : List Value) (ty off : Nat) : Prop :=
  ∃ n y', DataW.trod enc P w base spare held n ty ((cs.drop off).take (P.cellsOf ty)) = some y' ∧ Light P ty y'.1
/-! ### the arguments that are structs -/
structure Th where
  U : Int
  N : Int
  S : ByteArray
  A3 : Option Addr
  c3 : Nat
  l3 : List Int
  A4 : Option Addr
  c4 : Nat
  l4 : List Int
def Th.cells (x : Th) : Array Value := #[.int .u64 x.U, .int .i64 x.N, .string x.S, .slice x.A3 x.l3.length x.c3, .slice x.A4 x.l4.length x.c4]
structure Th.OK (w : World) (x : Th) : Prop where
  u0 : 0 ≤ x.U
  u1 : x.U ≤ 18446744073709551615
  n0 : -9223372036854775808 ≤ x.N
  n1 : x.N ≤ 9223372036854775807
  s : x.S.size ≤ 140737488351232
  C3 : Kd.C (Kd.int .u8) w x.A3 x.l3.length x.l3
  c3 : x.l3.length ≤ x.c3
  b3 : bytesOK x.l3
  m3 : x.l3.length ≤ 140737488351232
  C4 : Kd.C (Kd.int .u8) w x.A4 x.l4.length x.l4
  c4 : x.l4.length ≤ x.c4
  b4 : bytesOK x.l4
  m4 : x.l4.length ≤ 140737488351232
theorem cells1 {cs : List Value} {v : Value} {i : Nat} (h : cs[i]? = some v) : (cs.drop i).take 1 = [v] := by
  obtain ⟨hi, rfl⟩ := List.getElem?_eq_some_iff.1 h
  rw [List.drop_eq_getElem_cons hi]; rfl
section
variable {H : Type} {enc : TypeId × Value → H} {w : World} {base : Nat} {spare : Nat → Bool} {held : Bool}
theorem bytes_field {n : Nat} {cs : List Value} {y : DataW H × List MemPlace} (h : DataW.trod enc Try.prog w base spare held n 22 cs = some y) (hl : Light Try.prog 22 y.1) :
    ∃ A c l, cs = [.slice A l.length c] ∧ Kd.C (Kd.int .u8) w A l.length l ∧ l.length ≤ c ∧ bytesOK l ∧ l.length ≤ 140737488351232 := by
  obtain ⟨A, c, l, e, h1, h2, h3, h4, h5⟩ := opens_C (d := Kd.int .u8) Try.underlying22 (by kernel_rfl) (opens_int (k := .u8) Try.underlying5) h hl
  refine ⟨A, c, l, e, h3, h1, fun x hx => ?_, ?_⟩
  · have := bounds_u8 (h5 x hx); omega
  · have : Try.prog.bytesOf 5 = 1 := by kernel_rfl
    rw [this] at h4
    simpa [reachBytes] using h4
theorem open_things {ts : List TypeId} {ds : List (DataW H)} (hsz : (DataW.weightsEach Try.prog ts ds).all (· ≤ reachBytes) = true) {j : Nat} {r : Reach} {b0 : Nat} {v : Value} {d : DataW H} {p : List MemPlace} (ht : ts[j]? = some 39) (hd : ds[j]? = some d)
    (hv : Value.okWide Try.prog w r b0 39 v) (h : DataW.Trod enc Try.prog w base spare held 39 v d p) : ∃ x : Th, v = .agg x.cells ∧ x.OK w := by
  obtain ⟨cs, rfl, hc, hf⟩ := opens_param Try.underlying39 hv h (light_of hsz ht hd)
  have hc5 : cs.length = 5 := hc.trans (by kernel_rfl)
  match cs, hc5 with
  | [v0, v1, v2, v3, v4], _ =>
    have f0 : FldAt enc Try.prog w base spare held [v0, v1, v2, v3, v4] 27 0 := hf 0 _ rfl
    obtain ⟨n0, y0, t0, g0⟩ := f0
    have f1 : FldAt enc Try.prog w base spare held [v0, v1, v2, v3, v4] 2 1 := hf 1 _ rfl
    obtain ⟨n1, y1, t1, g1⟩ := f1
    have f2 : FldAt enc Try.prog w base spare held [v0, v1, v2, v3, v4] 9 2 := hf 2 _ rfl
    obtain ⟨n2, y2, t2, g2⟩ := f2
    have f3 : FldAt enc Try.prog w base spare held [v0, v1, v2, v3, v4] 22 3 := hf 3 _ rfl
    obtain ⟨n3, y3, t3, g3⟩ := f3
    have f4 : FldAt enc Try.prog w base spare held [v0, v1, v2, v3, v4] 22 4 := hf 4 _ rfl
    obtain ⟨n4, y4, t4, g4⟩ := f4
    have k27 : Try.prog.cellsOf 27 = 1 := by kernel_rfl
    have k2 : Try.prog.cellsOf 2 = 1 := by kernel_rfl
    have k9 : Try.prog.cellsOf 9 = 1 := by kernel_rfl
    have k22 : Try.prog.cellsOf 22 = 1 := by kernel_rfl
    simp only [k27, k2, k9, k22, List.drop_zero, List.drop_succ_cons, List.take_succ_cons, List.take_zero] at t0 t1 t2 t3 t4
    obtain ⟨U, e0, w0⟩ := opens_int (k := .u64) Try.underlying27 _ _ _ t0 g0
    obtain ⟨N, e1, w1⟩ := opens_int (k := .i64) Try.underlying2 _ _ _ t1 g1
    obtain ⟨S, e2, w2⟩ := opens_string Try.underlying9 _ _ _ t2 g2
    obtain ⟨A3, c3, l3, e3, q1, q2, q3, q4⟩ := bytes_field t3 g3
    obtain ⟨A4, c4, l4, e4, r1, r2, r3, r4⟩ := bytes_field t4 g4
    cases e0; cases e1; cases e2; cases e3; cases e4
    have b0 := bounds_u64 w0
    have b1 := bounds_i64 w1
    exact ⟨⟨U, N, S, A3, c3, l3, A4, c4, l4⟩, rfl, ⟨b0.1, b0.2, b1.1, b1.2, by simpa [reachBytes] using w2, q1, q2, q3, q4, r1, r2, r3, r4⟩⟩
end
end Go.Proofs.Ytoeefamnglbakaa
