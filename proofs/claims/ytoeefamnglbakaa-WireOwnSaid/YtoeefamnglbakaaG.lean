import Derived.Test.YtoeefamnglbakaaF
import Derived.Deep.QuietTactic
import Derived.BigQuiet
namespace Go.Proofs.Ytoeefamnglbakaa
open Go.RowKit Go.Proofs.YtoeefamnglbakaaW.PrintWords Go.Proofs.YtoeefamnglbakaaW.PrintLast Go.Proofs.YtoeefamnglbakaaW.PrintMore
set_option linter.unusedVariables false
set_option linter.unusedSimpArgs false
attribute [local go_sem] t3 ts
/-! ### four bytes -/
def w4 (n : Int) : List Int := [n % 256, n / 256 % 256, n / 65536 % 256, n / 16777216 % 256]
def un4 (l : List Int) (a : Int) : Int := rd l a + rd l (a + 1) * 256 + rd l (a + 2) * 65536 + rd l (a + 3) * 16777216
theorem rd_ok {l : List Int} (h : bytesOK l) (a : Int) : 0 ≤ rd l a ∧ rd l a < 256 := by
  unfold rd
  rcases Nat.lt_or_ge a.toNat l.length with k | k
  · rw [List.getD_eq_getElem?_getD, List.getElem?_eq_getElem k]
    exact h _ (List.getElem_mem k)
  · rw [List.getD_eq_getElem?_getD, List.getElem?_eq_none k]
    simp
theorem or_u32 (x y : Int) (i : Nat) (hy0 : 0 ≤ y) (hx0 : 0 ≤ x) (hy : y % 2 ^ i = 0) (hx : x < 2 ^ i) (hy1 : y < 4294967296) (hx1 : x < 4294967296) : bits .or .u32 x y = x + y := by
  rw [u32_or x y hx0 hx1 hy0 hy1, Nat.or_comm, nat_join i y.toNat x.toNat _ _]
  · omega
  · have : ((y.toNat % 2 ^ i : Nat) : Int) = 0 := by
      rw [Int.natCast_emod, Int.toNat_of_nonneg hy0]
      simpa using hy
    omega
  · have : ((x.toNat : Nat) : Int) < ((2 ^ i : Nat) : Int) := by
      rw [Int.toNat_of_nonneg hx0]
      simpa using hx
    omega
theorem num_or (x0 x1 x2 x3 : Int) (a0 : 0 ≤ x0) (b0 : x0 < 256) (a1 : 0 ≤ x1) (b1 : x1 < 256) (a2 : 0 ≤ x2) (b2 : x2 < 256) (a3 : 0 ≤ x3) (b3 : x3 < 256) :
    bits .or .u32 (bits .or .u32 (bits .or .u32 x0 (x1 * 256)) (x2 * 65536)) (x3 * 16777216) = x0 + x1 * 256 + x2 * 65536 + x3 * 16777216 := by
  rw [or_u32 x0 (x1 * 256) 8 (by omega) (by omega) (by omega) (by omega) (by omega) (by omega)]
  rw [or_u32 _ (x2 * 65536) 16 (by omega) (by omega) (by omega) (by omega) (by omega) (by omega)]
  rw [or_u32 _ (x3 * 16777216) 24 (by omega) (by omega) (by omega) (by omega) (by omega) (by omega)]
theorem num_orw (x0 x1 x2 x3 : Int) (a0 : 0 ≤ x0) (b0 : x0 < 256) (a1 : 0 ≤ x1) (b1 : x1 < 256) (a2 : 0 ≤ x2) (b2 : x2 < 256) (a3 : 0 ≤ x3) (b3 : x3 < 256) :
    bits .or .u32 (bits .or .u32 (bits .or .u32 (IntKind.u32.wrap x0) (IntKind.u32.wrap (IntKind.u32.wrap x1 * 256))) (IntKind.u32.wrap (IntKind.u32.wrap x2 * 65536))) (IntKind.u32.wrap (IntKind.u32.wrap x3 * 16777216)) = x0 + x1 * 256 + x2 * 65536 + x3 * 16777216 := by
  have h : ∀ x : Int, 0 ≤ x → x < 4294967296 → IntKind.u32.wrap x = x := fun x h0 h1 => by rw [IntKind.wrap_u32]; omega
  rw [h x0 (by omega) (by omega), h x1 (by omega) (by omega), h x2 (by omega) (by omega), h x3 (by omega) (by omega), h (x1 * 256) (by omega) (by omega), h (x2 * 65536) (by omega) (by omega), h (x3 * 16777216) (by omega) (by omega)]
  exact num_or x0 x1 x2 x3 a0 b0 a1 b1 a2 b2 a3 b3
theorem Drawn0.one (w : World) : Drawn0 w w.drew := ⟨⟨1, rfl⟩⟩
set_option maxRecDepth 100000 in
theorem number_calls (A : Option Addr) (c : Nat) (l : List Int) (w : World) (hr : Kd.C (Kd.int .u8) w A l.length l) (hb : bytesOK l) (h4 : 4 ≤ l.length) :
    Calls Try.prog 43 #[.slice A l.length c] w fun e w' => e = .returned (.int .u32 (un4 l 0)) ∧ Drawn0 w w' := by
  have hln : l.length ≤ 9223372036854775807 := hr.2.1
  obtain ⟨ad, rfl, c0⟩ := Kd.at_int hr 0 (by omega) (by omega)
  obtain ⟨_, e1, c1⟩ := Kd.at_int hr 1 (by omega) (by omega)
  cases e1
  obtain ⟨_, e1, c2⟩ := Kd.at_int hr 2 (by omega) (by omega)
  cases e1
  obtain ⟨_, e1, c3⟩ := Kd.at_int hr 3 (by omega) (by omega)
  cases e1
  obtain ⟨a0, b0⟩ := rd_ok hb 0
  obtain ⟨a1, b1⟩ := rd_ok hb 1
  obtain ⟨a2, b2⟩ := rd_ok hb 2
  obtain ⟨a3, b3⟩ := rd_ok hb 3
  have e : un4 l 0 = rd l 0 + rd l 1 * 256 + rd l 2 * 65536 + rd l 3 * 16777216 := rfl
  rw [e]
  generalize rd l 0 = x0 at *
  generalize rd l 1 = x1 at *
  generalize rd l 2 = x2 at *
  generalize rd l 3 = x3 at *
  have c0 : w.cell? ad = some (.int .u8 x0) := by simpa [Addr.add] using c0
  have c1 : w.cell? ⟨ad.block, ad.off + 1, none⟩ = some (.int .u8 x1) := c1
  have c2 : w.cell? ⟨ad.block, ad.off + 2, none⟩ = some (.int .u8 x2) := c2
  have c3 : w.cell? ⟨ad.block, ad.off + 3, none⟩ = some (.int .u8 x3) := c3
  have q00 : 0 < l.length := by omega
  have E := Aside0.mk (num_orw x0 x1 x2 x3 a0 b0 a1 b1 a2 b2 a3 b3)
  clear hr hb e
  have q0 : (0 : Int) < (l.length : Int) := by omega
  have q1 : (1 : Int) < (l.length : Int) := by omega
  have q2 : (2 : Int) < (l.length : Int) := by omega
  have q3 : (3 : Int) < (l.length : Int) := by omega
  go_enter Try.func43, Try.ntmps43
  go_wp2_with fail
  go_region_held3 (fun w' => w'.cell? ad = some (.int .u8 x0) ∧ w'.cell? ⟨ad.block, ad.off + 1, none⟩ = some (.int .u8 x1) ∧ w'.cell? ⟨ad.block, ad.off + 2, none⟩ = some (.int .u8 x2) ∧ w'.cell? ⟨ad.block, ad.off + 3, none⟩ = some (.int .u8 x3)) (first | exact ⟨c0, c1, c2, c3⟩) (first | fail)
  go_wp2
  go_ret
  exact ⟨by rw [← E.out]; rfl, Drawn0.one w⟩
theorem un4_add (l : List Int) (s : Nat) (i : Nat) : rd l ((s : Int) + i) = rd l ((s + i : Nat) : Int) := by simp
set_option maxRecDepth 100000 in
theorem unword_calls (A : Option Addr) (c : Nat) (l : List Int) (s : Nat) (w : World) (hr : Kd.C (Kd.int .u8) w A l.length l) (hb : bytesOK l) (h4 : s + 4 ≤ l.length) (hmx : l.length ≤ 140737488351232) :
    Calls Try.prog 40 #[.slice A l.length c, .int .i64 (s : Int)] w fun e w' => e = .returned (.int .u32 (un4 l (s : Int))) ∧ Drawn0 w w' := by
  obtain ⟨ad, rfl, c0⟩ := Kd.at_int hr (s : Int) (by omega) (by omega)
  obtain ⟨_, e1, c1⟩ := Kd.at_int hr ((s : Int) + 1) (by omega) (by omega)
  cases e1
  obtain ⟨_, e1, c2⟩ := Kd.at_int hr ((s : Int) + 2) (by omega) (by omega)
  cases e1
  obtain ⟨_, e1, c3⟩ := Kd.at_int hr ((s : Int) + 3) (by omega) (by omega)
  cases e1
  obtain ⟨a0, b0⟩ := rd_ok hb (s : Int)
  obtain ⟨a1, b1⟩ := rd_ok hb ((s : Int) + 1)
  obtain ⟨a2, b2⟩ := rd_ok hb ((s : Int) + 2)
  obtain ⟨a3, b3⟩ := rd_ok hb ((s : Int) + 3)
  have e : un4 l (s : Int) = rd l (s : Int) + rd l ((s : Int) + 1) * 256 + rd l ((s : Int) + 2) * 65536 + rd l ((s : Int) + 3) * 16777216 := rfl
  rw [e]
  generalize rd l (s : Int) = x0 at *
  generalize rd l ((s : Int) + 1) = x1 at *
  generalize rd l ((s : Int) + 2) = x2 at *
  generalize rd l ((s : Int) + 3) = x3 at *
  rw [show ((s : Int)).toNat = s by omega] at c0
  rw [show ((s : Int) + 1).toNat = s + 1 by omega] at c1
  rw [show ((s : Int) + 2).toNat = s + 2 by omega] at c2
  rw [show ((s : Int) + 3).toNat = s + 3 by omega] at c3
  have c1 : w.cell? ⟨ad.block, ad.off + (s + 1), none⟩ = some (.int .u8 x1) := c1
  have c2 : w.cell? ⟨ad.block, ad.off + (s + 1 + 1), none⟩ = some (.int .u8 x2) := c2
  have c3 : w.cell? ⟨ad.block, ad.off + (s + 1 + 1 + 1), none⟩ = some (.int .u8 x3) := c3
  clear hr hb e
  have q0 : (s : Int) < (l.length : Int) := by omega
  have q1 : (s : Int) + 1 < (l.length : Int) := by omega
  have q2 : (s : Int) + 2 < (l.length : Int) := by omega
  have q3 : (s : Int) + 3 < (l.length : Int) := by omega
  have s0 : (0 : Int) ≤ (s : Int) := by omega
  have v1 : (0 : Int) ≤ (s : Int) + 1 := by omega
  have v2 : (0 : Int) ≤ (s : Int) + 2 := by omega
  have v3 : (0 : Int) ≤ (s : Int) + 3 := by omega
  have n1 : ((s : Int) + 1).toNat = s + 1 := by omega
  have n2 : ((s : Int) + 2).toNat = s + 2 := by omega
  have n3 : ((s : Int) + 3).toNat = s + 3 := by omega
  have u1 : IntKind.i64.wrap ((s : Int) + 1) = (s : Int) + 1 := by rw [IntKind.wrap_i64]; omega
  have u2 : IntKind.i64.wrap ((s : Int) + 2) = (s : Int) + 2 := by rw [IntKind.wrap_i64]; omega
  have u3 : IntKind.i64.wrap ((s : Int) + 3) = (s : Int) + 3 := by rw [IntKind.wrap_i64]; omega
  go_enter Try.func40, Try.ntmps40
  go_wp2_with fail
  go_region_held3 (fun w' => w'.cell? (ad.add s) = some (.int .u8 x0) ∧ w'.cell? ⟨ad.block, ad.off + (s + 1), none⟩ = some (.int .u8 x1) ∧ w'.cell? ⟨ad.block, ad.off + (s + 1 + 1), none⟩ = some (.int .u8 x2) ∧ w'.cell? ⟨ad.block, ad.off + (s + 1 + 1 + 1), none⟩ = some (.int .u8 x3)) (first | exact ⟨c0, c1, c2, c3⟩) (first | fail)
  go_wp2
  go_ret
  refine ⟨?_, Drawn0.one w⟩
  have h : ∀ x : Int, 0 ≤ x → x < 4294967296 → IntKind.u32.wrap x = x := fun x h0 h1 => by rw [IntKind.wrap_u32]; omega
  have E : IntKind.u32.wrap (IntKind.u32.wrap (IntKind.u32.wrap (IntKind.u32.wrap x0 + IntKind.u32.wrap (IntKind.u32.wrap x1 * 256)) + IntKind.u32.wrap (IntKind.u32.wrap x2 * 65536)) + IntKind.u32.wrap (IntKind.u32.wrap x3 * 16777216)) = x0 + x1 * 256 + x2 * 65536 + x3 * 16777216 := by
    rw [h x0 (by omega) (by omega), h x1 (by omega) (by omega), h x2 (by omega) (by omega), h x3 (by omega) (by omega), h (x1 * 256) (by omega) (by omega), h (x2 * 65536) (by omega) (by omega), h (x3 * 16777216) (by omega) (by omega),
      h (x0 + x1 * 256) (by omega) (by omega), h (x0 + x1 * 256 + x2 * 65536) (by omega) (by omega), h (x0 + x1 * 256 + x2 * 65536 + x3 * 16777216) (by omega) (by omega)]
  rw [← E]
  rfl
theorem un4_rng {l : List Int} (h : bytesOK l) (a : Int) : 0 ≤ un4 l a ∧ un4 l a < 4294967296 := by
  have h0 := rd_ok h a
  have h1 := rd_ok h (a + 1)
  have h2 := rd_ok h (a + 2)
  have h3 := rd_ok h (a + 3)
  unfold un4
  omega
theorem w4_ok (n : Int) : bytesOK (w4 n) := by
  intro x hx
  simp [w4] at hx
  omega
theorem Fr_lit {w W : World} (h : Below w.heap.size w W) (xs : List Int) (hm : xs.length ≤ 9223372036854775807) :
    Fr w (W.alloc (.cells (nums .u8 xs).toArray 5)) (.slice (some ⟨W.heap.size, 0, none⟩) xs.length xs.length) xs :=
  ⟨Kd.R_of_own (own_lit W w.heap.size 5 .u8 xs h.size hm) (fun _ _ => trivial), below_alloc h _⟩
set_option maxRecDepth 100000 in
theorem four_calls (n : Int) (w : World) (h0 : 0 ≤ n) (h1 : n < 4294967296) : Calls Try.prog 42 #[.int .u32 n] w fun e w' => ∃ v, e = .returned v ∧ Fr w w' v (w4 n) := by
  have F := Fr_lit (Below.refl w.heap.size w) (w4 n) (by simp [w4])
  go_enter Try.func42, Try.ntmps42
  go_wp2
  go_ret
  refine ⟨_, rfl, ?_⟩
  rw [show n / 16777216 = n / 16777216 % 256 by omega]
  exact F
set_option maxRecDepth 100000 in
theorem word_calls (n : Int) (w : World) (h0 : 0 ≤ n) (h1 : n < 4294967296) : Calls Try.prog 44 #[.int .u32 n] w fun e w' => ∃ v, e = .returned v ∧ Fr w w' v (w4 n) := by
  have F := Fr_lit (Below.refl w.heap.size w) (w4 n) (by simp [w4])
  go_enter Try.func44, Try.ntmps44
  go_wp2
  go_ret
  refine ⟨_, rfl, ?_⟩
  rw [show n / 16777216 = n / 16777216 % 256 by omega]
  exact F
end Go.Proofs.Ytoeefamnglbakaa
