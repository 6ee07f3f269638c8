import Derived.Test.YtoeefamnglbakaaA
import Derived.Lib.SlBytesConst
namespace Go.Proofs.Ytoeefamnglbakaa
open Go.RowKit Go.Proofs.YtoeefamnglbakaaW.PrintWords Go.Proofs.YtoeefamnglbakaaW.PrintLast Go.Proofs.YtoeefamnglbakaaW.PrintMore
set_option linter.unusedVariables false
set_option linter.unusedSimpArgs false
/-! CRC -/
attribute [local go_sem] t3
def cs (s : Int) : Int := if s % 2 = 1 then bits .xor .u32 (s / 2) 2197175160 else s / 2
def csn : Nat → Int → Int
  | 0, s => s
  | n + 1, s => csn n (cs s)
def crcF (s : Int) (l : List Int) : Int := l.foldl (fun s c => csn 8 (bits .xor .u32 s c)) s
def crc (l : List Int) : Int := bits .xor .u32 (crcF 4294967295 l) 4294967295
theorem bits_comm_xor (k : IntKind) (a b : Int) : bits .xor k a b = bits .xor k b a := by
  unfold bits
  simp [BitVec.xor_comm]
theorem u32_rng (n : Int) : 0 ≤ IntKind.u32.wrap n ∧ IntKind.u32.wrap n < 4294967296 := by rw [IntKind.wrap_u32]; omega
theorem xor_rng (a b : Int) (h0 : 0 ≤ a) (h1 : a < 4294967296) (h2 : 0 ≤ b) (h3 : b < 4294967296) : 0 ≤ bits .xor .u32 a b ∧ bits .xor .u32 a b < 4294967296 := by
  rw [u32_xor a b h0 h1 h2 h3]
  have : a.toNat ^^^ b.toNat < 2 ^ 32 := Nat.xor_lt_two_pow (by omega) (by omega)
  omega
theorem cs_rng (s : Int) (h0 : 0 ≤ s) (h1 : s < 4294967296) : 0 ≤ cs s ∧ cs s < 4294967296 := by
  unfold cs
  split
  · exact xor_rng _ _ (by omega) (by omega) (by omega) (by omega)
  · omega
theorem and1_u32 (s : Int) (h0 : 0 ≤ s) (h1 : s < 4294967296) : bits .and .u32 s 1 = s % 2 := by
  rw [u32_and s 1 h0 h1 (by omega) (by omega)]
  show ((s.toNat &&& 1 : Nat) : Int) = _
  rw [nat_mask1]; omega
theorem cs_go (s : Int) (h0 : 0 ≤ s) (h1 : s < 4294967296) : bits .xor .u32 (s / 2) (bits .and .u32 2197175160 (-(s % 2) % 4294967296)) = cs s := by
  unfold cs
  have : s % 2 = 0 ∨ s % 2 = 1 := by omega
  rcases this with h | h
  · rw [h, if_neg (by omega)]
    have : bits .and .u32 2197175160 (-0 % 4294967296) = 0 := by decide
    rw [this, u32_xor _ _ (by omega) (by omega) (by omega) (by omega)]
    simp; omega
  · rw [h, if_pos rfl]
    have : bits .and .u32 2197175160 (-1 % 4294967296) = 2197175160 := by decide
    rw [this]
theorem crcF_rng (l : List Int) (hl : bytesOK l) : ∀ s : Int, 0 ≤ s → s < 4294967296 → 0 ≤ crcF s l ∧ crcF s l < 4294967296 := by
  induction l with
  | nil => intro s h0 h1; exact ⟨h0, h1⟩
  | cons c l ih =>
    intro s h0 h1
    have hc := hl c (by simp)
    have h := xor_rng s c h0 h1 (by omega) (by omega)
    have : ∀ n s, 0 ≤ s → s < 4294967296 → 0 ≤ csn n s ∧ csn n s < 4294967296 := by
      intro n
      induction n with
      | zero => intro s h0 h1; exact ⟨h0, h1⟩
      | succ n ih => intro s h0 h1; have := cs_rng s h0 h1; exact ih _ this.1 this.2
    have h2 := this 8 _ h.1 h.2
    exact ih (fun x hx => hl x (List.mem_cons_of_mem _ hx)) _ h2.1 h2.2

set_option maxRecDepth 100000 in
theorem Sum_calls (A : Option Addr) (c : Nat) (l : List Int) (w : World) (hr : Kd.C (Kd.int .u8) w A l.length l) (hb : bytesOK l) :
    Calls Try.prog 15 #[.slice A l.length c] w fun e w' => e = .returned (.int .u32 (crc l)) ∧ w = w' := by
  have hln : l.length ≤ 9223372036854775807 := hr.2.1
  have HC := Aside0.mk hr
  have HM := Aside0.mk hb
  clear hr hb
  go_enter Try.func15, Try.ntmps15
  go_wp2
  go_loop [3, 8] (fun s i => ∃ (k : Nat) (q : Int), k ≤ l.length ∧ i = .int .i64 k ∧ s = .int .u32 q ∧ 0 ≤ q ∧ q < 4294967296 ∧ Aside0 (crcF q (l.drop k) = crcF 4294967295 l)) (fun _ i => l.length - (intOf i).toNat)
  case atStart => exact ⟨0, _, Nat.zero_le _, rfl, rfl, by omega, by omega, ⟨by simp⟩⟩
  case round =>
    obtain ⟨k, q, hk, rfl, rfl, hq0, hq1, HT⟩ := hrel
    by_cases hlt : k < l.length
    · obtain ⟨ad, rfl, hcell⟩ := Kd.at_int HC.out (k : Int) (by omega) (by omega)
      rw [Int.toNat_natCast] at hcell
      have hdk : l.drop k = rd l k :: l.drop (k + 1) := by simp [rd, List.getD_eq_getElem?_getD, List.getElem?_eq_getElem hlt]
      obtain ⟨x, hx0⟩ : ∃ x, rd l k = x := ⟨_, rfl⟩
      have hxb := HM.out (rd l k) (List.mem_of_mem_drop (hdk ▸ List.mem_cons_self))
      rw [hx0] at hcell hxb hdk
      have HT := HT.out
      rw [hdk] at HT
      obtain ⟨hx2, hx3⟩ := hxb
      have hxr := xor_rng q x hq0 hq1 hx2 (by omega)
      obtain ⟨y, hy⟩ : ∃ y, bits .xor .u32 q x = y := ⟨_, rfl⟩
      have HT : Aside0 (crcF (csn 8 y) (l.drop (k + 1)) = crcF 4294967295 l) := ⟨by rw [← HT, ← hy]; rfl⟩
      rw [hy] at hxr
      obtain ⟨hy0, hy1⟩ := hxr
      clear hx0 hdk
      go_wp2
      go_loop [3, 16] (fun s i => ∃ (j : Nat) (z : Int), j ≤ 8 ∧ i = .int .i64 j ∧ s = .int .u32 z ∧ 0 ≤ z ∧ z < 4294967296 ∧ Aside0 (csn (8 - j) z = csn 8 y)) (fun _ i => 8 - (intOf i).toNat)
      case atStart => exact ⟨0, _, Nat.zero_le _, rfl, rfl, by omega, by omega, ⟨by simp⟩⟩
      case round =>
        obtain ⟨j, z, hj, rfl, rfl, hz0, hz1, HZ⟩ := hrel
        have ha := and1_u32 z hz0 hz1
        have hg := cs_go z hz0 hz1
        have hgr := cs_rng z hz0 hz1
        by_cases hj8 : j < 8
        · go_wp2
          go_round
          case rel => exact ⟨j + 1, _, by omega, by go_num, rfl, hgr.1, hgr.2, ⟨by rw [← HZ.out, show 8 - j = (8 - (j + 1)) + 1 by omega]; rfl⟩⟩
          case measure => simp [intOf]; omega
        · go_wp2
          go_round
          case rel =>
            obtain rfl : j = 8 := by omega
            have e : z = csn 8 y := HZ.out
            exact ⟨k + 1, z, by omega, by go_num, rfl, hz0, hz1, ⟨by rw [e]; exact HT.out⟩⟩
          case measure => simp [intOf]; omega
    · go_wp2
      obtain rfl : k = l.length := by omega
      have HT := HT.out
      rw [List.drop_length] at HT
      go_ret
      refine ⟨?_, rfl⟩
      have e : crc l = bits .xor .u32 4294967295 q := by
        unfold crc
        rw [bits_comm_xor, ← HT]
        rfl
      rw [e]
      rfl
set_option maxRecDepth 100000 in
theorem refSum_calls (A : Option Addr) (c : Nat) (l : List Int) (w : World) (hr : Kd.C (Kd.int .u8) w A l.length l) (hb : bytesOK l) :
    Calls Try.prog 16 #[.slice A l.length c] w fun e w' => e = .returned (.int .u32 (crc l)) ∧ w = w' := by
  have hln : l.length ≤ 9223372036854775807 := hr.2.1
  have HC := Aside0.mk hr
  have HM := Aside0.mk hb
  clear hr hb
  go_enter Try.func16, Try.ntmps16
  go_wp2
  go_loop [3, 4] (fun s i => ∃ (k : Nat) (q : Int), k ≤ l.length ∧ i = .int .i64 k ∧ s = .int .u32 q ∧ 0 ≤ q ∧ q < 4294967296 ∧ Aside0 (crcF q (l.drop k) = crcF 4294967295 l)) (fun _ i => l.length - (intOf i).toNat)
  case atStart => exact ⟨0, _, Nat.zero_le _, rfl, rfl, by omega, by omega, ⟨by simp⟩⟩
  case round =>
    obtain ⟨k, q, hk, rfl, rfl, hq0, hq1, HT⟩ := hrel
    by_cases hlt : k < l.length
    · obtain ⟨ad, rfl, hcell⟩ := Kd.at_int HC.out (k : Int) (by omega) (by omega)
      rw [Int.toNat_natCast] at hcell
      have hdk : l.drop k = rd l k :: l.drop (k + 1) := by simp [rd, List.getD_eq_getElem?_getD, List.getElem?_eq_getElem hlt]
      obtain ⟨x, hx0⟩ : ∃ x, rd l k = x := ⟨_, rfl⟩
      have hxb := HM.out (rd l k) (List.mem_of_mem_drop (hdk ▸ List.mem_cons_self))
      rw [hx0] at hcell hxb hdk
      have HT := HT.out
      rw [hdk] at HT
      obtain ⟨hx2, hx3⟩ := hxb
      have hxr := xor_rng q x hq0 hq1 hx2 (by omega)
      obtain ⟨y, hy⟩ : ∃ y, bits .xor .u32 q x = y := ⟨_, rfl⟩
      have HT : Aside0 (crcF (csn 8 y) (l.drop (k + 1)) = crcF 4294967295 l) := ⟨by rw [← HT, ← hy]; rfl⟩
      rw [hy] at hxr
      obtain ⟨hy0, hy1⟩ := hxr
      clear hx0 hdk
      go_wp2
      go_loop [3, 5] (fun s i => ∃ (j : Nat) (z : Int), j ≤ 8 ∧ i = .int .i64 j ∧ s = .int .u32 z ∧ 0 ≤ z ∧ z < 4294967296 ∧ Aside0 (csn (8 - j) z = csn 8 y)) (fun _ i => 8 - (intOf i).toNat)
      case atStart => exact ⟨0, _, Nat.zero_le _, rfl, rfl, by omega, by omega, ⟨by simp⟩⟩
      case round =>
        obtain ⟨j, z, hj, rfl, rfl, hz0, hz1, HZ⟩ := hrel
        have hgr := cs_rng z hz0 hz1
        by_cases hj8 : j < 8
        · have HZ : Aside0 (csn (8 - (j + 1)) (cs z) = csn 8 y) := ⟨by rw [← HZ.out, show 8 - j = (8 - (j + 1)) + 1 by omega]; rfl⟩
          unfold cs at HZ hgr
          go_wp2
          · rename_i h
            have h : z % 2 = 1 := by simpa using h
            rw [if_pos h] at HZ hgr
            go_round
            case rel => exact ⟨j + 1, _, by omega, by go_num, rfl, hgr.1, hgr.2, HZ⟩
            case measure => simp [intOf]; omega
          · rename_i h
            have h : ¬ z % 2 = 1 := by simpa using h
            rw [if_neg h] at HZ hgr
            go_round
            case rel => exact ⟨j + 1, _, by omega, by go_num, rfl, hgr.1, hgr.2, HZ⟩
            case measure => simp [intOf]; omega
        · go_wp2
          go_round
          case rel =>
            obtain rfl : j = 8 := by omega
            have e : z = csn 8 y := HZ.out
            exact ⟨k + 1, z, by omega, by go_num, rfl, hz0, hz1, ⟨by rw [e]; exact HT.out⟩⟩
          case measure => simp [intOf]; omega
    · go_wp2
      obtain rfl : k = l.length := by omega
      have HT := HT.out
      rw [List.drop_length] at HT
      go_ret
      refine ⟨?_, rfl⟩
      have e : crc l = bits .xor .u32 q 4294967295 := by
        unfold crc
        rw [← HT]
        rfl
      rw [e]
      rfl
theorem C_lit (w : World) (e : TypeId) (fr : Nat × Nat) (k : IntKind) (xs : List Int) (hm : xs.length ≤ 9223372036854775807) :
    Kd.C (Kd.int k) (w.alloc (.cells (nums k xs).toArray e fr)) (some ⟨w.heap.size, 0, none⟩) xs.length xs := by
  refine Kd.C_of_reads (d := 0) (h1 := fun _ => rfl) ⟨rfl, hm, fun _ => ⟨_, rfl, fun j hj => ?_⟩⟩
  rw [add_plain]
  unfold World.cell?
  rw [heap_alloc_new]
  simp [nums, hj]
set_option maxRecDepth 100000 in
theorem live_calls (w : World) : Calls Try.prog 14 #[] w fun e w' => e = .returned (.bool true) ∧ Below w.heap.size w w' := by
  have hsz : ∀ (W : World) (o : Obj), (W.alloc o).heap.size = W.heap.size + 1 := fun W o => by simp
  have L1 := fun W : World => TakeUint_calls (some ⟨W.heap.size, 0, none⟩) 3 [172, 2, 9] 0 _ (C_lit W 5 (0, 0) .u8 [172, 2, 9] (by decide)) (Nat.le_refl _) (by intro x hx; simp at hx; omega)
  have L2 := fun (W : World) (o : Obj) => Sum_calls (some ⟨(W.alloc o).heap.size, 0, none⟩) 9 [49, 50, 51, 52, 53, 54, 55, 56, 57] _ (C_lit (W.alloc o) 5 (9, 10) .u8 [49, 50, 51, 52, 53, 54, 55, 56, 57] (by decide)) (by intro x hx; simp at hx; omega)
  have cv := fun (C : Array Value) (n c : Nat) (W : World) (o : Obj) => Lib.run_convert_bytes_const (P := Try.prog) (W.alloc o) 22 5 C n c Try.underlying22 Try.underlying5
  have e1 : tu [172, 2, 9] 0 = (300, 2, 0) := by decide
  have e2 : crc [49, 50, 51, 52, 53, 54, 55, 56, 57] = 3808858755 := by decide +kernel
  rw [e1] at L1
  rw [e2] at L2
  simp only [hsz] at L2 cv
  clear hsz e1 e2
  go_enter Try.func14, Try.ntmps14
  go_wp2_with (first | (go_at_call 17; refine (L1 _).mono ?_; rintro e w' ⟨rfl, rfl⟩) | (go_at_call 15; refine (L2 _ _).mono ?_; rintro e w' ⟨rfl, rfl⟩))
  go_ret
  exact ⟨rfl, ((Below.refl _ w).alloc (Nat.le_refl _) _).alloc (by simp) _⟩
end Go.Proofs.Ytoeefamnglbakaa
