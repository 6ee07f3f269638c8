import Derived.Test.YteikmnokmcnmcaaSC
namespace Go.Proofs.Yteikmnokmcnmcaa
open Go.RowKit Go.Maps Go.Sort Go.Lib Go.Proofs.YteikmnokmcnmcaaW.PrintWords Go.Proofs.YteikmnokmcnmcaaW.PrintLast Go.Proofs.YteikmnokmcnmcaaW.PrintMore
set_option linter.unusedVariables false
set_option linter.unusedSimpArgs false
set_option linter.unusedSectionVars false
/-! ### places as keys -/
theorem laid : laidOutB Try.prog = true := by kernel_rfl
abbrev Pl := Int × ByteArray
def mkP (a : Pl) : Value := .agg #[.int .i64 a.1, .string a.2]
def okP (a : Pl) : Prop := (Lit.int .i64 a.1).wf = true ∧ a.2.size ≤ maxLen
theorem wide62 : (match Try.prog.underlying 62 with | some (.array _ _) | some (.struct _) => true | _ => false) = true := by rw [Try.underlying62]
theorem keyType62 : Try.prog.keyType 62 = true := by kernel_rfl
theorem cells62 : Try.prog.cellsOf 62 = 2 := by kernel_rfl
theorem cells9 : Try.prog.cellsOf 9 = 1 := by kernel_rfl
theorem cells2 : Try.prog.cellsOf 2 = 1 := by kernel_rfl
theorem size_pos : ∃ m, Try.prog.types.size = m + 1 := ⟨Try.prog.types.size - 1, by have : (decide (1 ≤ Try.prog.types.size)) = true := by kernel_rfl
                                                                                    have := of_decide_eq_true this
                                                                                    omega⟩
def strLit : Value → Option (List Lit)
  | .string s => if s.size ≤ maxLen then some [.string s.data.toList] else none
  | _ => none
def intLit : Value → Option (List Lit)
  | .int q a => if q = .i64 ∧ (Lit.int .i64 a).wf = true then some [.int .i64 a] else none
  | _ => none
theorem keyLits9 (d : Nat) (a : Value) : Try.prog.keyLits (d + 1) 9 [a] = strLit a := by
  unfold Program.keyLits
  simp only [Try.underlying9]
  cases a <;> rfl
theorem keyLits2 (d : Nat) (a : Value) : Try.prog.keyLits (d + 1) 2 [a] = intLit a := by
  unfold Program.keyLits
  simp only [Try.underlying2]
  cases a <;> first | rfl | (simp [intLit])
theorem keyLits62 (d : Nat) (a b : Value) : Try.prog.keyLits (d + 2) 62 [a, b] = (intLit a).bind fun x => (strLit b).bind fun y => some (x ++ y) := by
  rw [show d + 2 = (d + 1) + 1 from rfl]
  unfold Program.keyLits
  simp only [Try.underlying62, cells62, List.length_cons, List.length_nil]
  simp [cells9, cells2, keyLits9, keyLits2]
  cases intLit a <;> cases strLit b <;> simp
theorem key_of (a : Pl) (h : okP a) : ∃ kl, keyOf Try.prog 62 (mkP a) = some kl := by
  obtain ⟨m, hm⟩ := size_pos
  have hf : (mkP a).formed Try.prog 62 = true := by
    simp [mkP, Value.formed, Try.underlying62, cells62]
  unfold keyOf
  simp only [Try.underlying62, keyType62, hf, Bool.and_self, if_true, hm]
  have e : (mkP a).cells.toList = [.int .i64 a.1, .string a.2] := rfl
  rw [e, keyLits62]
  simp [strLit, intLit, h.1, h.2]
set_option maxRecDepth 100000 in
theorem of_key (v : Value) (kl : Lit) (h : keyOf Try.prog 62 v = some kl) : ∃ a : Pl, okP a ∧ v = mkP a := by
  obtain ⟨m, hm⟩ := size_pos
  obtain ⟨xs, L, rfl, h1, _⟩ := keyOf_top wide62 h
  rw [hm] at h1
  have hl : xs.toList.length = 2 := by
    unfold Program.keyLits at h1
    simp only [Try.underlying62, cells62] at h1
    by_cases hh : xs.toList.length = 2
    · exact hh
    · rw [if_neg (fun h => hh h.1)] at h1
      cases h1
  obtain ⟨l⟩ := xs
  match l, hl with
  | [a, b], _ =>
    have h2 : Try.prog.keyLits (m + 2) 62 [a, b] = some L := h1
    rw [keyLits62] at h2
    cases ha : intLit a with
    | none => rw [ha] at h2; cases h2
    | some x =>
      cases hb : strLit b with
      | none => rw [ha, hb] at h2; cases h2
      | some y =>
        have st : ∀ (v : Value) (z : List Lit), strLit v = some z → ∃ u : ByteArray, v = .string u ∧ u.size ≤ maxLen := by
          intro v z hz
          cases v <;> try cases hz
          rename_i u
          refine ⟨u, rfl, ?_⟩
          by_cases hu : u.size ≤ maxLen
          · exact hu
          · exfalso
            have : strLit (.string u) = none := if_neg hu
            rw [this] at hz
            cases hz
        have it : ∀ (v : Value) (z : List Lit), intLit v = some z → ∃ u : Int, v = .int .i64 u ∧ (Lit.int .i64 u).wf = true := by
          intro v z hz
          cases v <;> try cases hz
          rename_i q u
          by_cases hu : q = .i64 ∧ (Lit.int .i64 u).wf = true
          · obtain ⟨rfl, hu⟩ := hu
            exact ⟨u, rfl, hu⟩
          · exfalso
            have : intLit (.int q u) = none := if_neg hu
            rw [this] at hz
            cases hz
        obtain ⟨u, rfl, hu⟩ := it a x ha
        obtain ⟨u', rfl, hu'⟩ := st b y hb
        exact ⟨(u, u'), ⟨hu, hu'⟩, rfl⟩
set_option maxRecDepth 100000 in
theorem keyP : KeyAs Try.prog 62 mkP okP where
  keyed := Keyed.of_law (deep_law_gate laid (of_decide_eq_true (by kernel_rfl)) (of_decide_eq_true (by kernel_rfl)) keyType62 wide62)
  lit := key_of
  inj := fun a b h => by
    injection h with h
    have h := congrArg Array.toList h
    simp at h
    exact Prod.ext h.1 h.2
  inv := of_key
/-! ### slices of the call's own as elements -/
/-- nil, or a row's block, length, capacity -/
abbrev Sv := Option (Nat × Nat × Nat)
def mvS : Sv → Value
  | none => .slice none 0 0
  | some (g, n, c) => .slice (some ⟨g, 0, none⟩) n c
def cdS : Sv → DataW Unit
  | none => .nil
  | some (g, n, c) => .agg [.lit (.int .i64 g), .lit (.int .i64 n), .lit (.int .i64 c)]
def rS : Value → Option (DataW Unit × List MemPlace)
  | .slice none 0 0 => some (.nil, [])
  | .slice (some ⟨g, 0, none⟩) n c => some (.agg [.lit (.int .i64 g), .lit (.int .i64 n), .lit (.int .i64 c)], [])
  | _ => none
theorem valS : ValAs mvS rS cdS where
  reads := fun b => by
    rcases b with _ | ⟨g, n, c⟩
    · rfl
    · rfl
  inv := fun v y ps h => by
    unfold rS at h
    split at h
    · injection h with h
      injection h with h1 h2
      exact ⟨none, rfl, h1.symm⟩
    · rename_i g n c
      injection h with h
      injection h with h1 h2
      exact ⟨some (g, n, c), rfl, h1.symm⟩
    · cases h
  inj := fun b b' h => by
    rcases b with _ | ⟨g, n, c⟩ <;> rcases b' with _ | ⟨g', n', c'⟩
    · rfl
    · cases h
    · cases h
    · simp [cdS] at h
      obtain ⟨h1, h2, h3⟩ := h
      have e1 : g = g' := by exact_mod_cast h1
      have e2 : n = n' := by exact_mod_cast h2
      have e3 : c = c' := by exact_mod_cast h3
      rw [e1, e2, e3]
abbrev TabN (w : World) (b n : Nat) (L : List (Pl × Sv)) : Prop := Tab Try.prog 62 mkP okP rS cdS w b n L
abbrev RngN (w : World) (b r n : Nat) (L rem : List (Pl × Sv)) : Prop := Rng Try.prog 62 mkP okP rS cdS w b r n L rem
theorem zero42 (w : World) : (zeroValue 42).run Try.prog w = .ok (mvS none) w := Try.zeroValue42 w
end Go.Proofs.Yteikmnokmcnmcaa
