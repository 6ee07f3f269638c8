import Derived.Test.YtbellkkheppofaaA
namespace Go.Proofs.Ytbellkkheppofaa
open Go.RowKit Go.Maps Go.Proofs.YtbellkkheppofaaW.PrintWords Go.Proofs.YtbellkkheppofaaW.PrintLast Go.Proofs.YtbellkkheppofaaW.PrintMore
set_option linter.unusedVariables false
set_option linter.unusedSimpArgs false
set_option linter.unusedSectionVars false
theorem laid : laidOutB Try.prog = true := by kernel_rfl
abbrev Lk := ByteArray × ByteArray
def mkL (a : Lk) : Value := .agg #[.string a.1, .string a.2]
def okL (a : Lk) : Prop := a.1.size ≤ maxLen ∧ a.2.size ≤ maxLen
theorem wide23 : (match Try.prog.underlying 23 with | some (.array _ _) | some (.struct _) => true | _ => false) = true := by rw [Try.underlying23]
theorem keyType23 : Try.prog.keyType 23 = true := by kernel_rfl
theorem cells23 : Try.prog.cellsOf 23 = 2 := by kernel_rfl
theorem cells9 : Try.prog.cellsOf 9 = 1 := by kernel_rfl
theorem size_pos : ∃ m, Try.prog.types.size = m + 1 := ⟨Try.prog.types.size - 1, by have : (decide (1 ≤ Try.prog.types.size)) = true := by kernel_rfl
                                                                                    have := of_decide_eq_true this
                                                                                    omega⟩
def strLit : Value → Option (List Lit)
  | .string s => if s.size ≤ maxLen then some [.string s.data.toList] else none
  | _ => none
theorem keyLits9 (d : Nat) (a : Value) : Try.prog.keyLits (d + 1) 9 [a] = strLit a := by
  unfold Program.keyLits
  simp only [Try.underlying9]
  cases a <;> rfl
theorem keyLits23 (d : Nat) (a b : Value) : Try.prog.keyLits (d + 2) 23 [a, b] = (strLit a).bind fun x => (strLit b).bind fun y => some (x ++ y) := by
  rw [show d + 2 = (d + 1) + 1 from rfl]
  unfold Program.keyLits
  simp only [Try.underlying23, cells23, List.length_cons, List.length_nil]
  simp [cells9, keyLits9]
  cases strLit a <;> cases strLit b <;> simp
theorem key_of (a : Lk) (h : okL a) : ∃ kl, keyOf Try.prog 23 (mkL a) = some kl := by
  obtain ⟨m, hm⟩ := size_pos
  have hf : (mkL a).formed Try.prog 23 = true := by
    simp [mkL, Value.formed, Try.underlying23, cells23]
  unfold keyOf
  simp only [Try.underlying23, keyType23, hf, Bool.and_self, if_true, hm]
  have e : (mkL a).cells.toList = [.string a.1, .string a.2] := rfl
  rw [e, keyLits23]
  simp [strLit, h.1, h.2]
set_option maxRecDepth 100000 in
theorem of_key (v : Value) (kl : Lit) (h : keyOf Try.prog 23 v = some kl) : ∃ a : Lk, okL a ∧ v = mkL a := by
  obtain ⟨m, hm⟩ := size_pos
  obtain ⟨xs, L, rfl, h1, _⟩ := keyOf_top wide23 h
  rw [hm] at h1
  have hl : xs.toList.length = 2 := by
    unfold Program.keyLits at h1
    simp only [Try.underlying23, cells23] at h1
    by_cases hh : xs.toList.length = 2
    · exact hh
    · rw [if_neg (fun h => hh h.1)] at h1
      cases h1
  obtain ⟨l⟩ := xs
  match l, hl with
  | [a, b], _ =>
    have h2 : Try.prog.keyLits (m + 2) 23 [a, b] = some L := h1
    rw [keyLits23] at h2
    cases ha : strLit a with
    | none => rw [ha] at h2; cases h2
    | some x =>
      cases hb : strLit b with
      | none => rw [ha, hb] at h2; cases h2
      | some y =>
        have st : ∀ (v : Value) (z : List Lit), strLit v = some z → ∃ u : ByteArray, v = .string u ∧ u.size ≤ maxLen := by
          intro v z hz
          cases v <;> try cases hz
          rename_i u
          refine ⟨u, rfl, ?_⟩
          by_cases hu : u.size ≤ maxLen
          · exact hu
          · exfalso
            have : strLit (.string u) = none := if_neg hu
            rw [this] at hz
            cases hz
        obtain ⟨u, rfl, hu⟩ := st a x ha
        obtain ⟨u', rfl, hu'⟩ := st b y hb
        exact ⟨(u, u'), ⟨hu, hu'⟩, rfl⟩
set_option maxRecDepth 100000 in
theorem keyL : KeyAs Try.prog 23 mkL okL where
  keyed := Keyed.of_law (deep_law_gate laid (of_decide_eq_true (by kernel_rfl)) (of_decide_eq_true (by kernel_rfl)) keyType23 wide23)
  lit := key_of
  inj := fun a b h => by
    injection h with h
    have h := congrArg Array.toList h
    simp at h
    exact Prod.ext h.1 h.2
  inv := of_key
end Go.Proofs.Ytbellkkheppofaa
