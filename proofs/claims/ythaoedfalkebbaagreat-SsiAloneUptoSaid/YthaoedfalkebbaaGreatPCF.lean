/- Cut by a program out of the seat's texts (XE XF XG XH XI XJ): what the theorem needs, one behind the other. -/
import Derived.Test.YthaoedfalkebbaaGreatPCE
namespace Go.Proofs.YthaoedfalkebbaaGreat
set_option linter.unusedVariables false
set_option linter.unusedSectionVars false
def VN (vs : List Ver) : Prop := ∀ (k : Nat) v, vs[k]? = some v → 0 ≤ v.next → ∃ (m : Nat) (u : Ver), v.next = (m : Int) ∧ k < m ∧ vs[m]? = some u ∧ u.at_ = v.at_
structure ExtV (vs vs' : List Ver) (ws : List Lk) (num : Int) (i : Nat) : Prop where
  len : vs'.length = vs.length + ws.length
  same : ∀ (k : Nat) (v v' : Ver), vs[k]? = some v → vs'[k]? = some v' → v'.at_ = v.at_ ∧ v'.num = v.num ∧ v'.by_ = v.by_
  new : ∀ (j : Nat) a, ws[j]? = some a → ∃ v, vs'[vs.length + j]? = some v ∧ v.at_ = a ∧ v.num = num ∧ v.by_ = i
theorem lay_ext (vs : List Ver) (num : Int) (i : Nat) (a : Lk) : ExtV vs (lay vs num i a) [a] num i := by
  have hl : (if 0 ≤ newest vs a num then vs.modify (newest vs a num).toNat (fun v => { v with next := (vs.length : Int) }) else vs).length = vs.length := by
    split
    · rw [List.length_modify]
    · rfl
  constructor
  · unfold lay
    rw [List.length_append, hl]
    rfl
  · intro k v v' hv hv'
    unfold lay at hv'
    have hk := (List.getElem?_eq_some_iff.1 hv).1
    rw [List.getElem?_append_left (by omega)] at hv'
    split at hv'
    · rw [List.getElem?_modify, hv] at hv'
      simp only [Option.map_eq_map, Option.map_some, Option.some.injEq] at hv'
      split at hv' <;> subst hv' <;> exact ⟨rfl, rfl, rfl⟩
    · rw [hv] at hv'
      cases hv'
      exact ⟨rfl, rfl, rfl⟩
  · intro j b hb
    cases j with
    | succ j => simp at hb
    | zero =>
      simp at hb
      subst hb
      unfold lay
      rw [List.getElem?_append_right (by omega), hl]
      exact ⟨⟨a, num, i, -1⟩, by simp, rfl, rfl, rfl⟩
theorem lay_VN {vs : List Ver} (h : VN vs) (num : Int) (i : Nat) (a : Lk) : VN (lay vs num i a) := by
  have X := lay_ext vs num i a
  obtain ⟨z, hz, z1, z2, z3⟩ := X.new 0 a rfl
  have hzn : z.next = -1 := by
    unfold lay at hz
    have hl : (if 0 ≤ newest vs a num then vs.modify (newest vs a num).toNat (fun v => { v with next := (vs.length : Int) }) else vs).length = vs.length := by
      split
      · rw [List.length_modify]
      · rfl
    rw [List.getElem?_append_right (by omega), hl] at hz
    simp at hz
    rw [← hz]
  intro k v hv h0
  have hk := (List.getElem?_eq_some_iff.1 hv).1
  rw [X.len] at hk
  simp only [List.length_cons, List.length_nil] at hk
  rcases Nat.lt_or_ge k vs.length with hlt | hge
  · have hv0 : vs[k]? = some vs[k] := List.getElem?_eq_getElem hlt
    obtain ⟨e1, e2, e3⟩ := X.same k _ v hv0 hv
    have hnx : v.next = vs[k].next ∨ (v.next = (vs.length : Int) ∧ vs[k].at_ = a) := by
      unfold lay at hv
      have hl : (if 0 ≤ newest vs a num then vs.modify (newest vs a num).toNat (fun v => { v with next := (vs.length : Int) }) else vs).length = vs.length := by
        split
        · rw [List.length_modify]
        · rfl
      rw [List.getElem?_append_left (by omega)] at hv
      split at hv
      · rename_i hn0
        rw [List.getElem?_modify, hv0] at hv
        simp only [Option.map_eq_map, Option.map_some, Option.some.injEq] at hv
        split at hv
        · rename_i hkn
          subst hv
          refine .inr ⟨rfl, ?_⟩
          rcases newest_cases vs a num with ⟨e, _⟩ | ⟨q, w, e, q1, q2, _⟩
          · omega
          · have : q = k := by omega
            subst this
            rw [hv0] at q1
            cases q1
            unfold hitV at q2
            simp at q2
            exact q2.1
        · subst hv
          exact .inl rfl
      · rw [hv0] at hv
        cases hv
        exact .inl rfl
    rcases hnx with e | ⟨e, ea⟩
    · obtain ⟨m, u, q1, q2, q3, q4⟩ := h k _ hv0 (by omega)
      obtain ⟨u', hu'⟩ : ∃ u', (lay vs num i a)[m]? = some u' := ⟨_, List.getElem?_eq_getElem (by rw [X.len]; have := (List.getElem?_eq_some_iff.1 q3).1; omega)⟩
      obtain ⟨f1, _⟩ := X.same m u u' q3 hu'
      exact ⟨m, u', by omega, q2, hu', by rw [f1, q4, e1]⟩
    · exact ⟨vs.length, z, e, hlt, hz, by rw [z1, e1, ea]⟩
  · obtain rfl : k = vs.length := by omega
    have : vs.length + 0 = vs.length := rfl
    rw [this, hv] at hz
    cases hz
    omega
theorem commitV_ext : ∀ (ws : List Lk) (vs : List Ver) (num : Int) (i : Nat), ExtV vs (commitV vs ws num i) ws num i
  | [], vs, num, i => ⟨rfl, fun k v v' h1 h2 => by rw [show commitV vs [] num i = vs from rfl, h1] at h2; cases h2; exact ⟨rfl, rfl, rfl⟩, fun j a h => by simp at h⟩
  | a :: ws, vs, num, i => by
    have X := lay_ext vs num i a
    have Y := commitV_ext ws (lay vs num i a) num i
    have e : commitV vs (a :: ws) num i = commitV (lay vs num i a) ws num i := rfl
    rw [e]
    have hl := X.len
    simp only [List.length_cons, List.length_nil] at hl
    constructor
    · rw [Y.len, hl]
      simp only [List.length_cons]
      omega
    · intro k v v' h1 h2
      have hk := (List.getElem?_eq_some_iff.1 h1).1
      obtain ⟨u, hu⟩ : ∃ u, (lay vs num i a)[k]? = some u := ⟨_, List.getElem?_eq_getElem (by omega)⟩
      obtain ⟨p1, p2, p3⟩ := X.same k v u h1 hu
      obtain ⟨q1, q2, q3⟩ := Y.same k u v' hu h2
      exact ⟨q1.trans p1, q2.trans p2, q3.trans p3⟩
    · intro j b hb
      cases j with
      | zero =>
        simp at hb
        subst hb
        obtain ⟨v, h1, h2, h3, h4⟩ := X.new 0 a rfl
        obtain ⟨v', hv'⟩ : ∃ u, (commitV (lay vs num i a) ws num i)[vs.length + 0]? = some u := ⟨_, List.getElem?_eq_getElem (by rw [Y.len]; omega)⟩
        obtain ⟨q1, q2, q3⟩ := Y.same _ v v' h1 hv'
        exact ⟨v', hv', q1.trans h2, q2.trans h3, q3.trans h4⟩
      | succ j =>
        simp at hb
        obtain ⟨v, h1, h2⟩ := Y.new j b hb
        refine ⟨v, ?_, h2⟩
        rw [hl] at h1
        rw [show vs.length + (j + 1) = vs.length + 1 + j by omega]
        exact h1
theorem commitV_VN : ∀ (ws : List Lk) {vs : List Ver}, VN vs → ∀ (num : Int) (i : Nat), VN (commitV vs ws num i)
  | [], vs, h, num, i => h
  | a :: ws, vs, h, num, i => commitV_VN ws (lay_VN h num i a) num i
/-- one commits -/
theorem SI.commit {list : List Run} {G : List Gh} {vs : List Ver} {now now' : Int} (s : SI list G vs now) {i : Nat} {x x' : Run} {g : Gh} {clk : Int} (hx : list[i]? = some x) (hg : G[i]? = some g) (hl : G.length = list.length) (ho : x.over = false) (hc : x.committed = false)
    (hc' : x'.committed = true) (hsn : x'.snap = x.snap) (hre : x'.reads = x.reads) (hwr : x'.writes = x.writes) (hnd : x.writes.Nodup)
    (hcb : ∀ (j : Nat) k, G[j]? = some k → k.cb < clk) (hce : ∀ (j : Nat) y k, list[j]? = some y → G[j]? = some k → y.committed = true → k.ce < clk)
    (hfl : ¬ (g.fin = true ∧ g.fout = true)) (hn0 : 0 ≤ now) (hnow : now' = if x.writes = [] then now else now + 1)
    (hlock : ∀ (j : Nat) y, j ≠ i → list[j]? = some y → y.over = false → ∀ a ∈ x.writes, a ∉ y.writes) :
    SI (list.set i x') (G.set i { g with ce := clk }) (commitV vs x.writes now' i) now' := by
  have hle : now ≤ now' := by rw [hnow]; split <;> omega
  have X := commitV_ext x.writes vs now' i
  have hGi : (G.set i { g with ce := clk })[i]? = some { g with ce := clk } := set_at hg
  -- what stands in the new texts
  have vcase : ∀ (k : Nat) v, (commitV vs x.writes now' i)[k]? = some v → (∃ u, k < vs.length ∧ vs[k]? = some u ∧ v.at_ = u.at_ ∧ v.num = u.num ∧ v.by_ = u.by_) ∨ (vs.length ≤ k ∧ v.num = now' ∧ v.by_ = i ∧ x.writes[k - vs.length]? = some v.at_) := by
    intro k v hv
    have hk := (List.getElem?_eq_some_iff.1 hv).1
    rw [X.len] at hk
    rcases Nat.lt_or_ge k vs.length with h | h
    · have h0 : vs[k]? = some vs[k] := List.getElem?_eq_getElem h
      obtain ⟨q1, q2, q3⟩ := X.same k _ v h0 hv
      exact .inl ⟨_, h, h0, q1, q2, q3⟩
    · have hw : x.writes[k - vs.length]? = some (x.writes[k - vs.length]'(by omega)) := List.getElem?_eq_getElem (by omega)
      obtain ⟨u, h1, h2, h3, h4⟩ := X.new _ _ hw
      rw [show vs.length + (k - vs.length) = k by omega, hv] at h1
      cases h1
      exact .inr ⟨h, h3, h4, by rw [hw, h2]⟩
  have vsnap : ∀ y ∈ list, ∀ a, newest (commitV vs x.writes now' i) a y.snap = newest vs a y.snap := by
    intro y hy a
    refine newest_ext (by rw [X.len]; omega) (fun k v w h1 h2 => by obtain ⟨q1, q2, _⟩ := X.same k v w h1 h2; exact ⟨q1.symm, q2.symm⟩) fun k w hk hw => ?_
    rcases vcase k w hw with ⟨u, h, _⟩ | ⟨_, h1, _, h2⟩
    · omega
    · have hne : x.writes ≠ [] := fun e => by rw [e] at h2; simp at h2
      have := s.snap y hy
      rw [if_neg hne] at hnow
      unfold hitV
      have hf : ¬ w.num ≤ y.snap := by omega
      simp [hf]
  have setL : ∀ {j : Nat} {y : Run}, (list.set i x')[j]? = some y → (j = i ∧ y = x') ∨ (j ≠ i ∧ list[j]? = some y) := fun h => set_cases h
  have setG : ∀ {j : Nat} {k : Gh}, (G.set i { g with ce := clk })[j]? = some k → (j = i ∧ k = { g with ce := clk }) ∨ (j ≠ i ∧ G[j]? = some k) := fun h => set_cases h
  have vn : ∀ v ∈ vs, v.by_ ≠ i := fun v hv e => by
    obtain ⟨y, k, h1, h2, h3, _⟩ := s.vby v hv
    rw [e, hx] at h1
    cases h1
    rw [hc] at h3
    cases h3
  refine ⟨?_, ?_, ?_, ?_, ?_, ?_, commitV_VN _ s.vnext now' i, ?_, ?_⟩
  · intro a b y z k h hab hy hz hk hh ay az hr p1 p2
    rcases setL hy with ⟨e1, e3⟩ | ⟨n1, hy2⟩ <;> rcases setL hz with ⟨e2, e4⟩ | ⟨n2, hz2⟩
    · exact absurd (e1.trans e2.symm) hab
    · obtain ⟨_, hk2⟩ := (setG hk).resolve_right (fun h => h.1 e1)
      obtain ⟨_, hh2⟩ := (setG hh).resolve_left (fun h => n2 h.1)
      rw [e3, hre] at hr
      rw [e1] at hab
      rw [hk2] at p2 ⊢
      exact s.flags i b x z g h hab hx hz2 hg hh2 (.inl ho) az hr (fun q => by rw [hc] at q; exact absurd q.1 (by decide)) p2
    · obtain ⟨_, hh2⟩ := (setG hh).resolve_right (fun h => h.1 e2)
      obtain ⟨_, hk2⟩ := (setG hk).resolve_left (fun h => n1 h.1)
      rw [e4, hwr] at hr
      rw [e2] at hab
      rw [hh2] at p1 ⊢
      exact s.flags a i y x k g hab hy2 hx hk2 hg ay (.inl ho) hr p1 (fun q => by rw [hc] at q; exact absurd q.1 (by decide))
    · obtain ⟨_, hk2⟩ := (setG hk).resolve_left (fun h => n1 h.1)
      obtain ⟨_, hh2⟩ := (setG hh).resolve_left (fun h => n2 h.1)
      exact s.flags a b y z k h hab hy2 hz2 hk2 hh2 ay az hr p1 p2
  · intro a y k hy hk hcy
    rcases setL hy with ⟨e1, e3⟩ | ⟨n1, hy2⟩
    · obtain ⟨_, hk2⟩ := (setG hk).resolve_right (fun h => h.1 e1)
      rw [hk2]
      exact hfl
    · obtain ⟨_, hk2⟩ := (setG hk).resolve_left (fun h => n1 h.1)
      exact s.notboth a y k hy2 hk2 hcy
  · intro a b y z k h hab hy hz hk hh ay cz hsh
    rcases setL hy with ⟨e1, e3⟩ | ⟨n1, hy2⟩ <;> rcases setL hz with ⟨e2, e4⟩ | ⟨n2, hz2⟩
    · exact absurd (e1.trans e2.symm) hab
    · obtain ⟨_, hk2⟩ := (setG hk).resolve_right (fun h => h.1 e1)
      obtain ⟨_, hh2⟩ := (setG hh).resolve_left (fun h => n2 h.1)
      rw [e3, hwr] at hsh
      rw [e1] at hab
      rw [hk2]
      rcases s.fcw i b x z g h hab hx hz2 hg hh2 (.inl ho) cz hsh with q | ⟨q, _⟩
      · exact .inl q
      · rw [hc] at q; cases q
    · obtain ⟨_, hh2⟩ := (setG hh).resolve_right (fun h => h.1 e2)
      obtain ⟨_, hk2⟩ := (setG hk).resolve_left (fun h => n1 h.1)
      rw [e4, hwr] at hsh
      obtain ⟨w, w1, w2⟩ := hsh
      rw [hh2]
      rcases ay with ay | ay
      · exact absurd w1 (hlock a y n1 hy2 ay w w2)
      · refine .inr ⟨ay, ?_⟩
        rcases s.fcw i a x y g k (fun e => n1 e.symm) hx hy2 hg hk2 (.inl ho) ay ⟨w, w2, w1⟩ with q | ⟨q, _⟩
        · exact q
        · rw [hc] at q; cases q
    · obtain ⟨_, hk2⟩ := (setG hk).resolve_left (fun h => n1 h.1)
      obtain ⟨_, hh2⟩ := (setG hh).resolve_left (fun h => n2 h.1)
      exact s.fcw a b y z k h hab hy2 hz2 hk2 hh2 ay cz hsh
  · intro v hv
    obtain ⟨k, hv⟩ := List.mem_iff_getElem?.1 hv
    rcases vcase k v hv with ⟨u, h1, h2, q1, q2, q3⟩ | ⟨h1, q2, q3, q4⟩
    · have hu := List.mem_of_getElem? h2
      obtain ⟨y, h, r1, r2, r3, r4, r5, r6, r7⟩ := s.vby u hu
      have hne := vn u hu
      refine ⟨y, h, by rw [q3, set_ne hne]; exact r1, by rw [q3, set_ne hne]; exact r2, r3, by rw [q1]; exact r4, by omega, by omega, fun a z f hz hf => ?_⟩
      rw [q2]
      rcases setL hz with ⟨e1, e3⟩ | ⟨n1, hz2⟩
      · obtain ⟨_, hf2⟩ := (setG hf).resolve_right (fun h => h.1 e1)
        rw [e3, hsn, hf2]
        exact r7 i x g hx hg
      · obtain ⟨_, hf2⟩ := (setG hf).resolve_left (fun h => n1 h.1)
        exact r7 a z f hz2 hf2
    · have hmem := List.mem_of_getElem? q4
      have hne : x.writes ≠ [] := fun e => by rw [e] at hmem; cases hmem
      rw [if_neg hne] at hnow
      refine ⟨x', { g with ce := clk }, by rw [q3]; exact set_at hx, by rw [q3]; exact hGi, hc', by rw [hwr]; exact hmem, by omega, by omega, fun a z f hz hf => ?_⟩
      have hsz : z.snap ≤ now := by
        rcases setL hz with ⟨e1, e3⟩ | ⟨n1, hz2⟩
        · rw [e3, hsn]; exact s.snap x (List.mem_of_getElem? hx)
        · exact s.snap z (List.mem_of_getElem? hz2)
      have hfb : f.cb < clk := by
        rcases setG hf with ⟨e1, e3⟩ | ⟨n1, hf2⟩
        · rw [e3]; exact hcb i g hg
        · exact hcb a f hf2
      constructor
      · intro q; omega
      · intro q
        have : clk < f.cb := q
        omega
  · intro j y hy hcy a ha
    rcases setL hy with ⟨e1, e3⟩ | ⟨n1, hy2⟩
    · rw [e3, hwr] at ha
      obtain ⟨q, hq⟩ := List.mem_iff_getElem?.1 ha
      obtain ⟨v, h1, h2, h3, h4⟩ := X.new q a hq
      exact ⟨v, List.mem_of_getElem? h1, by rw [h4, e1], h2⟩
    · obtain ⟨v, hv, h1, h2⟩ := s.vall j y hy2 hcy a ha
      obtain ⟨k, hk⟩ := List.mem_iff_getElem?.1 hv
      obtain ⟨v', hv'⟩ : ∃ u, (commitV vs x.writes now' i)[k]? = some u := ⟨_, List.getElem?_eq_getElem (by rw [X.len]; have := (List.getElem?_eq_some_iff.1 hk).1; omega)⟩
      obtain ⟨q1, q2, q3⟩ := X.same k v v' hk hv'
      exact ⟨v', List.mem_of_getElem? hv', q3.trans h1, q1.trans h2⟩
  · rw [List.pairwise_iff_getElem]
    intro p q hp hq hpq
    obtain ⟨v, hv⟩ : ∃ v, v = (commitV vs x.writes now' i)[p] := ⟨_, rfl⟩
    obtain ⟨u, hu⟩ : ∃ v, v = (commitV vs x.writes now' i)[q] := ⟨_, rfl⟩
    rw [← hv, ← hu]
    have hv' : (commitV vs x.writes now' i)[p]? = some v := by rw [hv]; exact List.getElem?_eq_getElem hp
    have hu' : (commitV vs x.writes now' i)[q]? = some u := by rw [hu]; exact List.getElem?_eq_getElem hq
    rcases vcase p v hv' with ⟨v0, a1, a2, a3, a4, a5⟩ | ⟨a1, a4, a5, a6⟩ <;> rcases vcase q u hu' with ⟨u0, b1, b2, b3, b4, b5⟩ | ⟨b1, b4, b5, b6⟩
    · have hO := List.pairwise_iff_getElem.1 s.vord p q a1 b1 hpq
      have e1 : vs[p] = v0 := by rw [List.getElem?_eq_getElem a1] at a2; cases a2; rfl
      have e2 : vs[q] = u0 := by rw [List.getElem?_eq_getElem b1] at b2; cases b2; rfl
      rw [e1, e2] at hO
      rw [a3, a4, a5, b3, b4, b5]
      refine ⟨hO.1, fun k h hk hh => ?_, hO.2.2⟩
      rw [set_ne (vn v0 (List.mem_of_getElem? a2))] at hk
      rw [set_ne (vn u0 (List.mem_of_getElem? b2))] at hh
      exact hO.2.1 k h hk hh
    · have hv0 := List.mem_of_getElem? a2
      obtain ⟨y, h, r1, r2, r3, r4, r5, r6, r7⟩ := s.vby v0 hv0
      rw [a4, a5, b4, b5]
      refine ⟨by omega, fun k f hk hf => ?_, fun _ => vn v0 hv0⟩
      rw [set_ne (vn v0 hv0), r2] at hk
      cases hk
      rw [hGi] at hf
      cases hf
      exact Int.le_of_lt (hce _ y h r1 r2 r3)
    · omega
    · rw [a4, a5, b4, b5]
      refine ⟨Int.le_refl _, fun k h hk hh => by rw [hk] at hh; cases hh; exact Int.le_refl _, fun e => ?_⟩
      exfalso
      have h1 : p - vs.length < x.writes.length := (List.getElem?_eq_some_iff.1 a6).1
      have h2 : q - vs.length < x.writes.length := (List.getElem?_eq_some_iff.1 b6).1
      rw [List.nodup_iff_pairwise_ne, List.pairwise_iff_getElem] at hnd
      refine hnd (p - vs.length) (q - vs.length) h1 h2 (by omega) ?_
      rw [List.getElem?_eq_getElem h1] at a6
      rw [List.getElem?_eq_getElem h2] at b6
      injection a6 with a6
      injection b6 with b6
      exact a6.trans (e.trans b6.symm)
  · intro y hy r hr
    obtain ⟨j, hy⟩ := List.mem_iff_getElem?.1 hy
    rcases setL hy with ⟨e1, e3⟩ | ⟨n1, hy2⟩
    · rw [e3, hre] at hr
      rw [e3, hsn, vsnap x (List.mem_of_getElem? hx)]
      exact s.saw x (List.mem_of_getElem? hx) r hr
    · rw [vsnap y (List.mem_of_getElem? hy2)]
      exact s.saw y (List.mem_of_getElem? hy2) r hr
  · intro y hy
    obtain ⟨j, hy⟩ := List.mem_iff_getElem?.1 hy
    rcases setL hy with ⟨e1, e3⟩ | ⟨n1, hy2⟩
    · rw [e3, hsn]; exact Int.le_trans (s.snap x (List.mem_of_getElem? hx)) hle
    · exact Int.le_trans (s.snap y (List.mem_of_getElem? hy2)) hle
end Go.Proofs.YthaoedfalkebbaaGreat
namespace Go.Proofs.YthaoedfalkebbaaGreat
set_option linter.unusedVariables false
set_option linter.unusedSectionVars false
def Edge (list : List Run) (G : List Gh) (f t : Nat) : Prop := ∃ x y g h, list[f]? = some x ∧ list[t]? = some y ∧ G[f]? = some g ∧ G[t]? = some h ∧ x.committed = true ∧ y.committed = true ∧ (g.ce < h.cb ∨ (g.cb < h.ce ∧ g.fout = true ∧ h.fin = true))
section
variable {ρ : Type} {I : RdI ρ} {ok : ρ → Prop} {most : Int}
theorem firstV_cases (vs : List Ver) (a : Lk) : (firstV vs a = -1) ∨ ∃ (k : Nat) (v : Ver), firstV vs a = (k : Int) ∧ vs[k]? = some v ∧ v.at_ = a := by
  unfold firstV
  by_cases h : vs.findIdx (fun v => decide (v.at_ = a)) < vs.length
  · rw [if_pos h]
    refine .inr ⟨_, vs[vs.findIdx (fun v => decide (v.at_ = a))], rfl, List.getElem?_eq_getElem h, ?_⟩
    have := List.findIdx_getElem (w := h)
    exact of_decide_eq_true this
  · rw [if_neg h]
    exact .inl rfl
theorem deps_edge {S : Sm ρ} {list : List Run} {G : List Gh} {vs : List Ver} {now : Int} (M : MI I ok S list G) (s : SI list G vs now) {f t : Nat} (h : (f, t) ∈ depsW vs list) : f = t ∨ Edge list G f t := by
  unfold depsW at h
  rcases List.mem_append.1 h with h | h
  · -- of a read
    obtain ⟨l, hl, h⟩ := List.mem_flatten.1 h
    obtain ⟨i, hi⟩ := List.mem_iff_getElem?.1 hl
    rw [List.getElem?_mapIdx] at hi
    cases hx : list[i]? with
    | none => rw [hx] at hi; cases hi
    | some x =>
      rw [hx] at hi
      simp only [Option.map_some, Option.some.injEq] at hi
      subst hi
      unfold depsX at h
      by_cases hnc : ¬ x.committed = true
      · rw [if_neg hnc] at h; cases h
      have hc : x.committed = true := Classical.not_not.1 hnc
      rw [if_pos hc] at h
      obtain ⟨r, hr, h⟩ := List.mem_flatMap.1 h
      obtain ⟨g, hg⟩ := M.gh hx
      have hsaw := s.saw x (List.mem_of_getElem? hx) r hr
      -- a version of the row that the snapshot does not hold
      have rw_ : ∀ (m : Nat) (u : Ver), vs[m]? = some u → u.at_ = r.at_ → ¬ u.num ≤ x.snap → i = u.by_ ∨ Edge list G i u.by_ := by
        intro m u hm ha hn
        by_cases e : i = u.by_
        · exact .inl e
        · refine .inr ?_
          obtain ⟨y, k, r1, r2, r3, r4, r5, r6, r7⟩ := s.vby u (List.mem_of_getElem? hm)
          refine ⟨x, y, g, k, hx, r1, hg, r2, hc, r3, ?_⟩
          by_cases h1 : g.ce < k.cb
          · exact .inl h1
          · have h2 : ¬ k.ce < g.cb := fun q => hn ((r7 i x g hx hg).2 q)
            have h3 := M.neq u.by_ i y k g r1 r3 r2 hg
            have h4 := s.flags i u.by_ x y g k e hx r1 hg r2 (.inr hc) (.inr r3) ⟨r, hr, by rw [← ha]; exact r4⟩ (fun q => h1 q.2) (fun q => h2 q.2)
            exact .inr ⟨by omega, h4⟩
      unfold depsR at h
      rcases newest_cases vs r.at_ x.snap with ⟨e, hno⟩ | ⟨k, v, e, hv, hh, hno⟩
      · rw [← hsaw] at e
        have hneg : ¬ (0 : Int) ≤ r.saw := by omega
        simp only [if_neg hneg, List.nil_append] at h
        rcases firstV_cases vs r.at_ with e2 | ⟨k, v, e2, hv, ha⟩
        · rw [e2] at h
          simp at h
        · rw [e2] at h
          simp only [Int.natCast_nonneg, if_true, Int.toNat_natCast, hv, Option.map_some, Option.getD_some, List.mem_singleton, Prod.mk.injEq] at h
          obtain ⟨rfl, rfl⟩ := h
          refine rw_ k v hv ha fun q => ?_
          have := hno k v hv
          unfold hitV at this
          simp [ha, q] at this
      · rw [← hsaw] at e
        have hpos : (0 : Int) ≤ r.saw := by omega
        have hto : r.saw.toNat = k := by omega
        simp only [if_pos hpos, hto, hv, Option.map_some, Option.getD_some] at h
        unfold hitV at hh
        simp only [Bool.and_eq_true, decide_eq_true_eq] at hh
        rcases List.mem_append.1 h with h | h
        · rw [List.mem_singleton, Prod.mk.injEq] at h
          obtain ⟨rfl, rfl⟩ := h
          obtain ⟨y, q, r1, r2, r3, r4, r5, r6, r7⟩ := s.vby v (List.mem_of_getElem? hv)
          exact .inr ⟨y, x, q, g, r1, hx, r2, hg, r3, hc, .inl ((r7 t x g hx hg).1 hh.2)⟩
        · by_cases hn : 0 ≤ v.next
          · rw [if_pos hn] at h
            obtain ⟨m, u, q1, q2, q3, q4⟩ := s.vnext k v hv hn
            rw [show v.next.toNat = m by omega, q3] at h
            simp only [Option.map_some, Option.getD_some, List.mem_singleton, Prod.mk.injEq] at h
            obtain ⟨rfl, rfl⟩ := h
            refine rw_ m u q3 (q4.trans hh.1) fun q => ?_
            have := hno m u q2 q3
            unfold hitV at this
            simp [q4.trans hh.1, q] at this
          · rw [if_neg hn] at h
            cases h
  · -- of two versions
    obtain ⟨v, hv, h⟩ := List.mem_flatMap.1 h
    unfold depsV at h
    by_cases hn : 0 ≤ v.next
    · rw [if_pos hn] at h
      obtain ⟨k, hk⟩ := List.mem_iff_getElem?.1 hv
      obtain ⟨m, u, q1, q2, q3, q4⟩ := s.vnext k v hk hn
      rw [show v.next.toNat = m by omega, q3] at h
      simp only [Option.map_some, Option.getD_some, List.mem_singleton, Prod.mk.injEq] at h
      obtain ⟨rfl, rfl⟩ := h
      obtain ⟨x, g, a1, a2, a3, a4, a5, a6, a7⟩ := s.vby v hv
      obtain ⟨y, h, b1, b2, b3, b4, b5, b6, b7⟩ := s.vby u (List.mem_of_getElem? q3)
      have hkl := (List.getElem?_eq_some_iff.1 hk).1
      have hml := (List.getElem?_eq_some_iff.1 q3).1
      have hO := List.pairwise_iff_getElem.1 s.vord k m hkl hml q2
      have e1 : vs[k] = v := by rw [List.getElem?_eq_getElem hkl] at hk; injection hk
      have e2 : vs[m] = u := by rw [List.getElem?_eq_getElem hml] at q3; injection q3
      rw [e1, e2] at hO
      have hne := hO.2.2 q4.symm
      refine .inr ⟨x, y, g, h, a1, b1, a2, b2, a3, b3, .inl ?_⟩
      rcases s.fcw u.by_ v.by_ y x h g (fun e => hne e.symm) b1 a1 b2 a2 (.inr b3) a3 ⟨u.at_, b4, by rw [q4]; exact a4⟩ with q | ⟨_, q⟩
      · exact q
      · have := hO.2.1 g h a2 b2
        have := (M.clock _ x g a1 a2).2 a3
        omega
    · rw [if_neg hn] at h
      cases h
/-- the least of some -/
theorem least_of (P : Nat → Prop) (c : Nat → Int) : ∀ n : Nat, (∃ i, i < n ∧ P i) → ∃ i, i < n ∧ P i ∧ ∀ j, j < n → P j → c i ≤ c j
  | 0, ⟨i, h, _⟩ => by omega
  | n + 1, h => by
    by_cases h2 : ∃ i, i < n ∧ P i
    · obtain ⟨i, hi, hp, hm⟩ := least_of P c n h2
      by_cases h3 : P n ∧ c n < c i
      · refine ⟨n, by omega, h3.1, fun j hj hpj => ?_⟩
        rcases Nat.lt_or_ge j n with h4 | h4
        · have := hm j h4 hpj; omega
        · obtain rfl : j = n := by omega
          exact Int.le_refl _
      · refine ⟨i, by omega, hp, fun j hj hpj => ?_⟩
        rcases Nat.lt_or_ge j n with h4 | h4
        · exact hm j h4 hpj
        · obtain rfl : j = n := by omega
          have : ¬ c j < c i := fun q => h3 ⟨hpj, q⟩
          omega
    · obtain ⟨i, hi, hp⟩ := h
      have : i = n := by
        rcases Nat.lt_or_ge i n with h4 | h4
        · exact absurd ⟨i, h4, hp⟩ h2
        · omega
      subst this
      refine ⟨i, by omega, hp, fun j hj hpj => ?_⟩
      rcases Nat.lt_or_ge j i with h4 | h4
      · exact absurd ⟨j, h4, hpj⟩ h2
      · obtain rfl : j = i := by omega
        exact Int.le_refl _
/-- of those that are left one has none left ahead of it -/
theorem free_one {S : Sm ρ} {list : List Run} {G : List Gh} {vs : List Ver} {now : Int} (M : MI I ok S list G) (s : SI list G vs now) (left : Nat → Prop) (hex : ∃ i, i < list.length ∧ left i) :
    ∃ i, i < list.length ∧ left i ∧ ∀ f t, (f, t) ∈ depsW vs list → t = i → f ≠ i → ¬ left f := by
  refine Classical.byContradiction fun hno => ?_
  have stuck : ∀ i, i < list.length → left i → ∃ f, Edge list G f i ∧ f ≠ i ∧ left f := by
    intro i hi hl
    refine Classical.byContradiction fun h => hno ⟨i, hi, hl, fun f t hd ht hf hlf => ?_⟩
    subst ht
    rcases deps_edge M s hd with e | E
    · exact hf e
    · exact h ⟨f, E, hf, hlf⟩
  have ofE : ∀ {f t : Nat}, Edge list G f t → f < list.length := fun ⟨x, y, g, h, h1, _⟩ => (List.getElem?_eq_some_iff.1 h1).1
  -- the one that ends first
  obtain ⟨i0, hi0, hl0⟩ := hex
  obtain ⟨f0, E0, _, hlf0⟩ := stuck i0 hi0 hl0
  let c : Nat → Int := fun i => match G[i]? with | some g => g.ce | none => 0
  have hc : ∀ i g, G[i]? = some g → c i = g.ce := fun i g h => by show (match G[i]? with | some g => g.ce | none => 0) = _; rw [h]
  let P : Nat → Prop := fun i => left i ∧ ∃ x, list[i]? = some x ∧ x.committed = true
  have hP0 : ∃ i, i < list.length ∧ P i := ⟨f0, ofE E0, hlf0, by obtain ⟨x, y, g, h, h1, h2, h3, h4, h5, h6, _⟩ := E0; exact ⟨x, h1, h5⟩⟩
  obtain ⟨i, hi, ⟨hl, _⟩, hmin⟩ := least_of P c list.length hP0
  obtain ⟨f, E, hfi, hlf⟩ := stuck i hi hl
  obtain ⟨x, y, g, h, h1, h2, h3, h4, h5, h6, hE⟩ := E
  have hf := (List.getElem?_eq_some_iff.1 h1).1
  have m1 := hmin f hf ⟨hlf, x, h1, h5⟩
  rw [hc f g h3, hc i h h4] at m1
  have ci := (M.clock i y h h2 h4).2 h6
  rcases hE with q | ⟨q1, q2, q3⟩
  · omega
  · obtain ⟨e, E2, hef, hle⟩ := stuck f hf hlf
    obtain ⟨x', y', g', h', k1, k2, k3, k4, k5, k6, hE2⟩ := E2
    have he := (List.getElem?_eq_some_iff.1 k1).1
    have m2 := hmin e he ⟨hle, x', k1, k5⟩
    rw [hc e g' k3, hc i h h4] at m2
    rw [h1] at k2
    cases k2
    rw [h3] at k4
    cases k4
    rcases hE2 with q | ⟨_, _, p3⟩
    · omega
    · exact s.notboth f x g h1 h3 h5 ⟨p3, q2⟩
end
end Go.Proofs.YthaoedfalkebbaaGreat
namespace Go.Proofs.YthaoedfalkebbaaGreat
set_option linter.unusedVariables false
set_option linter.unusedSectionVars false
section
variable {ρ : Type} {I : RdI ρ} {ok : ρ → Prop} {most : Int}
theorem MI.open_ {S : Sm ρ} {list : List Run} {G : List Gh} (M : MI I ok S list G) {i : Nat} {x : Run} (hx : list[i]? = some x) (ho : x.over = false) : x.committed = false ∧ ∃ t g, t ∈ S.txs ∧ G[i]? = some g ∧ t.num = (i : Int) + 1 ∧ t.act = true ∧ t.snap = x.snap ∧ t.begun = g.cb ∧ t.fin = g.fin ∧ t.fout = g.fout ∧ S.actv ((i : Int) + 1) = some t := by
  refine ⟨?_, ?_⟩
  · cases h : x.committed with
    | false => rfl
    | true => have := M.over i x hx h; rw [ho] at this; cases this
  · obtain ⟨t, ht, e, a⟩ := M.under i x hx ho
    obtain ⟨g, hg⟩ := M.gh hx
    obtain ⟨h1, h2, h3, h4, _⟩ := M.of ht hx hg e
    refine ⟨t, g, ht, hg, e, a, h1, h2, h3, h4, ?_⟩
    unfold Sm.actv
    cases hf : S.txs.find? (fun t => t.num == (i : Int) + 1 && t.act) with
    | none =>
      rw [List.find?_eq_none] at hf
      have := hf t ht
      simp [e, a] at this
    | some u =>
      have h5 := List.find?_some hf
      have h6 := List.mem_of_find?_eq_some hf
      simp at h5
      rw [dist_inj M.dist h6 ht (by omega)]
theorem note_MI (L : RdL I ok most) {S : Sm ρ} {list : List Run} {G : List Gh} (M : MI I ok S list G) {t : Tx} (ht : t ∈ S.txs) (x : Rd) : MI I ok { S with reads := (I.note S.reads t.num x).2 } list G := by
  constructor
  · exact M.len
  · exact L.note_ok _ _ _ M.okr
  · exact M.last
  · exact M.num
  · exact M.tx
  · exact M.dist
  · exact M.under
  · exact M.kept
  · exact M.over
  · exact M.clock
  · exact M.neq
  · exact M.locks
  · exact M.lown
  · exact M.ldist
  · exact M.wnd
  · exact fun u hu i y hy e r hr => L.note_keep _ _ _ _ _ _ M.okr (M.reads u hu i y hy e r hr)
  · intro n hn
    rcases L.note_has _ _ _ _ M.okr hn with h | h
    · exact M.owners n h
    · exact ⟨t, ht, h.symm⟩
/-- a run reads more -/
theorem reads_MI {S : Sm ρ} {list : List Run} {G : List Gh} (M : MI I ok S list G) {i : Nat} {x x' : Run} (hx : list[i]? = some x) (ho : x.over = false) (h1 : x'.tx = x.tx) (h2 : x'.over = false) (h3 : x'.committed = false) (h4 : x'.writes = x.writes) (h5 : x'.snap = x.snap)
    (hr : ∀ r ∈ x'.reads, r ∈ x.reads ∨ ((i : Int) + 1) ∈ I.rdrs S.reads r.at_.1 r.at_.2) : MI I ok S (list.set i x') G := by
  have hxc := (M.open_ hx ho).1
  constructor
  · rw [List.length_set]; exact M.len
  · exact M.okr
  · rw [List.length_set]; exact M.last
  · intro j y hy
    rcases set_cases hy with ⟨rfl, rfl⟩ | ⟨_, hy⟩
    · rw [h1]; exact M.num _ _ hx
    · exact M.num _ _ hy
  · intro t ht
    obtain ⟨j, y, g, k1, k2, k3, k4, k5, k6, k7, k8, k9⟩ := M.tx t ht
    by_cases e : j = i
    · subst e
      rw [hx] at k1
      cases k1
      refine ⟨j, x', g, set_at hx, k2, k3, by rw [h5]; exact k4, k5, k6, k7, fun _ => h2, fun ha => ?_⟩
      have := (k9 ha).1
      rw [hxc] at this
      cases this
    · exact ⟨j, y, g, by rw [set_ne e]; exact k1, k2, k3, k4, k5, k6, k7, k8, k9⟩
  · exact M.dist
  · intro j y hy hyo
    rcases set_cases hy with ⟨rfl, rfl⟩ | ⟨hne, hy⟩
    · exact M.under _ x hx ho
    · exact M.under j y hy hyo
  · intro j y g hy hg hc hrw ha
    rcases set_cases hy with ⟨rfl, rfl⟩ | ⟨hne, hy⟩
    · rw [h3] at hc; cases hc
    · exact M.kept j y g hy hg hc hrw ha
  · intro j y hy hc
    rcases set_cases hy with ⟨rfl, rfl⟩ | ⟨hne, hy⟩
    · rw [h3] at hc; cases hc
    · exact M.over j y hy hc
  · intro j y g hy hg
    rcases set_cases hy with ⟨rfl, rfl⟩ | ⟨hne, hy⟩
    · exact ⟨(M.clock _ _ _ hx hg).1, fun h => by rw [h3] at h; cases h⟩
    · exact M.clock j y g hy hg
  · intro j k y g g' hy hc hg hg'
    rcases set_cases hy with ⟨rfl, rfl⟩ | ⟨hne, hy⟩
    · rw [h3] at hc; cases hc
    · exact M.neq j k y g g' hy hc hg hg'
  · intro j y hy hyo
    rcases set_cases hy with ⟨rfl, rfl⟩ | ⟨hne, hy⟩
    · rw [h4]; exact M.locks _ x hx ho
    · exact M.locks j y hy hyo
  · intro p hp
    obtain ⟨j, y, k1, k2, k3⟩ := M.lown p hp
    by_cases e : j = i
    · subst e; exact ⟨j, x', set_at hx, h2, k3⟩
    · exact ⟨j, y, by rw [set_ne e]; exact k1, k2, k3⟩
  · exact M.ldist
  · intro y hy
    obtain ⟨j, hy⟩ := List.mem_iff_getElem?.1 hy
    rcases set_cases hy with ⟨rfl, rfl⟩ | ⟨hne, hy⟩
    · rw [h4]; exact M.wnd x (List.mem_of_getElem? hx)
    · exact M.wnd y (List.mem_of_getElem? hy)
  · intro t ht j y hy e r hre
    rcases set_cases hy with ⟨rfl, rfl⟩ | ⟨_, hy⟩
    · rcases hr r hre with h | h
      · exact M.reads t ht _ x hx e r h
      · rw [e]; exact h
    · exact M.reads t ht j y hy e r hre
  · exact M.owners
/-- what put leaves of the flags -/
theorem put_flags {S : Sm ρ} {list : List Run} {G : List Gh} (M : MI I ok S list G) {t o : Tx} (ht : t ∈ S.txs) (ho : o ∈ S.txs) {so : Tx → Bool} {out : Bool} (hc : concB t o = true) (hs : so o = true) {i j : Nat} (ei : t.num = (i : Int) + 1) (ej : o.num = (j : Int) + 1) {g h : Gh}
    (hg : (upG S.txs (putF S.txs t so out) G)[i]? = some g) (hh : (upG S.txs (putF S.txs t so out) G)[j]? = some h) : (out = true → g.fout = true ∧ h.fin = true) ∧ (out = false → g.fin = true ∧ h.fout = true) := by
  obtain ⟨a1, a2⟩ := upG_tx M ht ei hg
  obtain ⟨b1, b2⟩ := upG_tx M ho ej hh
  have hne : (o.num == t.num) = false := by unfold concB at hc; simp only [Bool.and_eq_true, bne_iff_ne] at hc; simpa using hc.1
  have hsome : S.txs.any (fun o => concB t o && so o) = true := List.any_eq_true.2 ⟨o, ho, by rw [hc, hs]; rfl⟩
  have e1 : putF S.txs t so out t = setF t (!out) := by unfold putF; simp [hsome]
  have e2 : putF S.txs t so out o = setF o out := by unfold putF; simp [hne, hc, hs]
  rw [e1] at a1 a2
  rw [e2] at b1 b2
  unfold setF at a1 a2 b1 b2
  simp only at a1 a2 b1 b2
  refine ⟨fun e => ?_, fun e => ?_⟩ <;> subst e <;> simp [a1, a2, b1, b2]
theorem put_notboth {S S' : Sm ρ} {list : List Run} {G : List Gh} (M : MI I ok S list G) {vs : List Ver} {now : Int} (s : SI list G vs now) {t : Tx} (ht : t ∈ S.txs) (hta : t.act = true) {so : Tx → Bool} {out : Bool} (hp : S.put I t so out = (0, S')) :
    ∀ (i : Nat) x g', list[i]? = some x → (upG S.txs (putF S.txs t so out) G)[i]? = some g' → x.committed = true → ¬ (g'.fin = true ∧ g'.fout = true) := by
  intro i x g' hx hg' hc ⟨p1, p2⟩
  obtain ⟨_, _, hok⟩ := put_ok hp
  obtain ⟨g, h0, h1, h2, h3⟩ := upG_at hg'
  have hnb := s.notboth i x g hx h0 hc
  rcases h3 with ⟨o, ho, e, q1, q2⟩ | ⟨_, q1, q2⟩
  · obtain ⟨_, _, f1, f2, f3, _⟩ := M.of ho hx h0 e
    have hoa : o.act = false := by
      cases h : o.act with
      | false => rfl
      | true => have := f3 h; rw [M.over i x hx hc] at this; cases this
    have hne : (o.num == t.num) = false := by
      cases h : (o.num == t.num) with
      | false => rfl
      | true =>
        have := dist_inj M.dist ho ht (by simpa using h)
        rw [this, hta] at hoa
        cases hoa
    unfold putF at q1 q2
    simp only [hne] at q1 q2
    by_cases hcs : (concB t o && so o) = true
    · simp only [hcs, Bool.false_eq_true, if_true, if_false] at q1 q2
      simp only [Bool.and_eq_true] at hcs
      have := hok o ho hcs.1 hcs.2 hoa
      unfold bothB at this
      unfold setF at q1 q2
      simp only at q1 q2
      rw [← q1, ← q2, p1, p2] at this
      cases this
    · simp only [hcs, Bool.false_eq_true, if_false] at q1 q2
      exact hnb ⟨by rw [← f1, ← q1]; exact p1, by rw [← f2, ← q2]; exact p2⟩
  · exact hnb ⟨by rw [← q1]; exact p1, by rw [← q2]; exact p2⟩
/-- one that has written something that is concurrent with one under way is there, and concurrent -/
theorem MI.there {S : Sm ρ} {list : List Run} {G : List Gh} (M : MI I ok S list G) {t : Tx} (ht : t ∈ S.txs) (hta : t.act = true) {i j : Nat} (ei : t.num = (i : Int) + 1) (hij : i ≠ j) {y : Run} {g h : Gh} (hg : G[i]? = some g) (hy : list[j]? = some y) (hh : G[j]? = some h) (ay : alive y) (hrw : y.reads ≠ [] ∨ y.writes ≠ []) (hc : ¬ (y.committed = true ∧ h.ce < g.cb)) :
    ∃ o ∈ S.txs, o.num = (j : Int) + 1 ∧ concB t o = true ∧ (∀ a, a ∈ y.writes ↔ a ∈ (if o.act then heldOf S.locks o.num else o.wrote)) ∧ (o.act = false → y.committed = true ∧ ∀ a, a ∈ o.wrote ↔ a ∈ y.writes) ∧ (o.act = true → y.over = false) := by
  obtain ⟨x, g0, k1, k2, k3, k4⟩ : ∃ x g0, list[i]? = some x ∧ G[i]? = some g0 ∧ t.begun = g0.cb ∧ True := by
    obtain ⟨i', x, g0, k1, k2, k3, k4, k5, _⟩ := M.tx t ht
    obtain rfl : i' = i := by omega
    exact ⟨x, g0, k1, k2, k5, trivial⟩
  rw [hg] at k2
  cases k2
  by_cases hyo : y.over = false
  · obtain ⟨o, ho, e, a⟩ := M.under j y hy hyo
    refine ⟨o, ho, e, ?_, fun b => ?_, fun h => (by rw [a] at h; cases h), fun _ => hyo⟩
    · unfold concB
      have : o.num ≠ t.num := by omega
      simp [this, a]
    · rw [a, if_pos rfl, e, M.locks j y hy hyo]
  · have hyc : y.committed = true := ay.resolve_left hyo
    have hlt : ¬ h.ce < g.cb := fun q => hc ⟨hyc, q⟩
    have hne := M.neq j i y h g hy hyc hh hg
    obtain ⟨o, ho, e⟩ := M.kept j y h hy hh hyc hrw ⟨t, ht, hta, by omega⟩
    obtain ⟨_, _, _, _, f3, f4⟩ := M.of ho hy hh e
    have hoa : o.act = false := by
      cases h : o.act with
      | false => rfl
      | true => exact absurd (f3 h) hyo
    obtain ⟨f5, f6, f7⟩ := f4 hoa
    refine ⟨o, ho, e, ?_, fun b => ?_, fun _ => ⟨hyc, f7⟩, fun h => (by rw [hoa] at h; cases h)⟩
    · unfold concB
      have h1 : o.num ≠ t.num := by omega
      have h2 : t.begun < o.ended := by omega
      simp [h1, h2]
    · rw [hoa]; exact (f7 b).symm
end
end Go.Proofs.YthaoedfalkebbaaGreat
namespace Go.Proofs.YthaoedfalkebbaaGreat
set_option linter.unusedVariables false
set_option linter.unusedSectionVars false
section
variable {ρ : Type} {I : RdI ρ} {ok : ρ → Prop} {most : Int}
/-- G' is G with more flags -/
def Grow (G G' : List Gh) : Prop := G'.length = G.length ∧ ∀ (k : Nat) g', G'[k]? = some g' → ∃ g, G[k]? = some g ∧ g'.cb = g.cb ∧ g'.ce = g.ce ∧ (g.fin = true → g'.fin = true) ∧ (g.fout = true → g'.fout = true)
theorem Grow.refl (G : List Gh) : Grow G G := ⟨rfl, fun k g h => ⟨g, h, rfl, rfl, id, id⟩⟩
theorem upG_grow {S : Sm ρ} {list : List Run} {G : List Gh} (M : MI I ok S list G) {φ : Tx → Tx} (F : Flg φ) : Grow G (upG S.txs φ G) := ⟨upG_len _ _ _, fun k g' h => upG_mono M F h⟩
/-- refused: gone, nobody's flags have changed -/
structure Refused (I : RdI ρ) (ok : ρ → Prop) (S' : Sm ρ) (S : Sm ρ) (list : List Run) (G : List Gh) (vs : List Ver) (i : Nat) (x : Run) : Prop where
  mi : ∀ x', x'.tx = x.tx → x'.over = true → x'.committed = false → x'.writes = x.writes → MI I ok S' (list.set i x') G
  now : S'.now = S.now
  caps : S'.caps = S.caps
  gone : ∃ r, S' = Sm.gone I { S with reads := r } ((i : Int) + 1)
theorem refused_gone (L : RdL I ok most) {S : Sm ρ} {list : List Run} {G : List Gh} {vs : List Ver} (M : MI I ok S list G) {i : Nat} {x : Run} (hx : list[i]? = some x) (ho : x.over = false) : Refused I ok (S.gone I ((i : Int) + 1)) S list G vs i x :=
  ⟨fun x' h1 h2 h3 h4 => gone_MI L M hx ho h1 h2 h3 h4, rfl, rfl, ⟨S.reads, rfl⟩⟩
theorem eqS_eq {a b : ByteArray} (h : eqS a b = true) : a = b := toList_inj (by unfold eqS at h; simpa using h)
/-- a read is noted, and its dependencies put in -/
theorem noteS_step (L : RdL I ok most) {S : Sm ρ} {list : List Run} {G : List Gh} {vs : List Ver} (M : MI I ok S list G) (s : SI list G vs S.now) {i : Nat} {x : Run} (hx : list[i]? = some x) (ho : x.over = false) {t : Tx} (ht : S.actv ((i : Int) + 1) = some t) (nx : Rd) (f u : ByteArray) (rs : List Sw)
    (hsaw : ∀ r ∈ rs, r.saw = newest vs r.at_ x.snap) (hin : ∀ r ∈ rs, r.at_.1 = nx.t ∧ inR r.at_.2 f u = true ∧ holdB nx r.at_.2 = true) :
    ((S.noteS I t nx f u).1 ≠ 0 ∧ Refused I ok (S.noteS I t nx f u).2 S list G vs i x ∧ ((S.noteS I t nx f u).1 = 100 ∨ (S.noteS I t nx f u).1 = (I.note S.reads t.num nx).1)) ∨
    ((S.noteS I t nx f u).1 = 0 ∧ ∃ G', MI I ok (S.noteS I t nx f u).2 (list.set i { x with reads := x.reads ++ rs }) G' ∧ SI (list.set i { x with reads := x.reads ++ rs }) G' vs S.now ∧ Grow G G' ∧ (S.noteS I t nx f u).2.now = S.now ∧ (S.noteS I t nx f u).2.caps = S.caps ∧ (S.noteS I t nx f u).2.txs.map (fun t => (t.num, t.act)) = S.txs.map (fun t => (t.num, t.act)) ∧ (S.noteS I t nx f u).2.locks = S.locks) := by
  obtain ⟨hc, t', g, htm, hg, hnum, hact, hsn, hbg, _, _, hav⟩ := M.open_ hx ho
  rw [ht] at hav
  cases hav
  unfold Sm.noteS
  by_cases hn : (I.note S.reads t.num nx).1 ≠ 0
  · rw [if_pos hn]
    have hr := L.note_bad _ _ _ M.okr hn
    rw [hr, hnum]
    exact .inl ⟨by rw [← hnum]; exact hn, refused_gone L M hx ho, .inr (by rw [← hnum])⟩
  · rw [if_neg hn]
    have hn0 : (I.note S.reads t.num nx).1 = 0 := Classical.not_not.1 hn
    have M1 := note_MI L M htm nx
    obtain ⟨S1, hS1⟩ : ∃ S1, S1 = ({ S with reads := (I.note S.reads t.num nx).2 } : Sm ρ) := ⟨_, rfl⟩
    have hS1t : S1.txs = S.txs := by rw [hS1]
    have hS1l : S1.locks = S.locks := by rw [hS1]
    have hS1r : S1.reads = (I.note S.reads t.num nx).2 := by rw [hS1]
    rw [← hS1] at M1 ⊢
    obtain ⟨so, hso⟩ : ∃ so : Tx → Bool, so = (fun o => wroteB S.locks o nx.t f u) := ⟨_, rfl⟩
    rw [← hso]
    have htm1 : t ∈ S1.txs := by rw [hS1t]; exact htm
    rcases hp : S1.put I t so true with ⟨e, S'⟩
    by_cases he : e = 0
    · subst he
      obtain ⟨hS', hbt, hbo⟩ := put_ok hp
      have F := putF_flg S1.txs t so true
      refine .inr ⟨rfl, upG S1.txs (putF S1.txs t so true) G, ?_, ?_, upG_grow M1 F, by rw [hS', hS1], by rw [hS', hS1], ?_, by rw [hS', hS1]⟩
      · have M2 := flag_MI M1 F
        rw [← hS'] at M2
        refine reads_MI M2 hx ho rfl ho hc rfl rfl fun r hr => ?_
        rcases List.mem_append.1 hr with h | h
        · exact .inl h
        · refine .inr ?_
          obtain ⟨a1, _, a3⟩ := hin r h
          rw [hS']
          show (i : Int) + 1 ∈ I.rdrs S1.reads r.at_.1 r.at_.2
          rw [hS1r, ← hnum, a1]
          exact L.note_new _ _ _ _ M.okr hn0 a3
      · have s2 := s.grow (fun k g' h => upG_mono M1 F h) (upG_len _ _ _) (put_notboth M1 s htm1 hact hp)
        refine s2.change hx hc hc rfl ?_ ?_ ?_ ?_
        · intro j y g1 h1 hij hy hg1 hh1 ax ay ⟨r, hr, hrw⟩ p2
          rcases List.mem_append.1 hr with h | h
          · exact s2.flags i j x y g1 h1 hij hx hy hg1 hh1 (.inl ho) ay ⟨r, h, hrw⟩ (fun q => by rw [hc] at q; exact absurd q.1 (by decide)) p2
          · obtain ⟨a1, a2, a3⟩ := hin r h
            obtain ⟨g0, b0, b1, b2, _⟩ := upG_mono M1 F hg1
            obtain ⟨h0, c0, c1, c2, _⟩ := upG_mono M1 F hh1
            have hwn : y.writes ≠ [] := fun e => by rw [e] at hrw; cases hrw
            obtain ⟨o, ho1, eo, oc, ow, _, _⟩ := M1.there htm1 hact hnum hij b0 hy c0 ay (.inr hwn) (by rw [← c2, ← b1]; exact p2)
            have hsoo : so o = true := by
              rw [hso]
              show wroteB S.locks o nx.t f u = true
              unfold wroteB
              rw [List.any_eq_true]
              refine ⟨r.at_, by rw [← hS1l]; exact (ow _).1 hrw, ?_⟩
              rw [a1, a2]
              unfold eqS
              simp
            exact (put_flags M1 htm1 ho1 oc hsoo hnum eo hg1 hh1).1 rfl
        · intro j y g1 h1 hji hy hg1 hh1 ay ax hr p1
          exact s2.flags j i y x g1 h1 hji hy hx hg1 hh1 ay (.inl ho) hr p1 (fun q => by rw [hc] at q; exact absurd q.1 (by decide))
        · intro j y g1 h1 hij hy hg1 hh1 ax cy hw
          rcases s2.fcw i j x y g1 h1 hij hx hy hg1 hh1 (.inl ho) cy hw with q | ⟨q, _⟩
          · exact q
          · rw [hc] at q; cases q
        · intro r hr
          rcases List.mem_append.1 hr with h | h
          · exact s.saw x (List.mem_of_getElem? hx) r h
          · exact hsaw r h
      · rw [hS']
        show (S1.txs.map (putF S1.txs t so true)).map _ = _
        rw [List.map_map, hS1t]
        apply List.map_congr_left
        intro o _
        simp only [Function.comp]
        rw [(putF_flg S.txs t so true).num, (putF_flg S.txs t so true).act]
    · obtain ⟨h1, h2⟩ := put_bad hp he
      refine .inl ⟨he, ?_, .inl h1⟩
      show Refused I ok S' S list G vs i x
      rw [h2, hnum]
      have R := refused_gone (vs := vs) L M1 hx ho
      refine ⟨R.mi, ?_, ?_, ⟨S1.reads, ?_⟩⟩
      · rw [R.now, hS1]
      · rw [R.caps, hS1]
      · rw [hS1]
theorem holder_iff {L : List (Lk × Int)} (hd : L.Pairwise (fun p q => p.1 ≠ q.1)) {a : Lk} {n : Int} : holder L a = some n ↔ a ∈ heldOf L n := by
  unfold holder heldOf
  rw [Option.map_eq_some_iff]
  constructor
  · rintro ⟨p, h, e⟩
    have h1 := List.find?_some h
    have h2 := List.mem_of_find?_eq_some h
    simp at h1
    exact List.mem_map.2 ⟨p, List.mem_filter.2 ⟨h2, by simp [e]⟩, h1⟩
  · intro h
    obtain ⟨p, hp, e⟩ := List.mem_map.1 h
    obtain ⟨h1, h2⟩ := List.mem_filter.1 hp
    simp at h2
    cases hf : L.find? (fun p => p.1 = a) with
    | none =>
      rw [List.find?_eq_none] at hf
      have := hf p h1
      simp [e] at this
    | some q =>
      have h3 := List.find?_some hf
      have h4 := List.mem_of_find?_eq_some hf
      simp at h3
      refine ⟨q, rfl, ?_⟩
      by_cases e2 : p = q
      · rw [← e2]; exact h2
      · exfalso
        have : ∀ l : List (Lk × Int), l.Pairwise (fun p q => p.1 ≠ q.1) → p ∈ l → q ∈ l → p.1 ≠ q.1 := fun l => by
          induction l with
          | nil => intro _ h _; cases h
          | cons c l ih =>
            intro hl hp hq
            rw [List.pairwise_cons] at hl
            rcases List.mem_cons.1 hp with e3 | hp2 <;> rcases List.mem_cons.1 hq with e4 | hq2
            · exact absurd (e3.trans e4.symm) e2
            · rw [e3]; exact hl.1 q hq2
            · rw [e4]; exact fun e5 => hl.1 p hp2 e5.symm
            · exact ih hl.2 hp2 hq2
        exact this L hd h1 h4 (by rw [e, h3])
theorem holder_none {L : List (Lk × Int)} {a : Lk} (h : holder L a = none) : ∀ p ∈ L, p.1 ≠ a := by
  unfold holder at h
  rw [Option.map_eq_none_iff, List.find?_eq_none] at h
  intro p hp e
  have := h p hp
  simp [e] at this
/-- a lock more -/
theorem lock_MI {S : Sm ρ} {list : List Run} {G : List Gh} (M : MI I ok S list G) {i : Nat} {x x' : Run} (hx : list[i]? = some x) (ho : x.over = false) {a : Lk} (hn : holder S.locks a = none) (h1 : x'.tx = x.tx) (h2 : x'.over = false) (h3 : x'.committed = false) (h4 : x'.writes = x.writes ++ [a]) (h5 : x'.snap = x.snap) (h6 : x'.reads = x.reads) :
    MI I ok { S with locks := S.locks ++ [(a, (i : Int) + 1)] } (list.set i x') G := by
  have hxc := (M.open_ hx ho).1
  have hna := holder_none hn
  have hnw : a ∉ x.writes := fun h => by
    rw [← M.locks i x hx ho] at h
    unfold heldOf at h
    obtain ⟨p, hp, e⟩ := List.mem_map.1 h
    exact hna p (List.mem_filter.1 hp).1 e
  have hh : ∀ n : Int, heldOf (S.locks ++ [(a, (i : Int) + 1)]) n = if n = (i : Int) + 1 then heldOf S.locks n ++ [a] else heldOf S.locks n := fun n => by
    unfold heldOf
    rw [List.filter_append, List.map_append]
    by_cases e : n = (i : Int) + 1
    · rw [if_pos e]; subst e; simp
    · rw [if_neg e]
      have : ¬ ((i : Int) + 1 = n) := fun h => e h.symm
      simp [this]
  constructor
  · rw [List.length_set]; exact M.len
  · exact M.okr
  · rw [List.length_set]; exact M.last
  · intro j y hy
    rcases set_cases hy with ⟨rfl, rfl⟩ | ⟨_, hy⟩
    · rw [h1]; exact M.num _ _ hx
    · exact M.num _ _ hy
  · intro t ht
    obtain ⟨j, y, g, k1, k2, k3, k4, k5, k6, k7, k8, k9⟩ := M.tx t ht
    by_cases e : j = i
    · subst e
      rw [hx] at k1
      cases k1
      refine ⟨j, x', g, set_at hx, k2, k3, by rw [h5]; exact k4, k5, k6, k7, fun _ => h2, fun ha => ?_⟩
      have := (k9 ha).1
      rw [hxc] at this
      cases this
    · exact ⟨j, y, g, by rw [set_ne e]; exact k1, k2, k3, k4, k5, k6, k7, k8, k9⟩
  · exact M.dist
  · intro j y hy hyo
    rcases set_cases hy with ⟨rfl, rfl⟩ | ⟨hne, hy⟩
    · exact M.under _ x hx ho
    · exact M.under j y hy hyo
  · intro j y g hy hg hc hrw ha
    rcases set_cases hy with ⟨rfl, rfl⟩ | ⟨hne, hy⟩
    · rw [h3] at hc; cases hc
    · exact M.kept j y g hy hg hc hrw ha
  · intro j y hy hc
    rcases set_cases hy with ⟨rfl, rfl⟩ | ⟨hne, hy⟩
    · rw [h3] at hc; cases hc
    · exact M.over j y hy hc
  · intro j y g hy hg
    rcases set_cases hy with ⟨rfl, rfl⟩ | ⟨hne, hy⟩
    · exact ⟨(M.clock _ _ _ hx hg).1, fun h => by rw [h3] at h; cases h⟩
    · exact M.clock j y g hy hg
  · intro j k y g g' hy hc hg hg'
    rcases set_cases hy with ⟨rfl, rfl⟩ | ⟨hne, hy⟩
    · rw [h3] at hc; cases hc
    · exact M.neq j k y g g' hy hc hg hg'
  · intro j y hy hyo
    show heldOf (S.locks ++ [(a, (i : Int) + 1)]) _ = _
    rw [hh]
    rcases set_cases hy with ⟨e1, e3⟩ | ⟨hne, hy⟩
    · rw [e1, if_pos rfl, M.locks i x hx ho, e3, h4]
    · rw [if_neg (by omega)]; exact M.locks j y hy hyo
  · intro p hp
    rcases List.mem_append.1 hp with hp | hp
    · obtain ⟨j, y, k1, k2, k3⟩ := M.lown p hp
      by_cases e : j = i
      · subst e; exact ⟨j, x', set_at hx, h2, k3⟩
      · exact ⟨j, y, by rw [set_ne e]; exact k1, k2, k3⟩
    · rw [List.mem_singleton.1 hp]
      exact ⟨i, x', set_at hx, h2, rfl⟩
  · show (S.locks ++ [(a, (i : Int) + 1)]).Pairwise _
    rw [List.pairwise_append]
    refine ⟨M.ldist, List.pairwise_singleton _ _, fun p hp q hq => ?_⟩
    rw [List.mem_singleton.1 hq]
    exact hna p hp
  · intro y hy
    obtain ⟨j, hy⟩ := List.mem_iff_getElem?.1 hy
    rcases set_cases hy with ⟨e1, e3⟩ | ⟨hne, hy⟩
    · rw [e3, h4, List.nodup_append]
      refine ⟨M.wnd x (List.mem_of_getElem? hx), by simp, fun b hb c hc e => ?_⟩
      rw [List.mem_singleton.1 hc] at e
      rw [e] at hb
      exact hnw hb
    · exact M.wnd y (List.mem_of_getElem? hy)
  · intro t ht j y hy e r hre
    rcases set_cases hy with ⟨rfl, rfl⟩ | ⟨_, hy⟩
    · rw [h6] at hre
      exact M.reads t ht _ x hx e r hre
    · exact M.reads t ht j y hy e r hre
  · exact M.owners
theorem gone_locks (S : Sm ρ) (a : Lk) (n : Int) : Sm.gone I { S with locks := S.locks ++ [(a, n)] } n = S.gone I n := by
  unfold Sm.gone
  congr 1
  simp
/-- a write -/
theorem write_step (L : RdL I ok most) {S : Sm ρ} {list : List Run} {G : List Gh} {vs : List Ver} (M : MI I ok S list G) (s : SI list G vs S.now) {i : Nat} {x : Run} (hx : list[i]? = some x) (ho : x.over = false) (a : Lk) (last : Int) (hl0 : 0 ≤ last)
    (hlast : ∀ v ∈ vs, v.at_ = a → v.num ≤ last) :
    ((S.write I ((i : Int) + 1) a last).1 ≠ 0 ∧ Refused I ok (S.write I ((i : Int) + 1) a last).2 S list G vs i x) ∨
    ((S.write I ((i : Int) + 1) a last).1 = 0 ∧ a ∈ x.writes ∧ (S.write I ((i : Int) + 1) a last).2 = S) ∨
    ((S.write I ((i : Int) + 1) a last).1 = 0 ∧ a ∉ x.writes ∧ ∃ G', MI I ok (S.write I ((i : Int) + 1) a last).2 (list.set i { x with writes := x.writes ++ [a] }) G' ∧ SI (list.set i { x with writes := x.writes ++ [a] }) G' vs S.now ∧ Grow G G' ∧ (S.write I ((i : Int) + 1) a last).2.now = S.now ∧ (S.write I ((i : Int) + 1) a last).2.caps = S.caps ∧ (S.write I ((i : Int) + 1) a last).2.txs.map (fun t => (t.num, t.act)) = S.txs.map (fun t => (t.num, t.act)) ∧ (S.write I ((i : Int) + 1) a last).2.locks = S.locks ++ [(a, (i : Int) + 1)] ∧ S.locks.length < S.caps.locks) := by
  obtain ⟨hc, t, g, htm, hg, hnum, hact, hsn, hbg, _, _, hav⟩ := M.open_ hx ho
  have hw := M.locks i x hx ho
  unfold Sm.write
  rw [hav]
  simp only
  rw [if_neg (by omega : ¬ last < 0)]
  by_cases hh : holder S.locks a = some ((i : Int) + 1)
  · rw [if_pos hh]
    exact .inr (.inl ⟨rfl, by rw [← hw]; exact (holder_iff M.ldist).1 hh, rfl⟩)
  · rw [if_neg hh]
    have hnw : a ∉ x.writes := fun h => hh ((holder_iff M.ldist).2 (by rw [hw]; exact h))
    by_cases htk : (tk S.caps.locks S.locks ((i : Int) + 1) t.snap last a).1 ≠ 0
    · rw [if_pos htk]
      exact .inl ⟨htk, refused_gone L M hx ho⟩
    · rw [if_neg htk]
      have hno : holder S.locks a = none ∧ ¬ t.snap < last ∧ (S.locks.length : Int) < S.caps.locks ∧ (tk S.caps.locks S.locks ((i : Int) + 1) t.snap last a).2 = S.locks ++ [(a, (i : Int) + 1)] := by
        unfold tk at htk ⊢
        cases hho : holder S.locks a with
        | some n =>
          rw [hho] at htk hh
          simp only at htk
          split at htk
          · rename_i e; rw [e] at hh; exact absurd rfl hh
          · exact absurd (by simp) htk
        | none =>
          rw [hho] at htk
          simp only at htk ⊢
          split at htk
          · exact absurd (by simp) htk
          · rename_i h1
            split at htk
            · exact absurd (by simp) htk
            · rename_i h2
              rw [if_neg h1, if_neg h2]
              exact ⟨trivial, h1, by omega, rfl⟩
      obtain ⟨hno, hsl, hlen, htk2⟩ := hno
      rw [htk2]
      by_cases htn : (S.txs.any (fun o => concB t o && (!o.act && decide (a ∈ o.wrote)))) = true
      · rw [if_pos htn]
        rw [gone_locks]
        exact .inl ⟨by simp, refused_gone L M hx ho⟩
      · rw [if_neg htn]
        obtain ⟨S1, hS1⟩ : ∃ S1, S1 = ({ S with locks := S.locks ++ [(a, (i : Int) + 1)] } : Sm ρ) := ⟨_, rfl⟩
        have hS1t : S1.txs = S.txs := by rw [hS1]
        rw [← hS1]
        obtain ⟨so, hso⟩ : ∃ so : Tx → Bool, so = (fun o => decide (o.num ∈ I.rdrs S.reads a.1 a.2)) := ⟨_, rfl⟩
        rw [← hso]
        rcases hp : S1.put I t so false with ⟨e, S'⟩
        by_cases he : e = 0
        · subst he
          obtain ⟨hS', hbt, hbo⟩ := put_ok hp
          have F := putF_flg S1.txs t so false
          have MS : MI I ok S1 (list.set i { x with writes := x.writes ++ [a] }) G := by
            rw [hS1]
            exact lock_MI M hx ho hno rfl ho hc rfl rfl rfl
          have htm1 : t ∈ S1.txs := by rw [hS1t]; exact htm
          have hpn : ∀ (k : Nat) y g', list[k]? = some y → (upG S1.txs (putF S1.txs t so false) G)[k]? = some g' → y.committed = true → ¬ (g'.fin = true ∧ g'.fout = true) := by
            intro k y g' hy hg' hcy
            rw [hS1t] at hg' hbo
            -- as put_notboth, over the old list
            intro ⟨p1, p2⟩
            obtain ⟨g0, h0, h1, h2, h3⟩ := upG_at hg'
            have hnb := s.notboth k y g0 hy h0 hcy
            rcases h3 with ⟨o, ho2, e, q1, q2⟩ | ⟨_, q1, q2⟩
            · obtain ⟨_, _, f1, f2, f3, _⟩ := M.of ho2 hy h0 e
              have hoa : o.act = false := by
                cases h : o.act with
                | false => rfl
                | true => have := f3 h; rw [M.over k y hy hcy] at this; cases this
              have hne : (o.num == t.num) = false := by
                cases h : (o.num == t.num) with
                | false => rfl
                | true =>
                  have := dist_inj M.dist ho2 htm (by simpa using h)
                  rw [this, hact] at hoa
                  cases hoa
              unfold putF at q1 q2
              simp only [hne] at q1 q2
              by_cases hcs : (concB t o && so o) = true
              · simp only [hcs, Bool.false_eq_true, if_true, if_false] at q1 q2
                simp only [Bool.and_eq_true] at hcs
                have := hbo o ho2 hcs.1 hcs.2 hoa
                unfold bothB at this
                unfold setF at q1 q2
                simp only at q1 q2
                rw [← q1, ← q2, p1, p2] at this
                cases this
              · simp only [hcs, Bool.false_eq_true, if_false] at q1 q2
                exact hnb ⟨by rw [← f1, ← q1]; exact p1, by rw [← f2, ← q2]; exact p2⟩
            · exact hnb ⟨by rw [← q1]; exact p1, by rw [← q2]; exact p2⟩
          refine .inr (.inr ⟨rfl, hnw, upG S1.txs (putF S1.txs t so false) G, ?_, ?_, upG_grow MS F, by rw [hS', hS1], by rw [hS', hS1], ?_, by rw [hS', hS1], hlen⟩)
          · have M2 := flag_MI MS F
            rw [← hS'] at M2
            exact M2
          · have s2 := s.grow (fun k g' h => upG_mono MS F h) (upG_len _ _ _) hpn
            refine s2.change hx hc hc rfl ?_ ?_ ?_ ?_
            · intro j y g1 h1 hij hy hg1 hh1 ax ay hr p2
              exact s2.flags i j x y g1 h1 hij hx hy hg1 hh1 (.inl ho) ay hr (fun q => by rw [hc] at q; exact absurd q.1 (by decide)) p2
            · intro j y g1 h1 hji hy hg1 hh1 ay ax ⟨r, hr, hrw⟩ p1
              rcases List.mem_append.1 hrw with h | h
              · exact s2.flags j i y x g1 h1 hji hy hx hg1 hh1 ay (.inl ho) ⟨r, hr, h⟩ p1 (fun q => by rw [hc] at q; exact absurd q.1 (by decide))
              · have hra := List.mem_singleton.1 h
                obtain ⟨g0, b0, b1, b2, _⟩ := upG_mono MS F hg1
                obtain ⟨h0, c0, c1, c2, _⟩ := upG_mono MS F hh1
                have hyr : y.reads ≠ [] := fun e => by rw [e] at hr; cases hr
                obtain ⟨o, ho1, eo, oc, _, _, _⟩ := M.there htm hact hnum (fun e => hji e.symm) c0 hy b0 ay (.inl hyr) (by rw [← b2, ← c1]; exact p1)
                have hsoo : so o = true := by
                  rw [hso]
                  have := M.reads o ho1 j y hy eo r hr
                  rw [hra] at this
                  exact decide_eq_true this
                have := (put_flags MS htm1 (by rw [hS1t]; exact ho1) oc hsoo hnum eo hh1 hg1).2 rfl
                exact ⟨this.2, this.1⟩
            · intro j y g1 h1 hij hy hg1 hh1 ax cy ⟨w, w1, w2⟩
              rcases List.mem_append.1 w1 with h | h
              · rcases s2.fcw i j x y g1 h1 hij hx hy hg1 hh1 (.inl ho) cy ⟨w, h, w2⟩ with q | ⟨q, _⟩
                · exact q
                · rw [hc] at q; cases q
              · rw [List.mem_singleton.1 h] at w2
                obtain ⟨v, hv, v1, v2⟩ := s2.vall j y hy cy a w2
                obtain ⟨y', k', a1, a2, a3, a4, a5, a6, a7⟩ := s2.vby v hv
                rw [v1, hh1] at a2
                cases a2
                refine (a7 i x g1 hx hg1).1 ?_
                have := hlast v hv v2
                omega
            · exact fun r hr => s.saw x (List.mem_of_getElem? hx) r hr
          · rw [hS']
            show (S1.txs.map (putF S1.txs t so false)).map _ = _
            rw [List.map_map, hS1t]
            apply List.map_congr_left
            intro o _
            simp only [Function.comp]
            rw [(putF_flg S.txs t so false).num, (putF_flg S.txs t so false).act]
        · obtain ⟨h1, h2⟩ := put_bad hp he
          refine .inl ⟨he, ?_⟩
          show Refused I ok S' S list G vs i x
          rw [h2, hnum, hS1, gone_locks]
          exact refused_gone L M hx ho
end
end Go.Proofs.YthaoedfalkebbaaGreat
namespace Go.Proofs.YthaoedfalkebbaaGreat
set_option linter.unusedVariables false
set_option linter.unusedSectionVars false
section
variable {ρ : Type} {I : RdI ρ} {ok : ρ → Prop} {most : Int}
def endF (S : Sm ρ) (tx : Int) (o : Tx) : Tx := if o.num == tx then { o with act := false, ended := S.clock + 1, wrote := heldOf S.locks tx } else o
theorem endF_num (S : Sm ρ) (tx : Int) (o : Tx) : (endF S tx o).num = o.num := by unfold endF; split <;> rfl
theorem endF_ne {S : Sm ρ} {tx : Int} {o : Tx} (h : o.num ≠ tx) : endF S tx o = o := by unfold endF; simp [h]
theorem endF_eq {S : Sm ρ} {tx : Int} {o : Tx} (h : o.num = tx) : endF S tx o = { o with act := false, ended := S.clock + 1, wrote := heldOf S.locks tx } := by unfold endF; simp [h]
theorem ends_MI {S : Sm ρ} {list : List Run} {G : List Gh} (M : MI I ok S list G) {i : Nat} {x x' : Run} {g : Gh} (hx : list[i]? = some x) (hg : G[i]? = some g) (ho : x.over = false) (h1 : x'.tx = x.tx) (h2 : x'.over = true) (h3 : x'.committed = true) (h4 : x'.writes = x.writes) (h5 : x'.snap = x.snap) (h6 : x'.reads = x.reads) :
    MI I ok (S.ends ((i : Int) + 1)) (list.set i x') (G.set i { g with ce := S.clock + 1 }) := by
  have hw := M.locks i x hx ho
  have htx : (S.ends ((i : Int) + 1)).txs = S.txs.map (endF S ((i : Int) + 1)) := rfl
  have hm : ∀ t, t ∈ (S.ends ((i : Int) + 1)).txs ↔ ∃ o ∈ S.txs, endF S ((i : Int) + 1) o = t := fun t => by rw [htx]; exact List.mem_map
  have hclk : ∀ (j : Nat) (h : Gh), G[j]? = some h → h.cb ≤ S.clock := fun j h hh => by
    have hj := (List.getElem?_eq_some_iff.1 hh).1
    rw [M.len] at hj
    exact (M.clock j list[j] h (List.getElem?_eq_getElem hj) hh).1
  constructor
  · rw [List.length_set, List.length_set]; exact M.len
  · exact M.okr
  · rw [List.length_set]; exact M.last
  · intro j y hy
    rcases set_cases hy with ⟨rfl, rfl⟩ | ⟨_, hy⟩
    · rw [h1]; exact M.num _ _ hx
    · exact M.num _ _ hy
  · intro t ht
    obtain ⟨o, ho2, rfl⟩ := (hm t).1 ht
    obtain ⟨j, y, h, k1, k2, k3, k4, k5, k6, k7, k8, k9⟩ := M.tx o ho2
    by_cases e : j = i
    · subst e
      rw [hx] at k1
      cases k1
      rw [hg] at k2
      cases k2
      rw [endF_eq k3]
      exact ⟨j, x', { g with ce := S.clock + 1 }, set_at hx, set_at hg, k3, by rw [h5]; exact k4, k5, k6, k7, fun q => by simp at q, fun _ => ⟨h3, rfl, fun a => by show a ∈ heldOf S.locks ((j : Int) + 1) ↔ _; rw [hw, h4]⟩⟩
    · rw [endF_ne (by omega)]
      exact ⟨j, y, h, by rw [set_ne e]; exact k1, by rw [set_ne e]; exact k2, k3, k4, k5, k6, k7, k8, k9⟩
  · rw [htx, List.pairwise_map]
    exact M.dist.imp (fun {a b} h => by rw [endF_num, endF_num]; exact h)
  · intro j y hy hyo
    rcases set_cases hy with ⟨rfl, rfl⟩ | ⟨hne, hy⟩
    · rw [h2] at hyo; cases hyo
    · obtain ⟨t, ht, k1, k2⟩ := M.under j y hy hyo
      exact ⟨_, (hm _).2 ⟨t, ht, rfl⟩, by rw [endF_num]; exact k1, by rw [endF_ne (by omega)]; exact k2⟩
  · intro j y h hy hh hc hr ⟨a, ha, k1, k2⟩
    obtain ⟨o, ho2, rfl⟩ := (hm a).1 ha
    by_cases e : o.num = (i : Int) + 1
    · rw [endF_eq e] at k1; cases k1
    · rw [endF_ne e] at k1 k2
      rcases set_cases hy with ⟨e1, e3⟩ | ⟨hne, hy⟩
      · obtain ⟨t, ht, k3, k4⟩ := M.under i x hx ho
        exact ⟨_, (hm _).2 ⟨t, ht, rfl⟩, by rw [endF_num, e1]; exact k3⟩
      · rw [set_ne hne] at hh
        obtain ⟨t, ht, e2⟩ := M.kept j y h hy hh hc hr ⟨o, ho2, k1, k2⟩
        exact ⟨_, (hm _).2 ⟨t, ht, rfl⟩, by rw [endF_num]; exact e2⟩
  · intro j y hy hc
    rcases set_cases hy with ⟨rfl, rfl⟩ | ⟨hne, hy⟩
    · exact h2
    · exact M.over j y hy hc
  · intro j y h hy hh
    show h.cb ≤ S.clock + 1 ∧ (_ → _ ∧ h.ce ≤ S.clock + 1)
    rcases set_cases hy with ⟨e1, e3⟩ | ⟨hne, hy⟩
    · subst e1
      rw [set_at hg] at hh
      cases hh
      have := hclk _ g hg
      exact ⟨by show g.cb ≤ _; omega, fun _ => ⟨by show g.cb < S.clock + 1; omega, Int.le_refl _⟩⟩
    · rw [set_ne hne] at hh
      obtain ⟨q1, q2⟩ := M.clock j y h hy hh
      exact ⟨by omega, fun hc => ⟨(q2 hc).1, by have := (q2 hc).2; omega⟩⟩
  · intro j k y h h' hy hc hh hh'
    have hcb' : h'.cb ≤ S.clock := by
      rcases set_cases hh' with ⟨e1, e3⟩ | ⟨hne, hh'⟩
      · rw [e3]; exact hclk i g hg
      · exact hclk k h' hh'
    rcases set_cases hy with ⟨e1, e3⟩ | ⟨hne, hy⟩
    · subst e1
      rw [set_at hg] at hh
      cases hh
      show h'.cb ≠ S.clock + 1
      omega
    · rw [set_ne hne] at hh
      rcases set_cases hh' with ⟨e1, e3⟩ | ⟨hne2, hh'⟩
      · rw [e3]
        exact M.neq j i y h g hy hc hh hg
      · exact M.neq j k y h h' hy hc hh hh'
  · intro j y hy hyo
    rcases set_cases hy with ⟨rfl, rfl⟩ | ⟨hne, hy⟩
    · rw [h2] at hyo; cases hyo
    · rw [← M.locks j y hy hyo]
      exact heldOf_filter _ (by omega)
  · intro p hp
    obtain ⟨hp, hpn⟩ := List.mem_filter.1 hp
    obtain ⟨j, y, k1, k2, k3⟩ := M.lown p hp
    have : j ≠ i := fun e => by subst e; simp [k3] at hpn
    exact ⟨j, y, by rw [set_ne this]; exact k1, k2, k3⟩
  · exact M.ldist.sublist List.filter_sublist
  · intro y hy
    obtain ⟨j, hy⟩ := List.mem_iff_getElem?.1 hy
    rcases set_cases hy with ⟨rfl, rfl⟩ | ⟨hne, hy⟩
    · rw [h4]; exact M.wnd x (List.mem_of_getElem? hx)
    · exact M.wnd y (List.mem_of_getElem? hy)
  · intro t ht j y hy e r hre
    obtain ⟨o, ho2, rfl⟩ := (hm t).1 ht
    rw [endF_num] at e ⊢
    rcases set_cases hy with ⟨e1, e3⟩ | ⟨_, hy⟩
    · rw [e3, h6] at hre
      rw [e1] at e
      exact M.reads o ho2 i x hx e r hre
    · exact M.reads o ho2 j y hy e r hre
  · intro n hn
    obtain ⟨t, ht, e⟩ := M.owners n hn
    exact ⟨_, (hm _).2 ⟨t, ht, rfl⟩, by rw [endF_num]; exact e⟩
/-- one that has ended, and left nothing that matters, goes -/
theorem dropped_MI (L : RdL I ok most) {S : Sm ρ} {list : List Run} {G : List Gh} (M : MI I ok S list G) {i : Nat} {x : Run} (hx : list[i]? = some x) (ho : x.over = true) (hd : (∀ t ∈ S.txs, t.act = false) ∨ (x.reads = [] ∧ x.writes = [])) :
    MI I ok { S with reads := I.drop S.reads ((i : Int) + 1), txs := S.txs.filter (fun o => o.num != (i : Int) + 1) } list G := by
  have hsub : ∀ t, t ∈ S.txs.filter (fun t => t.num != (i : Int) + 1) ↔ t ∈ S.txs ∧ t.num ≠ (i : Int) + 1 := fun t => by rw [List.mem_filter]; simp
  constructor
  · exact M.len
  · exact L.drop_ok _ _ M.okr
  · exact M.last
  · exact M.num
  · exact fun t ht => M.tx t ((hsub t).1 ht).1
  · exact M.dist.sublist List.filter_sublist
  · intro j y hy hyo
    obtain ⟨t, ht, k1, k2⟩ := M.under j y hy hyo
    have : j ≠ i := fun e => by subst e; rw [hx] at hy; cases hy; rw [ho] at hyo; cases hyo
    exact ⟨t, (hsub t).2 ⟨ht, by omega⟩, k1, k2⟩
  · intro j y g hy hg hc hr ⟨a, ha, k1, k2⟩
    have ha2 := ((hsub a).1 ha).1
    by_cases e : j = i
    · subst e
      rw [hx] at hy
      cases hy
      rcases hd with hd | ⟨e1, e2⟩
      · rw [hd a ha2] at k1; cases k1
      · rcases hr with hr | hr
        · exact absurd e1 hr
        · exact absurd e2 hr
    · obtain ⟨t, ht, e2⟩ := M.kept j y g hy hg hc hr ⟨a, ha2, k1, k2⟩
      exact ⟨t, (hsub t).2 ⟨ht, by omega⟩, e2⟩
  · exact M.over
  · exact M.clock
  · exact M.neq
  · exact M.locks
  · exact M.lown
  · exact M.ldist
  · exact M.wnd
  · intro t ht j y hy e r hr
    obtain ⟨ht, hne⟩ := (hsub t).1 ht
    exact L.drop_rdrs _ _ _ _ _ M.okr (by omega) hne (M.reads t ht j y hy e r hr)
  · intro n hn
    obtain ⟨k1, k2⟩ := L.drop_has _ _ n M.okr (by omega) hn
    obtain ⟨t, ht, e⟩ := M.owners n k1
    exact ⟨t, (hsub t).2 ⟨ht, by omega⟩, e⟩
theorem filter_one {α : Type} {p : α → Bool} {l : List α} (h : (l.filter p).length = 1) {a b : α} (ha : a ∈ l) (hb : b ∈ l) (pa : p a = true) (pb : p b = true) : a = b := by
  have h1 := List.mem_filter.2 ⟨ha, pa⟩
  have h2 := List.mem_filter.2 ⟨hb, pb⟩
  match hl : l.filter p, h with
  | [c], _ =>
    rw [hl] at h1 h2
    rw [List.mem_singleton.1 h1, List.mem_singleton.1 h2]
theorem commit_step (L : RdL I ok most) {S : Sm ρ} {list : List Run} {G : List Gh} {vs : List Ver} (M : MI I ok S list G) (s : SI list G vs S.now) (hn0 : 0 ≤ S.now) {i : Nat} {x : Run} (hx : list[i]? = some x) (ho : x.over = false) :
    ((S.commit I ((i : Int) + 1)).1.2 ≠ 0 ∧ Refused I ok (S.commit I ((i : Int) + 1)).2 S list G vs i x) ∨
    ((S.commit I ((i : Int) + 1)).1.2 = 0 ∧ (S.commit I ((i : Int) + 1)).1.1 = (if x.writes = [] then S.now else S.now + 1) ∧ (S.commit I ((i : Int) + 1)).2.now = (if x.writes = [] then S.now else S.now + 1) ∧ (S.commit I ((i : Int) + 1)).2.caps = S.caps ∧
      ∃ g, G[i]? = some g ∧ ∀ x', x'.tx = x.tx → x'.over = true → x'.committed = true → x'.writes = x.writes → x'.snap = x.snap → x'.reads = x.reads →
        MI I ok (S.commit I ((i : Int) + 1)).2 (list.set i x') (G.set i { g with ce := S.clock + 1 }) ∧ SI (list.set i x') (G.set i { g with ce := S.clock + 1 }) (commitV vs x.writes (if x.writes = [] then S.now else S.now + 1) i) (if x.writes = [] then S.now else S.now + 1)) := by
  obtain ⟨hc, t, g, htm, hg, hnum, hact, hsn, hbg, hfi, hfo, hav⟩ := M.open_ hx ho
  have hw := M.locks i x hx ho
  unfold Sm.commit
  rw [hav]
  simp only
  by_cases hb : (t.fin && t.fout) = true
  · rw [if_pos hb]
    exact .inl ⟨by simp, refused_gone L M hx ho⟩
  · rw [if_neg hb]
    by_cases hfull : 1 < S.acts ∧ (heldOf S.locks ((i : Int) + 1) ≠ [] ∨ I.has S.reads ((i : Int) + 1) = true) ∧ S.caps.kept ≤ (S.txs.length : Int) - S.acts
    · rw [if_pos hfull]
      exact .inl ⟨by simp, refused_gone L M hx ho⟩
    · rw [if_neg hfull]
      have hnw : (S.ends ((i : Int) + 1)).now = (if x.writes = [] then S.now else S.now + 1) := by
        show (if heldOf S.locks ((i : Int) + 1) = [] then S.now else S.now + 1) = _
        rw [hw]
      refine .inr ⟨rfl, hnw, ?_, ?_, g, hg, fun x' h1 h2 h3 h4 h5 h6 => ⟨?_, ?_⟩⟩
      · show (if _ then _ else _ : Sm ρ).now = _
        split <;> exact hnw
      · show (if _ then _ else _ : Sm ρ).caps = _
        split <;> rfl
      · have M2 := ends_MI M hx hg ho h1 h2 h3 h4 h5 h6
        refine forget_MI L ?_
        split
        · rename_i hone
          refine dropped_MI L M2 (set_at hx) h2 ?_
          rcases hone with h | h
          · refine .inl fun o ho2 => ?_
            obtain ⟨p, hp, rfl⟩ := List.mem_map.1 ho2
            show (endF S ((i : Int) + 1) p).act = false
            by_cases e : p.num = (i : Int) + 1
            · rw [endF_eq e]
            · rw [endF_ne e]
              cases hpa : p.act with
              | false => rfl
              | true =>
                have := filter_one (p := fun t : Tx => t.act) h hp htm hpa hact
                rw [this, hnum] at e
                exact absurd rfl e
          · rw [not_or, hw] at h
            refine .inr ⟨?_, by rw [h4]; exact Classical.not_not.1 h.1⟩
            rw [h6]
            refine Classical.byContradiction fun hne => ?_
            obtain ⟨r, rs, hrs⟩ := List.exists_cons_of_ne_nil hne
            have := M.reads t htm i x hx hnum r (by rw [hrs]; exact List.mem_cons_self)
            rw [hnum] at this
            exact h.2 (L.rdrs_has _ _ _ _ M.okr this)
        · exact M2
      · refine s.commit hx hg M.len ho hc h3 h5 h6 h4 (M.wnd x (List.mem_of_getElem? hx)) (fun j k hk => ?_) (fun j y k hy hk hcy => ?_) ?_ hn0 rfl ?_
        · have hj := (List.getElem?_eq_some_iff.1 hk).1
          rw [M.len] at hj
          have := (M.clock j list[j] k (List.getElem?_eq_getElem hj) hk).1
          omega
        · have := ((M.clock j y k hy hk).2 hcy).2
          omega
        · rw [← hfi, ← hfo]
          intro ⟨q1, q2⟩
          rw [q1, q2] at hb
          exact hb rfl
        · intro j y hji hy hyo a ha hay
          rw [← hw] at ha
          rw [← M.locks j y hy hyo] at hay
          have h7 := (holder_iff M.ldist).2 ha
          have h8 := (holder_iff M.ldist).2 hay
          rw [h7] at h8
          injection h8 with h8
          omega
theorem begin_step {S : Sm ρ} {list : List Run} {G : List Gh} {vs : List Ver} (M : MI I ok S list G) (s : SI list G vs S.now) {x : Run} (h1 : x.tx = S.last + 1) (h2 : x.over = false) (h3 : x.committed = false) (h4 : x.writes = []) (h5 : x.snap = S.now) (h6 : x.reads = []) :
    S.begin.1.2.2 ≠ 0 ∧ S.begin.2 = S ∨ S.begin.1 = (S.last + 1, S.now, 0) ∧ S.begin.2.now = S.now ∧ S.begin.2.caps = S.caps ∧ MI I ok S.begin.2 (list ++ [x]) (G ++ [⟨S.clock + 1, 0, false, false⟩]) ∧ SI (list ++ [x]) (G ++ [⟨S.clock + 1, 0, false, false⟩]) vs S.now := by
  unfold Sm.begin
  by_cases hfull : S.caps.active ≤ S.acts
  · rw [if_pos hfull]; exact .inl ⟨by simp, rfl⟩
  · rw [if_neg hfull]
    refine .inr ⟨rfl, rfl, rfl, ?_, s.begin M.len h3 h6 h4 h5 (fun j y k hy hk hc => by have := ((M.clock j y k hy hk).2 hc).2; show k.ce < S.clock + 1; omega)⟩
    have hL : ∀ {j : Nat} {y : Run}, (list ++ [x])[j]? = some y → (j < list.length ∧ list[j]? = some y) ∨ (j = list.length ∧ y = x) := fun {j y} h => by
      rcases Nat.lt_or_ge j list.length with h1 | h1
      · rw [List.getElem?_append_left h1] at h; exact .inl ⟨h1, h⟩
      · rw [List.getElem?_append_right h1] at h
        have := (List.getElem?_eq_some_iff.1 h).1
        simp at this
        obtain rfl : j = list.length := by omega
        simp at h
        exact .inr ⟨rfl, h.symm⟩
    have hG : ∀ {j : Nat} {k : Gh}, (G ++ [(⟨S.clock + 1, 0, false, false⟩ : Gh)])[j]? = some k → (j < list.length ∧ G[j]? = some k) ∨ (j = list.length ∧ k = ⟨S.clock + 1, 0, false, false⟩) := fun {j k} h => by
      rcases Nat.lt_or_ge j G.length with h1 | h1
      · rw [List.getElem?_append_left h1] at h; exact .inl ⟨by rw [← M.len]; omega, h⟩
      · rw [List.getElem?_append_right h1] at h
        have := (List.getElem?_eq_some_iff.1 h).1
        simp at this
        obtain rfl : j = G.length := by omega
        simp at h
        exact .inr ⟨M.len, h.symm⟩
    have up : ∀ {j : Nat} {y : Run}, list[j]? = some y → (list ++ [x])[j]? = some y := fun {j y} h => by rw [List.getElem?_append_left (List.getElem?_eq_some_iff.1 h).1]; exact h
    have upG : ∀ {j : Nat} {y : Gh}, G[j]? = some y → (G ++ [(⟨S.clock + 1, 0, false, false⟩ : Gh)])[j]? = some y := fun {j y} h => by rw [List.getElem?_append_left (List.getElem?_eq_some_iff.1 h).1]; exact h
    have hx : (list ++ [x])[list.length]? = some x := by simp
    have hg : (G ++ [(⟨S.clock + 1, 0, false, false⟩ : Gh)])[list.length]? = some ⟨S.clock + 1, 0, false, false⟩ := by rw [← M.len]; simp
    have htx : ∀ t, t ∈ S.txs ++ [(⟨S.last + 1, S.now, true, S.clock + 1, 0, false, false, []⟩ : Tx)] ↔ t ∈ S.txs ∨ t = ⟨S.last + 1, S.now, true, S.clock + 1, 0, false, false, []⟩ := fun t => by rw [List.mem_append, List.mem_singleton]
    have hlast := M.last
    have hlt : ∀ t ∈ S.txs, t.num ≤ S.last := fun t ht => by
      obtain ⟨j, y, g, k1, _, k3, _⟩ := M.tx t ht
      have := (List.getElem?_eq_some_iff.1 k1).1
      omega
    constructor
    · simp [M.len]
    · exact M.okr
    · show S.last + 1 = _
      rw [hlast, List.length_append]
      simp
    · intro j y hy
      rcases hL hy with ⟨_, hy⟩ | ⟨e1, e2⟩
      · exact M.num j y hy
      · rw [e2, h1, hlast, e1]
    · intro t ht
      rcases (htx t).1 ht with ht | rfl
      · obtain ⟨j, y, g, k1, k2, k3⟩ := M.tx t ht
        exact ⟨j, y, g, up k1, upG k2, k3⟩
      · exact ⟨list.length, x, _, hx, hg, by show S.last + 1 = _; rw [hlast], by rw [h5], rfl, rfl, rfl, fun _ => h2, fun q => by cases q⟩
    · show (S.txs ++ [_]).Pairwise _
      rw [List.pairwise_append]
      refine ⟨M.dist, List.pairwise_singleton _ _, fun a ha b hb => ?_⟩
      rw [List.mem_singleton.1 hb]
      have := hlt a ha
      show a.num < S.last + 1
      omega
    · intro j y hy hyo
      rcases hL hy with ⟨_, hy⟩ | ⟨e1, e2⟩
      · obtain ⟨t, ht, k⟩ := M.under j y hy hyo
        exact ⟨t, (htx t).2 (.inl ht), k⟩
      · exact ⟨_, (htx _).2 (.inr rfl), by rw [e1, ← hlast], rfl⟩
    · intro j y g hy hgj hc hr ⟨a, ha, k1, k2⟩
      rcases hL hy with ⟨lj, hy⟩ | ⟨e1, e2⟩
      · rcases hG hgj with ⟨_, hgj⟩ | ⟨e3, _⟩
        · rcases (htx a).1 ha with ha | rfl
          · obtain ⟨t, ht, k⟩ := M.kept j y g hy hgj hc hr ⟨a, ha, k1, k2⟩
            exact ⟨t, (htx t).2 (.inl ht), k⟩
          · have := ((M.clock j y g hy hgj).2 hc).2
            have k2 : S.clock + 1 < g.ce := k2
            omega
        · omega
      · rw [e2, h3] at hc; cases hc
    · intro j y hy hc
      rcases hL hy with ⟨_, hy⟩ | ⟨e1, e2⟩
      · exact M.over j y hy hc
      · rw [e2, h3] at hc; cases hc
    · intro j y g hy hgj
      show g.cb ≤ S.clock + 1 ∧ (_ → _ ∧ g.ce ≤ S.clock + 1)
      rcases hL hy with ⟨lj, hy⟩ | ⟨e1, e2⟩
      · rcases hG hgj with ⟨_, hgj⟩ | ⟨e3, _⟩
        · obtain ⟨q1, q2⟩ := M.clock j y g hy hgj
          exact ⟨by omega, fun hc => ⟨(q2 hc).1, by have := (q2 hc).2; omega⟩⟩
        · omega
      · rcases hG hgj with ⟨e3, _⟩ | ⟨_, e4⟩
        · omega
        · rw [e4, e2]
          exact ⟨Int.le_refl _, fun hc => by rw [h3] at hc; cases hc⟩
    · intro j k y g g' hy hc hgj hgk
      rcases hL hy with ⟨lj, hy⟩ | ⟨e1, e2⟩
      · rcases hG hgj with ⟨_, hgj⟩ | ⟨e3, _⟩
        · rcases hG hgk with ⟨_, hgk⟩ | ⟨_, e4⟩
          · exact M.neq j k y g g' hy hc hgj hgk
          · rw [e4]
            have := ((M.clock j y g hy hgj).2 hc).2
            show S.clock + 1 ≠ g.ce
            omega
        · omega
      · rw [e2, h3] at hc; cases hc
    · intro j y hy hyo
      rcases hL hy with ⟨_, hy⟩ | ⟨e1, e2⟩
      · exact M.locks j y hy hyo
      · show heldOf S.locks _ = _
        rw [e2, h4]
        unfold heldOf
        rw [List.map_eq_nil_iff, List.filter_eq_nil_iff]
        intro p hp
        obtain ⟨k, z, k1, _, k3⟩ := M.lown p hp
        have := (List.getElem?_eq_some_iff.1 k1).1
        simp only [beq_iff_eq]
        omega
    · intro p hp
      obtain ⟨k, z, k1, k2, k3⟩ := M.lown p hp
      exact ⟨k, z, up k1, k2, k3⟩
    · exact M.ldist
    · intro y hy
      rcases List.mem_append.1 hy with hy | hy
      · exact M.wnd y hy
      · rw [List.mem_singleton.1 hy, h4]; exact List.nodup_nil
    · intro t ht j y hy e r hr
      rcases hL hy with ⟨lj, hy⟩ | ⟨e1, e2⟩
      · rcases (htx t).1 ht with ht | rfl
        · exact M.reads t ht j y hy e r hr
        · have e : S.last + 1 = (j : Int) + 1 := e
          omega
      · rw [e2, h6] at hr; cases hr
    · intro n hn
      obtain ⟨t, ht, e⟩ := M.owners n hn
      exact ⟨t, (htx t).2 (.inl ht), e⟩
end
end Go.Proofs.YthaoedfalkebbaaGreat
namespace Go.Proofs.YthaoedfalkebbaaGreat
set_option linter.unusedVariables false
set_option linter.unusedSectionVars false
section
variable {ρ : Type} {I : RdI ρ} {ok : ρ → Prop} {most : Int}
theorem ofR_cases (l : List Run) (tx : Int) : ofR l tx < 0 ∧ (∀ x ∈ l, x.tx = tx → x.over = true) ∨ ∃ (i : Nat) (x : Run), ofR l tx = (i : Int) ∧ l[i]? = some x ∧ x.tx = tx ∧ x.over = false := by
  unfold ofR
  by_cases h : l.findIdx (fun x => x.tx == tx && !x.over) < l.length
  · rw [if_pos h]
    refine .inr ⟨_, l[l.findIdx (fun x => x.tx == tx && !x.over)], rfl, List.getElem?_eq_getElem h, ?_⟩
    have := List.findIdx_getElem (w := h)
    simpa using this
  · rw [if_neg h]
    refine .inl ⟨by omega, fun x hx e => ?_⟩
    cases ho : x.over with
    | true => rfl
    | false =>
      refine absurd (List.findIdx_lt_length_of_exists ⟨x, hx, ?_⟩) h
      simp [e, ho]
theorem modify_set {α : Type} {l : List α} {i : Nat} {x : α} (h : l[i]? = some x) (f : α → α) : l.modify i f = l.set i (f x) := by
  apply List.ext_getElem?
  intro j
  rw [List.getElem?_modify]
  by_cases e : i = j
  · subst e
    rw [h, set_at h]
    simp
  · rw [List.getElem?_set_ne e]
    cases l[j]? <;> simp [e]
/-- what a scan sees -/
theorem sees_fold (vs : List Ver) : ∀ (rows : List Lk) (x : Run), rows.foldl (sees vs) x = { x with reads := x.reads ++ (rows.filter (fun a => decide (a ∉ x.writes))).map (fun a => (⟨a, newest vs a x.snap⟩ : Sw)) }
  | [], x => by simp
  | a :: rows, x => by
    rw [List.foldl_cons, sees_fold vs rows]
    unfold sees
    by_cases h : a ∈ x.writes
    · rw [if_pos h, List.filter_cons, if_neg (by simp [h])]
    · rw [if_neg h, List.filter_cons, if_pos (by simp [h])]
      simp
theorem inR_key (a : ByteArray) : inR a a (a ++ ⟨#[0]⟩) = true := by
  unfold inR
  rw [app0, less_irrefl, less_snoc, less_irrefl]
  simp
theorem inR_none {key f u : ByteArray} (hu : u.toList ≠ []) (h : Op.bytesLess f.toList u.toList = false) : inR key f u = false := by
  unfold inR
  cases h1 : Op.bytesLess key.toList f.toList with
  | true => rfl
  | false =>
    have := le_trans' h h1
    simp [hu, this]
theorem inR_hold {key f u : ByteArray} {tb : ByteArray} (h : inR key f u = true) : holdB ⟨tb, 2, f, u⟩ key = true := by
  unfold inR at h
  unfold holdB
  simpa using h
theorem hold_key (tb a : ByteArray) : holdB ⟨tb, 1, a, ⟨#[]⟩⟩ a = true := by unfold holdB; simp
/-- the number of a row's newest version -/
def lastNum (vs : List Ver) (a : Lk) : Int := if 0 ≤ newest vs a 4611686018427387904 then ((vs[(newest vs a 4611686018427387904).toNat]?).map (·.num)).getD 0 else 0
theorem lastNum_spec {list : List Run} {G : List Gh} {vs : List Ver} {now : Int} (s : SI list G vs now) (hn : now ≤ 4611686018427387904) (a : Lk) : 0 ≤ lastNum vs a ∧ ∀ v ∈ vs, v.at_ = a → v.num ≤ lastNum vs a := by
  unfold lastNum
  rcases newest_cases vs a 4611686018427387904 with ⟨e, h⟩ | ⟨k, v, e, hv, hh, h⟩
  · rw [e]
    refine ⟨by simp, fun v hv ea => ?_⟩
    obtain ⟨m, hm⟩ := List.mem_iff_getElem?.1 hv
    have := h m v hm
    obtain ⟨_, _, _, _, _, _, _, q, _⟩ := s.vby v hv
    unfold hitV at this
    simp [ea] at this
    omega
  · rw [e]
    simp only [Int.natCast_nonneg, if_true, Int.toNat_natCast, hv, Option.map_some, Option.getD_some]
    obtain ⟨_, _, _, _, _, _, q0, _⟩ := s.vby v (List.mem_of_getElem? hv)
    refine ⟨q0, fun u hu ea => ?_⟩
    obtain ⟨m, hm⟩ := List.mem_iff_getElem?.1 hu
    obtain ⟨_, _, _, _, _, _, _, q, _⟩ := s.vby u hu
    have hkl := (List.getElem?_eq_some_iff.1 hv).1
    have hml := (List.getElem?_eq_some_iff.1 hm).1
    rcases Nat.lt_trichotomy m k with hmk | hmk | hmk
    · have := (List.pairwise_iff_getElem.1 s.vord m k hml hkl hmk).1
      rw [List.getElem?_eq_getElem hkl] at hv
      rw [List.getElem?_eq_getElem hml] at hm
      injection hv with hv
      injection hm with hm
      rw [hv, hm] at this
      exact this
    · subst hmk
      rw [hv] at hm
      cases hm
      exact Int.le_refl _
    · have := h m u hmk hm
      unfold hitV at this
      simp [ea] at this
      omega
end
end Go.Proofs.YthaoedfalkebbaaGreat
