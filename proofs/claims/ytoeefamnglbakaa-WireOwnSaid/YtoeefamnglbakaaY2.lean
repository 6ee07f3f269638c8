import Derived.Test.YtoeefamnglbakaaY
namespace Go.Proofs.Ytoeefamnglbakaa
open Go.RowKit Go.Shelf Go.Proofs.YtoeefamnglbakaaW.PrintWords Go.Proofs.YtoeefamnglbakaaW.PrintLast Go.Proofs.YtoeefamnglbakaaW.PrintMore
set_option linter.unusedVariables false
set_option linter.unusedSimpArgs false
theorem tf_len (l : List Int) (a : Int) : (tf l a).1.length ≤ l.length := by
  unfold tf
  repeat' split
  all_goals simp [sub]
  try omega
theorem rd_shift (p m : List Int) (x : Int) (h : 0 ≤ x) : rd (p ++ m) (p.length + x) = rd m x := by
  unfold rd
  have : ((p.length : Int) + x).toNat = p.length + x.toNat := by omega
  rw [this]
  simp only [List.getD_eq_getElem?_getD]
  rw [List.getElem?_append_right (by omega)]
  congr 2
  omega
theorem sub_shift (p m : List Int) (a b : Int) (ha : 0 ≤ a) (hb : 0 ≤ b) : sub (p ++ m) (p.length + a) (p.length + b) = sub m a b := by
  unfold sub
  have e1 : ((p.length : Int) + a).toNat = p.length + a.toNat := by omega
  have e2 : ((p.length : Int) + b).toNat = p.length + b.toNat := by omega
  rw [e1, e2, List.take_append, List.drop_append]
  simp
theorem tf_shift (p m : List Int) (hb : bytesOK (p ++ m)) : tf (p ++ m) p.length = tf m 0 := by
  have hbm : bytesOK m := fun x hx => hb x (List.mem_append_right _ hx)
  have u0 : un4 (p ++ m) p.length = un4 m 0 := by
    unfold un4
    have := rd_shift p m 0 (by omega)
    rw [Int.add_zero] at this
    rw [this, rd_shift p m 1 (by omega), rd_shift p m 2 (by omega), rd_shift p m 3 (by omega)]
    rfl
  have u4 : un4 (p ++ m) (p.length + 4) = un4 m (0 + 4) := by
    unfold un4
    simp only [Int.add_assoc]
    rw [rd_shift p m 4 (by omega), rd_shift p m (4 + 1) (by omega), rd_shift p m (4 + 2) (by omega), rd_shift p m (4 + 3) (by omega)]
    rfl
  have hr := un4_rng hbm 0
  have us : sub (p ++ m) (p.length + 8) (p.length + 8 + un4 m 0) = sub m (0 + 8) (0 + 8 + un4 m 0) := by
    rw [Int.add_assoc, sub_shift p m _ _ (by omega) (by omega), Int.zero_add]
  have hl : ((p ++ m).length : Int) = p.length + m.length := by simp
  unfold tf
  rw [u0, u4, us, hl]
  have e3 : (p.length : Int) + m.length - p.length - 8 = m.length - 0 - 8 := by omega
  have e4 : ((p.length : Int) + m.length - p.length < 8) = ((m.length : Int) - 0 < 8) := by apply propext; omega
  have e5 : ((p.length : Int) < 0 ∨ (p.length : Int) > p.length + m.length) = ((0 : Int) < 0 ∨ (0 : Int) > m.length) := by apply propext; omega
  simp only [e3, e4, e5]
theorem tf_end (l : List Int) : (tf l l.length).2.2 = 10 := by
  unfold tf
  rw [if_neg (by omega), if_pos (by omega)]
/-- two frames of one body, gone over -/
theorem own_two (l F : List Int) (hb : bytesOK l) (hF : (fr l).1 = F) (h : l.length ≤ 1048576 ∧ F = w4 l.length ++ w4 (crc l) ++ l ∨ F = []) (k : Nat) (hk : k ≤ 2) (h0 : F = [] → k = 0) :
    ((tf (F ++ F) (pos (F ++ F) k)).2.2 = 0 → F ≠ [] ∧ k < 2 ∧ (tf (F ++ F) (pos (F ++ F) k)).1 = l) ∧ ((tf (F ++ F) (pos (F ++ F) k)).2.2 ≠ 0 → (F = [] ∧ k = 0) ∨ (F ≠ [] ∧ k = 2)) := by
  have hok : bytesOK F := by rw [← hF]; exact fr_ok l hb
  rcases h with ⟨hl, hw⟩ | h
  · have hn : F ≠ [] := by rw [hw]; simp [w4]
    have hlen : (F.length : Int) = l.length + 8 := by rw [hw]; simp [w4]; omega
    have t0 : tf (F ++ F) 0 = (l, (l.length : Int) + 8, 0) := by rw [← hF]; exact tf_fr l _ hb hl
    have t1 : tf (F ++ F) F.length = (l, (l.length : Int) + 8, 0) := by
      rw [tf_shift F F (bytesOK_append hok hok)]
      have := tf_fr l [] hb hl
      rw [List.append_nil, hF] at this
      exact this
    have p0 : pos (F ++ F) 0 = 0 := rfl
    have p1 : pos (F ++ F) 1 = F.length := by rw [pos, p0, t0]; simp; omega
    have p2 : pos (F ++ F) 2 = (F ++ F).length := by rw [pos, p1, t1]; simp; omega
    have : k = 0 ∨ k = 1 ∨ k = 2 := by omega
    rcases this with rfl | rfl | rfl
    · rw [p0, t0]; exact ⟨fun _ => ⟨hn, by omega, rfl⟩, fun h => absurd rfl h⟩
    · rw [p1, t1]; exact ⟨fun _ => ⟨hn, by omega, rfl⟩, fun h => absurd rfl h⟩
    · rw [p2]; have := tf_end (F ++ F); exact ⟨fun h => by omega, fun _ => .inr ⟨hn, rfl⟩⟩
  · have hk0 := h0 h
    subst h hk0
    have : (tf ([] ++ []) (pos ([] ++ []) 0)).2.2 = 10 := tf_end []
    exact ⟨fun h => by omega, fun _ => .inl ⟨rfl, rfl⟩⟩
theorem scribble_R {W : World} {n : Nat} {v : Value} {xs : List Int} (H : Kd.R (Kd.int .u8) 5 W n (fun _ => True) v xs) (hn : n ≤ W.heap.size) (hb : bytesOK xs) (hl : xs.length + 1 ≤ 140737488355328) :
    Calls Try.prog 36 #[v] W fun e w' => (∃ r, e = .returned r) ∧ W.grownBy w' v.ownBlock := by
  have hs : ({ W with heap := W.heap.extract 0 n } : World).heap.size = n := by simp; omega
  have hB : Below ({ W with heap := W.heap.extract 0 n } : World).heap.size { W with heap := W.heap.extract 0 n } W :=
    ⟨rfl, rfl, rfl, by rw [hs]; exact hn, fun k hk => by rw [hs] at hk; simp [Array.getElem?_extract, hk]; try omega⟩
  exact (scribble_calls (w := { W with heap := W.heap.extract 0 n }) ⟨by rw [hs]; exact H, hB⟩ hb hl).mono fun e w' h => ⟨h.1, h.2.2⟩
end Go.Proofs.Ytoeefamnglbakaa
