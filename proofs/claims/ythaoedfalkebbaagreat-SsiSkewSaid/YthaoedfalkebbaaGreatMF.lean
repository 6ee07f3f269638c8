import Derived.Test.YthaoedfalkebbaaGreatMB
namespace Go.Proofs.YthaoedfalkebbaaGreat
set_option linter.unusedVariables false
theorem app0 (b : ByteArray) : (b ++ ⟨#[0]⟩ : ByteArray).toList = b.toList ++ [0] := by rw [Lib.toList_data, Lib.toList_data, ByteArray.toList_data_append]
/-! ### transactions side by side: the plain machine -/
abbrev Lk := ByteArray × ByteArray
instance memLk (a : Lk) (l : List Lk) : Decidable (a ∈ l) := decidable_of_iff (l.any (fun b => decide (b = a)) = true) (by
  rw [List.any_eq_true]
  constructor
  · rintro ⟨b, hb, e⟩
    rw [← of_decide_eq_true e]
    exact hb
  · intro h
    exact ⟨a, h, by simp⟩)
/-- what the notes of reads are, and what can be done to them -/
structure RdI (ρ : Type) where
  note : ρ → Int → Rd → Int × ρ
  drop : ρ → Int → ρ
  rdrs : ρ → ByteArray → ByteArray → List Int
  has : ρ → Int → Bool
  len : ρ → Int
/-- what is known of them -/
structure RdL {ρ : Type} (I : RdI ρ) (ok : ρ → Prop) (most : Int) : Prop where
  note_ok : ∀ r t x, ok r → ok (I.note r t x).2
  note_bad : ∀ r t x, ok r → (I.note r t x).1 ≠ 0 → (I.note r t x).2 = r
  note_err : ∀ r t x, ok r → 1 ≤ t → mayB x = true → (I.note r t x).1 = 0 ∨ (I.note r t x).1 = 4
  note_keep : ∀ r t x tb key n, ok r → n ∈ I.rdrs r tb key → n ∈ I.rdrs (I.note r t x).2 tb key
  note_new : ∀ r t x key, ok r → (I.note r t x).1 = 0 → holdB x key = true → t ∈ I.rdrs (I.note r t x).2 x.t key
  note_has : ∀ r t x n, ok r → I.has (I.note r t x).2 n = true → I.has r n = true ∨ n = t
  drop_ok : ∀ r t, ok r → ok (I.drop r t)
  drop_rdrs : ∀ r t tb key n, ok r → 1 ≤ t → n ≠ t → n ∈ I.rdrs r tb key → n ∈ I.rdrs (I.drop r t) tb key
  drop_has : ∀ r t n, ok r → 1 ≤ t → I.has (I.drop r t) n = true → I.has r n = true ∧ n ≠ t
  rdrs_has : ∀ r tb key n, ok r → n ∈ I.rdrs r tb key → I.has r n = true
  len_le : ∀ r, ok r → I.len r ≤ most
  len_none : ∀ r, ok r → (∀ n, I.has r n = false) → I.len r = 0
structure Tx where
  num : Int
  snap : Int
  act : Bool
  begun : Int
  ended : Int
  fin : Bool
  fout : Bool
  wrote : List Lk
structure Cp where
  active : Int
  kept : Int
  reads : Int
  locks : Int
structure Sm (ρ : Type) where
  caps : Cp
  now : Int
  last : Int
  clock : Int
  txs : List Tx
  locks : List (Lk × Int)
  reads : ρ
/-! strings -/
def eqS (a b : ByteArray) : Bool := a.toList == b.toList
def inR (key f u : ByteArray) : Bool := !Op.bytesLess key.toList f.toList && (u.toList == [] || Op.bytesLess key.toList u.toList)
section
variable {ρ : Type} (I : RdI ρ)
def concB (t o : Tx) : Bool := o.num != t.num && (o.act || decide (t.begun < o.ended))
def keepB (txs : List Tx) (t : Tx) : Bool := t.act || txs.any (fun a => a.act && decide (a.begun < t.ended))
def heldOf (L : List (Lk × Int)) (n : Int) : List Lk := (L.filter (fun p => p.2 == n)).map (·.1)
def holder (L : List (Lk × Int)) (a : Lk) : Option Int := (L.find? (fun p => p.1 = a)).map (·.2)
def Sm.at? (S : Sm ρ) (n : Int) : Option Tx := S.txs.find? (fun t => t.num == n)
def Sm.actv (S : Sm ρ) (n : Int) : Option Tx := S.txs.find? (fun t => t.num == n && t.act)
def Sm.acts (S : Sm ρ) : Nat := (S.txs.filter (·.act)).length
/-- all committed ones go that are concurrent with none under way -/
def Sm.forget (S : Sm ρ) : Sm ρ := { S with txs := S.txs.filter (keepB S.txs), reads := (S.txs.filter (fun t => !keepB S.txs t)).foldl (fun r t => I.drop r t.num) S.reads }
def Sm.gone (S : Sm ρ) (n : Int) : Sm ρ := Sm.forget I { S with locks := S.locks.filter (fun p => p.2 != n), reads := I.drop S.reads n, txs := S.txs.filter (fun t => t.num != n) }
def bothB (a b i o : Bool) : Bool := (a || i) && (b || o)
def setF (o : Tx) (i : Bool) : Tx := { o with fin := o.fin || i, fout := o.fout || !i }
def Sm.put (S : Sm ρ) (t : Tx) (so : Tx → Bool) (out : Bool) : Int × Sm ρ :=
  if bothB t.fin t.fout (!out && S.txs.any (fun o => concB t o && so o)) (out && S.txs.any (fun o => concB t o && so o)) || S.txs.any (fun o => (concB t o && so o) && (!o.act && bothB o.fin o.fout out (!out))) then (100, S.gone I t.num)
  else (0, { S with txs := S.txs.map (fun o => if o.num == t.num then (if S.txs.any (fun o => concB t o && so o) then setF o (!out) else o) else if concB t o && so o then setF o out else o) })
def wroteB (L : List (Lk × Int)) (o : Tx) (tb f u : ByteArray) : Bool := (if o.act then heldOf L o.num else o.wrote).any (fun l => eqS l.1 tb && inR l.2 f u)
def Sm.noteS (S : Sm ρ) (t : Tx) (x : Rd) (f u : ByteArray) : Int × Sm ρ :=
  if (I.note S.reads t.num x).1 ≠ 0 then ((I.note S.reads t.num x).1, Sm.gone I { S with reads := (I.note S.reads t.num x).2 } t.num)
  else Sm.put I { S with reads := (I.note S.reads t.num x).2 } t (fun o => wroteB S.locks o x.t f u) true
def Sm.read (S : Sm ρ) (tx : Int) (a : Lk) : Int × Sm ρ :=
  match S.actv tx with
  | none => (101, S)
  | some t => if holder S.locks a = some tx then (0, S) else S.noteS I t ⟨a.1, 1, a.2, ⟨#[]⟩⟩ a.2 (a.2 ++ ⟨#[0]⟩)
def Sm.scan (S : Sm ρ) (tx : Int) (tb f u : ByteArray) : Int × Sm ρ :=
  match S.actv tx with
  | none => (101, S)
  | some t => if u.toList ≠ [] ∧ Op.bytesLess f.toList u.toList = false then (0, S) else S.noteS I t ⟨tb, 2, f, u⟩ f u
/-- what Take leaves, and answers -/
def tk (most : Int) (L : List (Lk × Int)) (tx snap last : Int) (a : Lk) : Int × List (Lk × Int) :=
  match holder L a with
  | some h => if h = tx then (0, L) else (80, L)
  | none => if snap < last then (81, L) else if most ≤ L.length then (4, L) else (0, L ++ [(a, tx)])
def Sm.write (S : Sm ρ) (tx : Int) (a : Lk) (last : Int) : Int × Sm ρ :=
  match S.actv tx with
  | none => (101, S)
  | some t => if last < 0 then (1, S) else if holder S.locks a = some tx then (0, S)
    else if (tk S.caps.locks S.locks tx t.snap last a).1 ≠ 0 then ((tk S.caps.locks S.locks tx t.snap last a).1, S.gone I tx)
    else if S.txs.any (fun o => concB t o && (!o.act && decide (a ∈ o.wrote))) then (81, Sm.gone I { S with locks := (tk S.caps.locks S.locks tx t.snap last a).2 } tx)
    else Sm.put I { S with locks := (tk S.caps.locks S.locks tx t.snap last a).2 } t (fun o => decide (o.num ∈ I.rdrs S.reads a.1 a.2)) false
def Sm.begin (S : Sm ρ) : (Int × Int × Int) × Sm ρ :=
  if S.caps.active ≤ S.acts then ((0, 0, 4), S)
  else ((S.last + 1, S.now, 0), { S with last := S.last + 1, clock := S.clock + 1, txs := S.txs ++ [⟨S.last + 1, S.now, true, S.clock + 1, 0, false, false, []⟩] })
/-- one commits: its traces -/
def Sm.ends (S : Sm ρ) (tx : Int) : Sm ρ :=
  { S with now := if heldOf S.locks tx = [] then S.now else S.now + 1, clock := S.clock + 1, locks := S.locks.filter (fun p => p.2 != tx), txs := S.txs.map (fun o => if o.num == tx then { o with act := false, ended := S.clock + 1, wrote := heldOf S.locks tx } else o) }
def Sm.commit (S : Sm ρ) (tx : Int) : (Int × Int) × Sm ρ :=
  match S.actv tx with
  | none => ((0, 101), S)
  | some t => if t.fin && t.fout then ((0, 100), S.gone I tx)
    else if 1 < S.acts ∧ (heldOf S.locks tx ≠ [] ∨ I.has S.reads tx = true) ∧ S.caps.kept ≤ (S.txs.length : Int) - S.acts then ((0, 4), S.gone I tx)
    else (((S.ends tx).now, 0), Sm.forget I (if S.acts = 1 ∨ ¬ (heldOf S.locks tx ≠ [] ∨ I.has S.reads tx = true) then { S.ends tx with reads := I.drop S.reads tx, txs := (S.ends tx).txs.filter (fun o => o.num != tx) } else S.ends tx))
def Sm.abort (S : Sm ρ) (tx : Int) : Int × Sm ρ :=
  match S.actv tx with
  | none => (101, S)
  | some t => (0, S.gone I tx)
end
/-! ### the law's world -/
structure Ver where
  at_ : Lk
  num : Int
  by_ : Nat
  next : Int
structure Sw where
  at_ : Lk
  saw : Int
structure Run where
  tx : Int
  snap : Int
  begun : Int
  ended : Int
  committed : Bool
  over : Bool
  reads : List Sw
  writes : List Lk
structure Wld (ρ : Type) where
  m : Sm ρ
  rows : List Lk
  vers : List Ver
  list : List Run
  bad : Bool
structure Opn where
  kind : Int
  tx : Int
  at_ : Lk
  to_ : ByteArray
  last : Int
def hitV (a : Lk) (upto : Int) (v : Ver) : Bool := decide (v.at_ = a) && decide (v.num ≤ upto)
def newestN (vs : List Ver) (a : Lk) (upto : Int) : Nat → Int
  | 0 => -1
  | k + 1 => match vs[k]? with
    | some v => if hitV a upto v then (k : Int) else newestN vs a upto k
    | none => newestN vs a upto k
def newest (vs : List Ver) (a : Lk) (upto : Int) : Int := newestN vs a upto vs.length
def firstV (vs : List Ver) (a : Lk) : Int := if vs.findIdx (fun v => decide (v.at_ = a)) < vs.length then (vs.findIdx (fun v => decide (v.at_ = a)) : Int) else -1
/-- the place of one that is under way; -1: none -/
def ofR (l : List Run) (tx : Int) : Int := if l.findIdx (fun x => x.tx == tx && !x.over) < l.length then (l.findIdx (fun x => x.tx == tx && !x.over) : Int) else -1
def sees (vs : List Ver) (x : Run) (a : Lk) : Run := if a ∈ x.writes then x else { x with reads := x.reads ++ [⟨a, newest vs a x.snap⟩] }
def lay (vs : List Ver) (num : Int) (i : Nat) (a : Lk) : List Ver :=
  (if 0 ≤ newest vs a num then vs.modify (newest vs a num).toNat (fun v => { v with next := (vs.length : Int) }) else vs) ++ [⟨a, num, i, -1⟩]
def commitV (vs : List Ver) (ws : List Lk) (num : Int) (i : Nat) : List Ver := ws.foldl (fun vs a => lay vs num i a) vs
section
variable {ρ : Type} (I : RdI ρ)
/-- one that is over at a moment -/
def overR (x : Run) (moment : Int) : Run := { x with over := true, ended := moment }
/-- an operation of one that is under way, at place i -/
def Wld.opAt (W : Wld ρ) (o : Opn) (i : Nat) (x : Run) : Int × Wld ρ :=
  if o.kind = 1 then
    ((W.m.read I o.tx o.at_).1, { W with m := (W.m.read I o.tx o.at_).2, list := if (W.m.read I o.tx o.at_).1 = 0 then W.list.set i (sees W.vers x o.at_) else W.list })
  else if o.kind = 2 then
    ((W.m.scan I o.tx o.at_.1 o.at_.2 o.to_).1, { W with m := (W.m.scan I o.tx o.at_.1 o.at_.2 o.to_).2, list := if (W.m.scan I o.tx o.at_.1 o.at_.2 o.to_).1 = 0 then W.list.set i ((W.rows.filter (fun a => eqS a.1 o.at_.1 && inR a.2 o.at_.2 o.to_)).foldl (sees W.vers) x) else W.list })
  else if o.kind = 3 then
    let last := if 0 ≤ newest W.vers o.at_ 4611686018427387904 then ((W.vers[(newest W.vers o.at_ 4611686018427387904).toNat]?).map (·.num)).getD 0 else 0
    ((W.m.write I o.tx o.at_ last).1, { W with m := (W.m.write I o.tx o.at_ last).2, list := if (W.m.write I o.tx o.at_ last).1 = 0 ∧ o.at_ ∉ x.writes then W.list.set i { x with writes := x.writes ++ [o.at_] } else W.list })
  else if o.kind = 4 then
    if (W.m.commit I o.tx).1.2 = 0 then
      (0, ⟨(W.m.commit I o.tx).2, W.rows, commitV W.vers x.writes (W.m.commit I o.tx).1.1 i, W.list.set i { x with committed := true },
        W.bad || ((W.m.commit I o.tx).1.1 != (if x.writes = [] then W.m.now else W.m.now + 1) || (W.m.commit I o.tx).2.now != (if x.writes = [] then W.m.now else W.m.now + 1))⟩)
    else ((W.m.commit I o.tx).1.2, { W with m := (W.m.commit I o.tx).2 })
  else ((W.m.abort I o.tx).1, { W with m := (W.m.abort I o.tx).2 })
def Wld.step (W : Wld ρ) (o : Opn) (moment : Int) : Int × Wld ρ :=
  if o.kind = 0 then
    if W.m.begin.1.2.2 = 0 then (0, { W with m := W.m.begin.2, list := W.list ++ [⟨W.m.begin.1.1, W.m.begin.1.2.1, moment, 0, false, false, [], []⟩], bad := W.bad || W.m.begin.1.2.1 != W.m.begin.2.now })
    else (W.m.begin.1.2.2, { W with m := W.m.begin.2 })
  else match W.list[(ofR W.list o.tx).toNat]? with
    | none => (0, W)
    | some x => if ofR W.list o.tx < 0 then (0, W)
      else if o.kind < 1 ∨ 5 < o.kind then (0, W)
      else
        let r := W.opAt I o (ofR W.list o.tx).toNat x
        if r.1 ≠ 0 ∨ o.kind = 4 ∨ o.kind = 5 then (r.1, { r.2 with list := r.2.list.modify (ofR W.list o.tx).toNat (fun x => overR x moment) }) else r
end
/-! dependencies -/
def depsR (vs : List Ver) (i : Nat) (r : Sw) : List (Nat × Nat) :=
  let next := if 0 ≤ r.saw then ((vs[r.saw.toNat]?).map (·.next)).getD (-1) else firstV vs r.at_
  (if 0 ≤ r.saw then [(((vs[r.saw.toNat]?).map (·.by_)).getD 0, i)] else []) ++ (if 0 ≤ next then [(i, ((vs[next.toNat]?).map (·.by_)).getD 0)] else [])
def depsX (vs : List Ver) (i : Nat) (x : Run) : List (Nat × Nat) := if x.committed then x.reads.flatMap (depsR vs i) else []
def depsV (vs : List Ver) (v : Ver) : List (Nat × Nat) := if 0 ≤ v.next then [(v.by_, ((vs[v.next.toNat]?).map (·.by_)).getD 0)] else []
def depsW (vs : List Ver) (list : List Run) : List (Nat × Nat) := (list.mapIdx (depsX vs)).flatten ++ vs.flatMap (depsV vs)
end Go.Proofs.YthaoedfalkebbaaGreat
namespace Go.Proofs.YthaoedfalkebbaaGreat
set_option linter.unusedVariables false
theorem dist_inj {l : List Tx} (h : l.Pairwise (fun a b => a.num < b.num)) {a b : Tx} (ha : a ∈ l) (hb : b ∈ l) (e : a.num = b.num) : a = b := by
  induction l with
  | nil => cases ha
  | cons c l ih =>
    rw [List.pairwise_cons] at h
    rcases List.mem_cons.1 ha with e1 | ha2 <;> rcases List.mem_cons.1 hb with e2 | hb2
    · rw [e1, e2]
    · have := h.1 b hb2; rw [← e1] at this; omega
    · have := h.1 a ha2; rw [← e2] at this; omega
    · exact ih h.2 ha2 hb2
theorem find_num {txs : List Tx} (hd : txs.Pairwise (fun a b => a.num < b.num)) {t : Tx} (ht : t ∈ txs) {n : Int} (e : t.num = n) : txs.find? (fun o => o.num == n) = some t := by
  cases h : txs.find? (fun o => o.num == n) with
  | none =>
    rw [List.find?_eq_none] at h
    have := h t ht
    simp [e] at this
  | some u =>
    have h1 := List.find?_some h
    have h2 := List.mem_of_find?_eq_some h
    simp at h1
    rw [dist_inj hd h2 ht (by omega)]
end Go.Proofs.YthaoedfalkebbaaGreat
