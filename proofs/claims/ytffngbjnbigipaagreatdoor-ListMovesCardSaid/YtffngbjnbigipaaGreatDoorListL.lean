/- The document's lists of addresses, as plain functions on lists of bytes: where domains, words, addresses, routes, angles, members end, and what they hold. -/
import Derived.Test.YtffngbjnbigipaaGreatDoorBlankP
import Derived.Test.YtffngbjnbigipaaGreatDoorNum
namespace Go.Proofs.YtffngbjnbigipaaGreatDoor
open Go.RowKit Go.Lib
set_option linter.unusedSimpArgs false
set_option linter.unusedVariables false

def tw (p : UInt8 → Bool) (l : List UInt8) : Nat := (l.takeWhile p).length
def hostdotB (c : UInt8) : Bool := c == 46 || c == 45 || letterB c.toNat
def wordB (c : UInt8) : Bool := c == 46 || atomB c.toNat
def notEnd (c : UInt8) : Bool := c != 93
def slc (l : List UInt8) (a b : Nat) : List UInt8 := (l.take b).drop a
theorem tw_le (p : UInt8 → Bool) (l : List UInt8) : tw p l ≤ l.length := by
  unfold tw
  induction l with
  | nil => simp
  | cons a l ih =>
    rw [List.takeWhile_cons]
    split
    · simp only [List.length_cons]; omega
    · simp
theorem tw_nil (p : UInt8 → Bool) : tw p [] = 0 := rfl
theorem tw_yes (p : UInt8 → Bool) (c : UInt8) (l : List UInt8) (h : p c = true) : tw p (c :: l) = tw p l + 1 := by
  unfold tw; rw [List.takeWhile_cons, if_pos h]; rfl
theorem tw_no (p : UInt8 → Bool) (c : UInt8) (l : List UInt8) (h : p c = false) : tw p (c :: l) = 0 := by
  unfold tw; rw [List.takeWhile_cons, if_neg (by simp [h])]; rfl

abbrev Sp := Nat × Nat × List UInt8 × List UInt8
abbrev LSt := List Sp × Bool
def domE (l : List UInt8) (k : Nat) : Option Nat :=
  if l[k]? = some 91 then (if k + tw notEnd (l.drop k) < l.length then some (k + tw notEnd (l.drop k) + 1) else none)
  else if tw hostdotB (l.drop k) = 0 then none else some (k + tw hostdotB (l.drop k))
def wordE (l : List UInt8) (k : Nat) : Option Nat :=
  if l[k]? = some 34 then (if (quoted (l.drop k)).2.2 = 0 then some (k + (quoted (l.drop k)).2.1) else none) else some (k + tw wordB (l.drop k))
def blankE (l : List UInt8) (k : Nat) : Option Nat := if (blankL (l.drop k)).2 = 0 then some (k + (blankL (l.drop k)).1) else none
def addrE (l : List UInt8) (a b : Nat) (st : LSt) : Option (Nat × LSt) :=
  if b ≤ a then none else if l[b]? ≠ some 64 then none else
  match domE l (b + 1) with
  | none => none
  | some t => if (parseL (slc l a t)).2.2 = 5 then none else some (t, st.1 ++ [(a, t, (parseL (slc l a t)).1, (parseL (slc l a t)).2.1)], st.2 || (parseL (slc l a t)).2.2 != 0)
def routeE : Nat → List UInt8 → Nat → Bool → Option (Nat × Bool)
  | 0, _, _, _ => none
  | f + 1, l, k, long => if l[k]? ≠ some 64 then none else
    match domE l (k + 1) with
    | none => none
    | some t => if (parseL (120 :: slc l k t)).2.2 = 5 then none else
      if l[t]? = some 58 then some (t + 1, long || (parseL (120 :: slc l k t)).2.2 != 0)
      else if l[t]? = some 44 then routeE f l (t + 1) (long || (parseL (120 :: slc l k t)).2.2 != 0) else none
def rouE (l : List UInt8) (k : Nat) (long : Bool) : Option (Nat × Bool) := if l[k]? = some 64 then routeE (l.length + 1) l k long else some (k, long)
def closE (l : List UInt8) (k : Nat) (st : LSt) : Option (Nat × LSt) :=
  match blankE l k with
  | none => none
  | some k' => if l[k']? = some 62 then some (k' + 1, st) else none
def angE2 (l : List UInt8) (k : Nat) (st : LSt) : Option (Nat × LSt) :=
  match blankE l k with
  | none => none
  | some k3 => match wordE l k3 with
    | none => none
    | some e => match addrE l k3 e st with
      | none => none
      | some (k4, st4) => closE l k4 st4
def angleE (l : List UInt8) (k : Nat) (st : LSt) : Option (Nat × LSt) :=
  match blankE l k with
  | none => none
  | some k1 => match rouE l k1 st.2 with
    | none => none
    | some (k2, long) => angE2 l k2 (st.1, long)
def wordsE : Nat → List UInt8 → Nat → Nat → Nat → Option (Nat × Nat × Nat)
  | 0, _, _, _, _ => none
  | f + 1, l, i, many, e => match wordE l i with
    | none => none
    | some k => if k = i then some (i, many, e) else match blankE l k with
      | none => none
      | some i' => wordsE f l i' (many + 1) k
def afterE (inner : Nat → LSt → Option (Nat × LSt)) (within : Bool) (l : List UInt8) (fr i many e : Nat) (st : LSt) : Option (Nat × LSt) :=
  if l[i]? = some 64 then (if many = 1 ∧ e = i then addrE l fr i st else none)
  else if l[i]? = some 60 then angleE l (i + 1) st
  else if l[i]? = some 58 ∧ 0 < many ∧ within = false then inner (i + 1) st
  else if 0 < many then none else some (i, st)
def lastE (l : List UInt8) : Option (Nat × LSt) → Option (Nat × LSt)
  | none => none
  | some (k, st) => match blankE l k with
    | none => none
    | some k' => some (k', st)
def memE (inner : Nat → LSt → Option (Nat × LSt)) (within : Bool) (l : List UInt8) (k : Nat) (st : LSt) : Option (Nat × LSt) :=
  match blankE l k with
  | none => none
  | some fr => match wordsE (l.length + 1) l fr 0 fr with
    | none => none
    | some (i, many, e) => lastE l (afterE inner within l fr i many e st)
def memsE (mem : Nat → LSt → Option (Nat × LSt)) (l : List UInt8) : Nat → Nat → LSt → Option (Nat × LSt)
  | 0, _, _ => none
  | f + 1, k, st => match mem k st with
    | none => none
    | some (k', st') => if l[k']? = some 44 then memsE mem l f (k' + 1) st' else some (k', st')
def memT (l : List UInt8) : Nat → LSt → Option (Nat × LSt) := memE (fun _ _ => none) true l
def memsT (l : List UInt8) (k : Nat) (st : LSt) : Option (Nat × LSt) := memsE (memT l) l (l.length + 1) k st
def innerE (l : List UInt8) (k : Nat) (st : LSt) : Option (Nat × LSt) :=
  match memsT l k st with
  | none => none
  | some (k', st') => if l[k']? = some 59 then some (k' + 1, st') else none
def memF (l : List UInt8) : Nat → LSt → Option (Nat × LSt) := memE (innerE l) false l
def memsF (l : List UInt8) (k : Nat) (st : LSt) : Option (Nat × LSt) := memsE (memF l) l (l.length + 1) k st
def findL (l : List UInt8) : List Sp × Nat :=
  match memsF l 0 ([], false) with
  | none => ([], 5)
  | some (k, sp, long) => if k ≠ l.length then ([], 5) else if long = true then ([], 3) else if 64 < sp.length then ([], 7) else (sp, 0)

/-! places stay in the text, and do not go back -/
theorem at_lt {l : List UInt8} {k : Nat} {c : UInt8} (h : l[k]? = some c) : k < l.length := by
  rcases Nat.lt_or_ge k l.length with h1 | h1
  · exact h1
  · rw [List.getElem?_eq_none h1] at h; cases h
theorem domE_le {l : List UInt8} {k n : Nat} (hk : k ≤ l.length) (h : domE l k = some n) : k < n ∧ n ≤ l.length := by
  unfold domE at h
  have h1 := tw_le hostdotB (l.drop k)
  rw [List.length_drop] at h1
  split at h
  · split at h
    · injection h with h; omega
    · cases h
  · split at h
    · cases h
    · injection h with h; omega
theorem wordE_le {l : List UInt8} {k n : Nat} (hk : k ≤ l.length) (h : wordE l k = some n) : k ≤ n ∧ n ≤ l.length := by
  unfold wordE at h
  have h1 := tw_le wordB (l.drop k)
  have h2 := quoted_many (l.drop k)
  rw [List.length_drop] at h1 h2
  split at h
  · split at h
    · injection h with h; omega
    · cases h
  · injection h with h; omega
theorem bl_many : ∀ (f : Nat) (l : List UInt8) (k : Nat), (blGo f l k).1 ≤ k + l.length
  | 0, _, _ => by simp [blGo]
  | _ + 1, [], _ => by simp [blGo]
  | f + 1, c :: r, k => by
    have h1 := bl_many f r (k + 1)
    have hm := (comment_many (c :: r)).2
    have h2 := bl_many f ((c :: r).drop (commentL (c :: r)).1) (k + (commentL (c :: r)).1)
    rw [List.length_drop] at h2
    simp only [List.length_cons] at h1 h2 hm ⊢
    unfold blGo
    split
    · omega
    · split
      · split
        · omega
        · simp
      · simp
theorem blank_many (l : List UInt8) : (blankL l).1 ≤ l.length := by
  have := bl_many l.length l 0
  unfold blankL
  omega
theorem blankE_le {l : List UInt8} {k n : Nat} (hk : k ≤ l.length) (h : blankE l k = some n) : k ≤ n ∧ n ≤ l.length := by
  unfold blankE at h
  have h2 := blank_many (l.drop k)
  rw [List.length_drop] at h2
  split at h
  · injection h with h; omega
  · cases h
theorem addrE_le {l : List UInt8} {a b n : Nat} {st st' : LSt} (h : addrE l a b st = some (n, st')) : a < b ∧ b < n ∧ n ≤ l.length := by
  unfold addrE at h
  split at h
  · cases h
  · split at h
    · cases h
    · rename_i h1 h2
      have hb : b < l.length := at_lt (Classical.not_not.1 h2)
      split at h
      · cases h
      · rename_i t ht
        have := domE_le (by omega) ht
        split at h
        · cases h
        · injection h with h; injection h with h _; omega
theorem routeE_le : ∀ (f : Nat) {l : List UInt8} {k n : Nat} {g g' : Bool}, routeE f l k g = some (n, g') → k < n ∧ n ≤ l.length
  | 0, _, _, _, _, _, h => by cases h
  | f + 1, l, k, n, g, g', h => by
    rw [routeE] at h
    split at h
    · cases h
    · rename_i h2
      have hb : k < l.length := at_lt (Classical.not_not.1 h2)
      split at h
      · cases h
      · rename_i t ht
        have hd := domE_le (by omega) ht
        split at h
        · cases h
        · split at h
          · rename_i h3
            have := at_lt h3
            injection h with h; injection h with h _; omega
          · split at h
            · have := routeE_le f h; omega
            · cases h
theorem rouE_le {l : List UInt8} {k n : Nat} {g g' : Bool} (hk : k ≤ l.length) (h : rouE l k g = some (n, g')) : k ≤ n ∧ n ≤ l.length := by
  unfold rouE at h
  split at h
  · have := routeE_le _ h; omega
  · injection h with h; injection h with h _; omega
theorem closE_le {l : List UInt8} {k n : Nat} {st st' : LSt} (hk : k ≤ l.length) (h : closE l k st = some (n, st')) : k ≤ n ∧ n ≤ l.length := by
  unfold closE at h
  split at h
  · cases h
  · rename_i k' hb
    have := blankE_le hk hb
    split at h
    · rename_i h3
      have := at_lt h3
      injection h with h; injection h with h _; omega
    · cases h
theorem angE2_le {l : List UInt8} {k n : Nat} {st st' : LSt} (hk : k ≤ l.length) (h : angE2 l k st = some (n, st')) : k ≤ n ∧ n ≤ l.length := by
  unfold angE2 at h
  split at h
  · cases h
  · rename_i k3 hb
    have h1 := blankE_le hk hb
    split at h
    · cases h
    · rename_i e he
      have h2 := wordE_le h1.2 he
      split at h
      · cases h
      · rename_i k4 st4 ha
        have h3 := addrE_le ha
        have h4 := closE_le h3.2.2 h
        omega
theorem angleE_le {l : List UInt8} {k n : Nat} {st st' : LSt} (hk : k ≤ l.length) (h : angleE l k st = some (n, st')) : k ≤ n ∧ n ≤ l.length := by
  unfold angleE at h
  split at h
  · cases h
  · rename_i k1 hb
    have h1 := blankE_le hk hb
    split at h
    · cases h
    · rename_i k2 g hr
      have h2 := rouE_le h1.2 hr
      have h3 := angE2_le h2.2 h
      omega
theorem wordsE_le : ∀ (f : Nat) {l : List UInt8} {i many e i' many' e' : Nat}, i ≤ l.length → e ≤ i → wordsE f l i many e = some (i', many', e') → i ≤ i' ∧ i' ≤ l.length ∧ many ≤ many' ∧ e' ≤ i' ∧ many' ≤ many + (i' - i) ∧ e ≤ e'
  | 0, _, _, _, _, _, _, _, _, _, h => by cases h
  | f + 1, l, i, many, e, i', many', e', hi, he, h => by
    rw [wordsE] at h
    split at h
    · cases h
    · rename_i k hw
      have h1 := wordE_le hi hw
      split at h
      · injection h with h; injection h with h1 h; injection h with h2 h3; omega
      · rename_i hne
        split at h
        · cases h
        · rename_i j hb
          have h2 := blankE_le h1.2 hb
          have := wordsE_le f h2.2 h2.1 h
          omega
def InnerLe (l : List UInt8) (inner : Nat → LSt → Option (Nat × LSt)) : Prop := ∀ k st n st', k ≤ l.length → inner k st = some (n, st') → k ≤ n ∧ n ≤ l.length
theorem afterE_le {inner : Nat → LSt → Option (Nat × LSt)} {within : Bool} {l : List UInt8} {fr i many e n : Nat} {st st' : LSt} (hI : InnerLe l inner) (hi : i ≤ l.length) (h : afterE inner within l fr i many e st = some (n, st')) : i ≤ n ∧ n ≤ l.length := by
  unfold afterE at h
  split at h
  · split at h
    · have := addrE_le h; omega
    · cases h
  · split at h
    · rename_i h3
      have := at_lt h3
      have := angleE_le (by omega) h
      omega
    · split at h
      · rename_i h3
        have := at_lt h3.1
        have := hI _ _ _ _ (by omega) h
        omega
      · split at h
        · cases h
        · injection h with h; injection h with h _; omega
theorem memE_le {inner : Nat → LSt → Option (Nat × LSt)} {within : Bool} {l : List UInt8} (hI : InnerLe l inner) : InnerLe l (memE inner within l) := by
  intro k st n st' hk h
  unfold memE at h
  split at h
  · cases h
  · rename_i fr hb
    have h1 := blankE_le hk hb
    split at h
    · cases h
    · rename_i i many e hw
      have h2 := wordsE_le _ h1.2 (Nat.le_refl _) hw
      unfold lastE at h
      split at h
      · cases h
      · rename_i k2 st2 ha
        have h3 := afterE_le hI h2.2.1 ha
        split at h
        · cases h
        · rename_i k3 hb3
          have h4 := blankE_le h3.2 hb3
          injection h with h; injection h with h _; omega
theorem memsE_le {mem : Nat → LSt → Option (Nat × LSt)} {l : List UInt8} (hI : InnerLe l mem) : ∀ (f : Nat), InnerLe l (fun k st => memsE mem l f k st)
  | 0 => by intro k st n st' _ h; cases h
  | f + 1 => by
    intro k st n st' hk h
    simp only [memsE] at h
    split at h
    · cases h
    · rename_i k2 st2 hm
      have h1 := hI _ _ _ _ hk hm
      split at h
      · rename_i h3
        have := at_lt h3
        have := memsE_le hI f _ _ _ _ (by omega) h
        omega
      · injection h with h; injection h with h _; omega
theorem none_le (l : List UInt8) : InnerLe l (fun _ _ => none) := by intro k st n st' _ h; cases h
theorem memT_le (l : List UInt8) : InnerLe l (memT l) := memE_le (none_le l)
theorem memsT_le (l : List UInt8) : InnerLe l (memsT l) := memsE_le (memT_le l) _
theorem innerE_le (l : List UInt8) : InnerLe l (innerE l) := by
  intro k st n st' hk h
  unfold innerE at h
  split at h
  · cases h
  · rename_i k2 st2 hm
    have h1 := memsT_le l _ _ _ _ hk hm
    split at h
    · rename_i h3
      have := at_lt h3
      injection h with h; injection h with h _; omega
    · cases h
theorem memF_le (l : List UInt8) : InnerLe l (memF l) := memE_le (innerE_le l)
theorem memsF_le (l : List UInt8) : InnerLe l (memsF l) := memsE_le (memF_le l) _
end Go.Proofs.YtffngbjnbigipaaGreatDoor
