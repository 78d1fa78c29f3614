/- Comments and white space of a text, as plain functions on lists of bytes. -/
import Derived.Test.YtffngbjnbigipaaGreatDoorPure
namespace Go.Proofs.YtffngbjnbigipaaGreatDoor
open Go.RowKit Go.Lib
set_option linter.unusedSimpArgs false
set_option linter.unusedVariables false
set_option linter.unnecessarySimpa false

def inB (c : Nat) : Bool := c == 9 || plainB c
def comGo : List UInt8 → Nat → Nat → Nat × Nat
  | [], _, _ => (0, 4)
  | [c], deep, k => if c.toNat = 40 then (if 8 ≤ deep then (0, 3) else (0, 4)) else if c.toNat = 41 then (if deep = 1 then (k + 1, 0) else (0, 4)) else if c.toNat = 92 then (0, 4)
      else if inB c.toNat = true then (0, 4) else (0, 5)
  | c :: d :: r, deep, k => if c.toNat = 40 then (if 8 ≤ deep then (0, 3) else comGo (d :: r) (deep + 1) (k + 1)) else if c.toNat = 41 then (if deep = 1 then (k + 1, 0) else comGo (d :: r) (deep - 1) (k + 1))
      else if c.toNat = 92 then (if plainB d.toNat = true then comGo r deep (k + 2) else (0, 5)) else if inB c.toNat = true then comGo (d :: r) deep (k + 1) else (0, 5)
def commentL (l : List UInt8) : Nat × Nat := if l.head? = some 40 then comGo l 0 0 else (0, 5)
theorem com_step (c : UInt8) (r : List UInt8) (deep k : Nat) : comGo (c :: r) deep k = if c.toNat = 40 then (if 8 ≤ deep then (0, 3) else comGo r (deep + 1) (k + 1)) else if c.toNat = 41 then (if deep = 1 then (k + 1, 0) else comGo r (deep - 1) (k + 1))
      else if c.toNat = 92 then (match r with | [] => (0, 4) | d :: r2 => if plainB d.toNat = true then comGo r2 deep (k + 2) else (0, 5)) else if inB c.toNat = true then comGo r deep (k + 1) else (0, 5) := by
  cases r with
  | nil =>
    rw [comGo]
    simp [comGo]
  | cons d r => rw [comGo]
theorem com_open (c : UInt8) (r : List UInt8) (deep k : Nat) (h : c.toNat = 40) : comGo (c :: r) deep k = if 8 ≤ deep then (0, 3) else comGo r (deep + 1) (k + 1) := by rw [com_step, if_pos h]
theorem com_close (c : UInt8) (r : List UInt8) (deep k : Nat) (h : c.toNat = 41) : comGo (c :: r) deep k = if deep = 1 then (k + 1, 0) else comGo r (deep - 1) (k + 1) := by rw [com_step, if_neg (by omega), if_pos h]
theorem com_back_end (c : UInt8) (deep k : Nat) (h : c.toNat = 92) : comGo [c] deep k = (0, 4) := by rw [com_step, if_neg (by omega), if_neg (by omega), if_pos h]
theorem com_back (c d : UInt8) (r : List UInt8) (deep k : Nat) (h : c.toNat = 92) (hp : plainB d.toNat = true) : comGo (c :: d :: r) deep k = comGo r deep (k + 2) := by rw [com_step, if_neg (by omega), if_neg (by omega), if_pos h]; simp [hp]
theorem com_back_bad (c d : UInt8) (r : List UInt8) (deep k : Nat) (h : c.toNat = 92) (hp : plainB d.toNat = false) : comGo (c :: d :: r) deep k = (0, 5) := by rw [com_step, if_neg (by omega), if_neg (by omega), if_pos h]; simp [hp]
theorem com_in (c : UInt8) (r : List UInt8) (deep k : Nat) (h1 : c.toNat ≠ 40) (h2 : c.toNat ≠ 41) (h3 : c.toNat ≠ 92) (hp : inB c.toNat = true) : comGo (c :: r) deep k = comGo r deep (k + 1) := by rw [com_step, if_neg h1, if_neg h2, if_neg h3, if_pos hp]
theorem com_bad (c : UInt8) (r : List UInt8) (deep k : Nat) (h1 : c.toNat ≠ 40) (h2 : c.toNat ≠ 41) (h3 : c.toNat ≠ 92) (hp : inB c.toNat = false) : comGo (c :: r) deep k = (0, 5) := by rw [com_step, if_neg h1, if_neg h2, if_neg h3, if_neg (by simp [hp])]
theorem com_many : ∀ (l : List UInt8) (deep k : Nat), ((comGo l deep k).2 = 0 → k < (comGo l deep k).1) ∧ (comGo l deep k).1 ≤ k + l.length
  | [], _, _ => by simp [comGo]
  | [c], deep, k => by
    unfold comGo
    repeat' split
    all_goals simp
  | c :: d :: r, deep, k => by
    have h1 := com_many (d :: r) (deep + 1) (k + 1)
    have h2 := com_many (d :: r) (deep - 1) (k + 1)
    have h3 := com_many (d :: r) deep (k + 1)
    have h4 := com_many r deep (k + 2)
    simp only [List.length_cons] at h1 h2 h3 ⊢
    rw [comGo]
    repeat' split
    all_goals first
      | (simp; done)
      | exact ⟨fun h => by have := h1.1 h; omega, by omega⟩
      | exact ⟨fun h => by have := h2.1 h; omega, by omega⟩
      | exact ⟨fun h => by have := h3.1 h; omega, by omega⟩
      | exact ⟨fun h => by have := h4.1 h; omega, by omega⟩
      | (simp; omega)
/-! white space with comments -/
def blGo : Nat → List UInt8 → Nat → Nat × Nat
  | 0, _, k => (k, 0)
  | _ + 1, [], k => (k, 0)
  | f + 1, c :: r, k => if c.toNat = 32 ∨ c.toNat = 9 then blGo f r (k + 1) else if c.toNat = 40 then (if (commentL (c :: r)).2 = 0 then blGo f ((c :: r).drop (commentL (c :: r)).1) (k + (commentL (c :: r)).1) else (0, (commentL (c :: r)).2)) else (k, 0)
def blankL (l : List UInt8) : Nat × Nat := blGo l.length l 0
theorem comment_many (l : List UInt8) : ((commentL l).2 = 0 → 0 < (commentL l).1) ∧ (commentL l).1 ≤ l.length := by
  unfold commentL
  split
  · have := com_many l 0 0
    exact ⟨this.1, by omega⟩
  · simp
theorem comment_errs : ∀ (l : List UInt8) (deep k : Nat), (comGo l deep k).2 = 0 ∨ (comGo l deep k).2 = 3 ∨ (comGo l deep k).2 = 4 ∨ (comGo l deep k).2 = 5
  | [], _, _ => by simp [comGo]
  | [c], deep, k => by
    unfold comGo
    repeat' split
    all_goals simp
  | c :: d :: r, deep, k => by
    have h1 := comment_errs (d :: r) (deep + 1) (k + 1)
    have h2 := comment_errs (d :: r) (deep - 1) (k + 1)
    have h3 := comment_errs (d :: r) deep (k + 1)
    have h4 := comment_errs r deep (k + 2)
    rw [comGo]
    repeat' split
    all_goals first | assumption | simp
end Go.Proofs.YtffngbjnbigipaaGreatDoor
