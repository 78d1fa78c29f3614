/- The plain laws of numbers of one to three digits and of the parts of an address: plain Lean. -/
import Derived.Test.YtkoncmmbdlnmfaaGreatDoorPure
import Derived.Lib.ItoaNum
namespace Go.Proofs.YtkoncmmbdlnmfaaGreatDoor
open Go.RowKit Go.Lib
set_option linter.unusedSimpArgs false
set_option linter.unusedVariables false
set_option linter.unnecessarySimpa false

theorem dec1 (u : Nat) (h : u < 10) : decDigits u = [UInt8.ofNat (48 + u)] := by rw [decDigits, dif_pos h]
theorem dec2 (u : Nat) (h1 : 10 ≤ u) (h : u < 100) : decDigits u = [UInt8.ofNat (48 + u / 10), UInt8.ofNat (48 + u % 10)] := by
  rw [decDigits, dif_neg (by omega), dec1 _ (by omega)]; rfl
theorem dec3 (u : Nat) (h1 : 100 ≤ u) (h : u < 1000) : decDigits u = [UInt8.ofNat (48 + u / 100), UInt8.ofNat (48 + u / 10 % 10), UInt8.ofNat (48 + u % 10)] := by
  rw [decDigits, dif_neg (by omega), dec2 _ (by omega) (by omega), show u / 10 / 10 = u / 100 by omega]; rfl
theorem dig_back (x : UInt8) (n : Nat) (h : digitB x = true) (hn : n = x.toNat - 48) : UInt8.ofNat (48 + n) = x := by
  simp only [digitB, Bool.and_eq_true, decide_eq_true_eq] at h
  rw [hn, show 48 + (x.toNat - 48) = x.toNat by omega]
  simp
theorem dig_lt (x : UInt8) (h : digitB x = true) : x.toNat - 48 < 10 := by
  simp only [digitB, Bool.and_eq_true, decide_eq_true_eq] at h
  omega
theorem dig_zero (x : UInt8) (h : digitB x = true) (hz : x.toNat - 48 = 0) : x = 48 := by
  simp only [digitB, Bool.and_eq_true, decide_eq_true_eq] at h
  exact UInt8.toNat_inj.1 (by show x.toNat = 48; omega)
theorem dig_nz (x : UInt8) (h : digitB x = true) (hz : x.toNat - 48 ≠ 0) : x ≠ 48 := by
  rintro rfl
  exact hz rfl
theorem octet_law (p : List UInt8) (h : numOk p 3 = true) : numV p < 1000 ∧ (decDigits (numV p) == p) = !(decide (1 < p.length) && p.head? == some 48) := by
  match p, h with
  | [], h => simp [numOk] at h
  | [x], h =>
    have hx : digitB x = true := by simp [numOk] at h; exact h.2
    have := dig_lt x hx
    have e : numV [x] = x.toNat - 48 := by simp [numV]
    rw [e]
    refine ⟨by omega, ?_⟩
    rw [dec1 _ this, dig_back x _ hx rfl]
    simp
  | [x, y], h =>
    have hx : digitB x = true ∧ digitB y = true := by simp [numOk] at h; exact h.2
    have h1 := dig_lt x hx.1
    have h2 := dig_lt y hx.2
    have e : numV [x, y] = 10 * (x.toNat - 48) + (y.toNat - 48) := by simp [numV]
    rw [e]
    refine ⟨by omega, ?_⟩
    by_cases hz : x.toNat - 48 = 0
    · rw [dec1 _ (by omega), dig_zero x hx.1 hz]
      simp
    · rw [dec2 _ (by omega) (by omega), dig_back x _ hx.1 (by omega), dig_back y _ hx.2 (by omega)]
      simp [dig_nz x hx.1 hz]
  | [x, y, z], h =>
    have hx : digitB x = true ∧ digitB y = true ∧ digitB z = true := by simp [numOk] at h; exact h.2
    have h1 := dig_lt x hx.1
    have h2 := dig_lt y hx.2.1
    have h3 := dig_lt z hx.2.2
    have e : numV [x, y, z] = 10 * (10 * (x.toNat - 48) + (y.toNat - 48)) + (z.toNat - 48) := by simp [numV]
    rw [e]
    refine ⟨by omega, ?_⟩
    by_cases hz : x.toNat - 48 = 0
    · rw [dig_zero x hx.1 hz]
      by_cases hz2 : y.toNat - 48 = 0
      · rw [dec1 _ (by have : (48 : UInt8).toNat = 48 := rfl; omega)]
        simp
      · rw [dec2 _ (by have : (48 : UInt8).toNat = 48 := rfl; omega) (by have : (48 : UInt8).toNat = 48 := rfl; omega)]
        simp
    · rw [dec3 _ (by omega) (by omega), dig_back x _ hx.1 (by omega), dig_back y _ hx.2.1 (by omega), dig_back z _ hx.2.2 (by omega)]
      simp [dig_nz x hx.1 hz]
  | x :: y :: z :: t :: r, h =>
    exfalso
    simp only [numOk, Bool.and_eq_true, decide_eq_true_eq, List.length_cons] at h
    omega
/-- a number from 0 to 255, without noughts in front. -/
def octL (p : List UInt8) : Bool := numOk p 3 && decide (numV p < 256) && !(decide (1 < p.length) && p.head? == some 48)

/-! an address's text: the part ahead, what is behind it -/
def litL (l : List UInt8) : Bool := decide (2 ≤ l.length) && l.head? == some 91 && l.getLast? == some 93 && decide ((pieces 46 ((l.drop 1).take (l.length - 2))).length = 4) && (pieces 46 ((l.drop 1).take (l.length - 2))).all octL
def domL (l : List UInt8) : Nat := if l.head? = some 91 then (if litL l then 0 else 5) else domP l
def headL (l : List UInt8) : Option (List UInt8 × List UInt8) :=
  if l.head? = some 34 then (if (quoted l).2.2 = 0 ∧ (quoted l).1 ≠ [] then some ((quoted l).1, l.drop (quoted l).2.1) else none)
  else if dotGo (l.takeWhile (· != 64)) true then some (l.takeWhile (· != 64), l.dropWhile (· != 64)) else none
def tailL (word : List UInt8) : List UInt8 → List UInt8 × List UInt8 × Nat
  | [] => ([], [], 5)
  | c :: d => if c = 64 then (if domL d = 5 then ([], [], 5) else if domL d = 3 ∨ 64 < word.length then ([], [], 3) else (word, d, 0)) else ([], [], 5)
def parseL (l : List UInt8) : List UInt8 × List UInt8 × Nat := match headL l with
  | none => ([], [], 5)
  | some (word, rest) => tailL word rest
theorem domL_cases (l : List UInt8) : domL l = 0 ∨ domL l = 3 ∨ domL l = 5 := by
  unfold domL domP
  split
  · split <;> simp
  · split
    · split <;> simp
    · simp
end Go.Proofs.YtkoncmmbdlnmfaaGreatDoor
