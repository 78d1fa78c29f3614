/- What a text tells, of all kinds; the text that tells a target of any kind. Plain Lean. -/
import Derived.Test.YtkoncmmbdlnmfaaGreatDoorEK2
import Derived.Test.YtkoncmmbdlnmfaaGreatDoorFback
namespace Go.Proofs.YtkoncmmbdlnmfaaGreatDoor
open Go.RowKit Go.Lib
set_option linter.unusedSimpArgs false
set_option linter.unusedVariables false
set_option linter.unnecessarySimpa false
set_option maxRecDepth 100000

/-- what a text tells, of all kinds. -/
def targF (s : List UInt8) : Option Tg :=
  match kindL s with
  | (5, r) => if mayName (trimF r) = true then some (5, ([], []), trimF r) else none
  | (6, r) => if (!(trimW r).isEmpty && decide ((trimW r).length ≤ 100) && plainL (trimW r)) = true then some (6, ([], []), trimW r) else none
  | (7, r) => if r = [] then some (7, ([], []), []) else none
  | _ => targL s
theorem targF_of {s : List UInt8} {k : Nat} {r : List UInt8} (h : kindL s = (k, r)) (hk : k ≤ 4) : targF s = targL s := by
  unfold targF
  rw [h]
  match k, hk with
  | 0, _ => rfl
  | 1, _ => rfl
  | 2, _ => rfl
  | 3, _ => rfl
  | 4, _ => rfl
theorem kind_le (s : List UInt8) : 1 ≤ (kindL s).1 ∧ (kindL s).1 ≤ 7 := by
  unfold kindL
  repeat' split
  all_goals exact ⟨by show (1 : Nat) ≤ _; omega, by show _ ≤ (7 : Nat); omega⟩
theorem targL_none {s : List UInt8} (h : 4 < (kindL s).1) : targL s = none := by
  unfold targL
  generalize kindL s = K at h
  obtain ⟨k, r⟩ := K
  match k, h with
  | k + 5, _ => rfl
theorem targF_up {s : List UInt8} {t : Tg} (h : targL s = some t) : targF s = some t := by
  rcases Nat.lt_or_ge 4 (kindL s).1 with hk | hk
  · rw [targL_none hk] at h; cases h
  · rw [targF_of (r := (kindL s).2) rfl hk]; exact h
theorem targF_low {s : List UInt8} {t : Tg} (h : targF s = some t) : 1 ≤ t.1 ∧ t.1 ≤ 7 ∧ (t.1 ≤ 4 → targL s = some t) := by
  have hk := kind_le s
  by_cases h4 : (kindL s).1 ≤ 4
  · rw [targF_of (r := (kindL s).2) rfl h4] at h
    obtain ⟨a, b, -⟩ := targ_kind h
    exact ⟨a, by omega, fun _ => h⟩
  · unfold targF at h
    generalize kindL s = K at h hk h4
    obtain ⟨k, r⟩ := K
    simp only at h4 hk
    have h567 : k = 5 ∨ k = 6 ∨ k = 7 := by omega
    rcases h567 with rfl | rfl | rfl
    · simp only at h
      split at h
      · injection h with h; subst h; exact ⟨by show (1 : Nat) ≤ 5; omega, by show (5 : Nat) ≤ 7; omega, fun e => absurd e (by show ¬ (5 : Nat) ≤ 4; omega)⟩
      · cases h
    · simp only at h
      split at h
      · injection h with h; subst h; exact ⟨by show (1 : Nat) ≤ 6; omega, by show (6 : Nat) ≤ 7; omega, fun e => absurd e (by show ¬ (6 : Nat) ≤ 4; omega)⟩
      · cases h
    · simp only at h
      split at h
      · injection h with h; subst h; exact ⟨by show (1 : Nat) ≤ 7; omega, by show (7 : Nat) ≤ 7; omega, fun e => absurd e (by show ¬ (7 : Nat) ≤ 4; omega)⟩
      · cases h
theorem targ_from {s : List UInt8} (h : targF s = none) : targL s = none := by
  cases hh : targL s with
  | none => rfl
  | some t => rw [targF_up hh] at h; cases h
/-- the text that would tell a target of any kind. -/
def tellF (t : TI) : List UInt8 := if t.1 = 1 then textL t.2.1 else if t.1 = 6 then failL ++ 32 :: t.2.2 else if 3 ≤ t.1 ∧ t.1 ≤ 7 then begL t.1.toNat ++ t.2.2 else t.2.2
/-- the text that tells it. -/
def textI (t : TI) : List UInt8 := if (targF (tellF t)).map up = some t then tellF t else []
theorem tellF_up (t : Tg) (h : 1 ≤ t.1) (h4 : t.1 ≤ 4) : tellF (up t) = tellL t := by
  obtain ⟨k, a, n⟩ := t
  match k, h, h4 with
  | 1, _, _ => rfl
  | 2, _, _ => rfl
  | 3, _, _ => rfl
  | 4, _, _ => rfl
theorem textI_up (t : Tg) (h : 1 ≤ t.1) (h4 : t.1 ≤ 4) : textI (up t) = if targL (tellL t) = some t then tellL t else [] := by
  unfold textI
  rw [tellF_up t h h4]
  by_cases hl : targL (tellL t) = some t
  · rw [if_pos hl, targF_up hl, Option.map_some, if_pos rfl]
  · rw [if_neg hl, if_neg]
    intro hm
    cases hf : targF (tellL t) with
    | none => rw [hf] at hm; cases hm
    | some t' =>
      rw [hf] at hm
      injection hm with hm
      have := up_inj hm
      subst this
      exact hl ((targF_low hf).2.2 h4)
/-- may a target be told in a .forward, as the program asks it of the text that tells it? -/
def okI (t : TI) : Bool := !(textI t).isEmpty && (textI t).head? != some 35 && !(textI t).contains 34 && decide (1 ≤ t.1) && decide (t.1 ≤ 4)
theorem okI_ok {t : TI} (h : okI t = true) : ∃ t', t = up t' ∧ OkT t' ∧ textI t = tellL t' := by
  unfold okI at h
  simp only [Bool.and_eq_true, decide_eq_true_eq, bne_iff_ne, Bool.not_eq_true', List.isEmpty_eq_false_iff] at h
  obtain ⟨⟨⟨⟨h1, h2⟩, h3⟩, h4⟩, h5⟩ := h
  obtain ⟨k, r⟩ := t
  simp only at h4 h5
  obtain ⟨n, hn⟩ := Int.eq_ofNat_of_zero_le (show 0 ≤ k by omega)
  subst hn
  have h4' : 1 ≤ n := by omega
  have h5' : n ≤ 4 := by omega
  have e := textI_up (n, r) h4' h5'
  have eu : ((n : Int), r) = up (n, r) := rfl
  refine ⟨(n, r), rfl, ?_, ?_⟩
  · by_cases hl : targL (tellL (n, r)) = some (n, r)
    · rw [if_pos hl] at e
      rw [eu, e] at h2 h3
      refine ⟨hl, h2, fun b hb e34 => ?_⟩
      subst e34
      rw [List.contains_eq_mem] at h3
      simp at h3
      exact h3 hb
    · rw [if_neg hl] at e
      rw [eu, e] at h1
      exact absurd rfl h1
  · by_cases hl : targL (tellL (n, r)) = some (n, r)
    · rw [if_pos hl] at e
      exact e
    · rw [if_neg hl] at e
      rw [eu, e] at h1
      exact absurd rfl h1
theorem okI_up {t : Tg} (h : OkT t) : okI (up t) = true ∧ textI (up t) = tellL t := by
  obtain ⟨k1, k2, -⟩ := targ_kind h.1
  have e := textI_up t k1 k2
  rw [if_pos h.1] at e
  refine ⟨?_, e⟩
  obtain ⟨h0, -⟩ := okT_clean h
  unfold okI
  rw [e]
  have h34 : (tellL t).contains 34 = false := by
    rw [List.contains_eq_mem]
    simpa using fun hm => h.2.2 34 hm rfl
  have hk1 : 1 ≤ (up t).1 := by show (1 : Int) ≤ (t.1 : Int); omega
  have hk2 : (up t).1 ≤ 4 := by show (t.1 : Int) ≤ (4 : Int); omega
  rw [h34]
  simp only [Bool.and_eq_true, decide_eq_true_eq, bne_iff_ne, Bool.not_eq_true', List.isEmpty_eq_false_iff]
  exact ⟨⟨⟨⟨h0, h.2.1⟩, trivial⟩, hk1⟩, hk2⟩
theorem kind_len (s : List UInt8) : (kindL s).2.length ≤ s.length := by
  have hc : ∀ {p r : List UInt8}, cutPre p s = some r → r.length ≤ s.length := fun h => by
    rw [cutPre_some h, List.length_append]; omega
  unfold kindL
  split
  · rename_i r h; exact hc h
  · split
    · rename_i r h; exact hc h
    · split
      · rename_i r h; exact hc h
      · split
        · rename_i r h; exact hc h
        · split
          · rename_i r h; exact hc h
          · split <;> exact Nat.le_refl _
/-- the same by the kind's number. -/
def tF (PL : List UInt8 × List UInt8 × Nat) (k : Nat) (r : List UInt8) : Option Tg :=
  if k = 1 then (if PL.2.2 = 0 then some (1, (PL.1, PL.2.1), []) else none)
  else if k = 2 then (if localB r = true then some (2, ([], []), lowL r) else none)
  else if k = 3 then (if localB r = true then some (3, ([], []), lowL r) else none)
  else if k = 4 then (if mayName r = true then some (4, ([], []), r) else none)
  else if k = 5 then (if mayName (trimF r) = true then some (5, ([], []), trimF r) else none)
  else if k = 6 then (if (!(trimW r).isEmpty && decide ((trimW r).length ≤ 100) && plainL (trimW r)) = true then some (6, ([], []), trimW r) else none)
  else if r = [] then some (7, ([], []), []) else none
theorem targF_tF (s : List UInt8) : targF s = tF (parseL s) (kindL s).1 (kindL s).2 := by
  have hk := kind_le s
  unfold targF targL
  generalize kindL s = K at hk
  obtain ⟨k, r⟩ := K
  match k, hk with
  | 1, _ => rfl
  | 2, _ => rfl
  | 3, _ => rfl
  | 4, _ => rfl
  | 5, _ => rfl
  | 6, _ => rfl
  | 7, _ => rfl
end Go.Proofs.YtkoncmmbdlnmfaaGreatDoor
