/- The forms of domains and of addresses' texts. Plain Lean. -/
import Derived.Test.YtkoncmmbdlnmfaaGreatDoorBackL
namespace Go.Proofs.YtkoncmmbdlnmfaaGreatDoor
open Go.RowKit Go.Lib
set_option linter.unusedSimpArgs false
set_option linter.unusedVariables false
set_option linter.unnecessarySimpa false
set_option maxRecDepth 100000

def hostdotB (c : UInt8) : Bool := c == 46 || c == 45 || letterB c.toNat
theorem pieces_mem (c : UInt8) : ∀ (l : List UInt8) (b : UInt8), b ∈ l → b = c ∨ ∃ p ∈ pieces c l, b ∈ p
  | x :: xs, b, h => by
    obtain ⟨q, qs, hq⟩ := pieces_form c xs
    by_cases hx : x = c
    · subst hx
      rw [pieces_eq]
      rcases List.mem_cons.1 h with rfl | h
      · exact .inl rfl
      · rcases pieces_mem x xs b h with h | ⟨p, hp, hb⟩
        · exact .inl h
        · exact .inr ⟨p, List.mem_cons_of_mem _ hp, hb⟩
    · rw [pieces_ne c x xs q qs hx hq]
      rcases List.mem_cons.1 h with rfl | h
      · exact .inr ⟨_, List.mem_cons_self, List.mem_cons_self⟩
      · rcases pieces_mem c xs b h with h | ⟨p, hp, hb⟩
        · exact .inl h
        · rw [hq] at hp
          rcases List.mem_cons.1 hp with rfl | hp
          · exact .inr ⟨_, List.mem_cons_self, List.mem_cons_of_mem _ hb⟩
          · exact .inr ⟨p, List.mem_cons_of_mem _ hp, hb⟩
theorem lit_form {d : List UInt8} (h : litL d = true) : ∃ inner, d = 91 :: (inner ++ [93]) ∧ ∀ b ∈ inner, b = 46 ∨ digitB b = true := by
  unfold litL at h
  simp only [Bool.and_eq_true, decide_eq_true_eq, beq_iff_eq] at h
  obtain ⟨⟨⟨⟨h1, h2⟩, h3⟩, _⟩, h5⟩ := h
  cases d with
  | nil => simp at h1
  | cons x t =>
    simp only [List.head?_cons, Option.some.injEq] at h2
    subst h2
    have hne : t ≠ [] := by
      rintro rfl
      simp at h1
    have ht : t = t.dropLast ++ [93] := by
      rw [List.getLast?_cons] at h3
      have h4 := List.getLast?_eq_some_getLast hne
      rw [h4] at h3
      simp only [Option.getD_some, Option.some.injEq] at h3
      have := List.dropLast_concat_getLast hne
      rw [h3] at this
      exact this.symm
    have hin : ((91 :: t).drop 1).take ((91 :: t).length - 2) = t.dropLast := by
      simp only [List.drop_succ_cons, List.drop_zero, List.length_cons]
      rw [List.dropLast_eq_take]
      congr 1
    rw [hin] at h5
    refine ⟨t.dropLast, by rw [← ht], fun b hb => ?_⟩
    rcases pieces_mem 46 _ b hb with h | ⟨p, hp, hbp⟩
    · exact .inl h
    · have ho := List.all_eq_true.1 h5 p hp
      unfold octL numOk at ho
      simp only [Bool.and_eq_true] at ho
      exact .inr (List.all_eq_true.1 ho.1.1.2 b hbp)
theorem dom_chars {d : List UInt8} (h : domL d = 0) (hh : d.head? ≠ some 91) : d ≠ [] ∧ ∀ b ∈ d, hostdotB b = true := by
  unfold domL at h
  rw [if_neg hh] at h
  unfold domP at h
  cases ha : (pieces 46 d).all labelL with
  | false => rw [ha] at h; simp at h
  | true =>
    refine ⟨?_, fun b hb => ?_⟩
    · rintro rfl
      revert ha
      decide
    · rcases pieces_mem 46 _ b hb with rfl | ⟨p, hp, hbp⟩
      · decide
      · have ho := List.all_eq_true.1 ha p hp
        unfold labelL at ho
        simp only [Bool.and_eq_true] at ho
        have := List.all_eq_true.1 ho.2 b hbp
        unfold hostB at this
        unfold hostdotB
        rw [Bool.or_eq_true] at this
        rcases this with h | h
        · rw [h]; simp
        · rw [h]; simp
/-- the local part as it stands in a text. -/
def wordT (x : List UInt8) : List UInt8 := if dotGo x true then x else quoteL x
theorem text_form {a : List UInt8 × List UInt8} (h : mayL a = true) : textL a = wordT a.1 ++ 64 :: a.2 := by
  unfold textL wordT
  rw [if_pos h]
  split <;> simp
end Go.Proofs.YtkoncmmbdlnmfaaGreatDoor
