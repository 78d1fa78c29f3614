/- A text parted at its first plus. -/
import Derived.Test.YtffngbjnbigipaaGreatDoorDomX
namespace Go.Proofs.YtffngbjnbigipaaGreatDoor
open Go.RowKit Go.Lib
set_option linter.unusedSimpArgs false
set_option linter.unusedVariables false
set_option linter.unnecessarySimpa false
set_option maxRecDepth 100000

def cutP : List UInt8 → List UInt8 × List UInt8 × Bool
  | [] => ([], [], false)
  | b :: l => if b = 43 then ([], l, true) else (b :: (cutP l).1, (cutP l).2.1, (cutP l).2.2)
theorem index_plus : ∀ l : List UInt8, (Lib.index l [43] = -1 ∧ (43 : UInt8) ∉ l ∧ cutP l = (l, [], false)) ∨ ∃ k : Nat, Lib.index l [43] = k ∧ k < l.length ∧ (43 : UInt8) ∉ l.take k ∧ cutP l = (l.take k, l.drop (k + 1), true) ∧ l = l.take k ++ 43 :: l.drop (k + 1)
  | [] => .inl ⟨rfl, by simp, rfl⟩
  | b :: l => by
    have e : Lib.index (b :: l) [43] = if ([43] : List UInt8).isPrefixOf (b :: l) then 0 else if Lib.index l [43] == -1 then -1 else Lib.index l [43] + 1 := rfl
    have ep : ([43] : List UInt8).isPrefixOf (b :: l) = (43 == b) := by simp [List.isPrefixOf]
    have ec : cutP (b :: l) = if b = 43 then ([], l, true) else (b :: (cutP l).1, (cutP l).2.1, (cutP l).2.2) := rfl
    rw [e, ep, ec]
    by_cases hb : b = 43
    · subst hb
      exact .inr ⟨0, by simp, by simp, by simp, by simp, by simp⟩
    · have hb' : ((43 : UInt8) == b) = false := by simpa using fun h => hb h.symm
      rw [hb', if_neg hb]
      rcases index_plus l with ⟨h1, h2, h3⟩ | ⟨k, h1, h2, h3, h4, h5⟩
      · refine .inl ⟨by rw [h1]; rfl, ?_, by rw [h3]⟩
        intro h
        rcases List.mem_cons.1 h with h | h
        · exact hb h.symm
        · exact h2 h
      · refine .inr ⟨k + 1, ?_, by simpa using h2, ?_, by rw [h4]; simp, ?_⟩
        · have : (Lib.index l [43] == -1) = false := by rw [beq_eq_false_iff_ne]; omega
          rw [this, h1]
          simp
        · intro h
          rw [List.take_succ_cons] at h
          rcases List.mem_cons.1 h with h | h
          · exact hb h.symm
          · exact h3 h
        · simpa using h5
theorem cut_plus (l : List UInt8) : Lib.cut l [43] = cutP l := by
  unfold Lib.cut
  rcases index_plus l with ⟨h1, h2, h3⟩ | ⟨k, h1, h2, h3, h4, h5⟩
  · rw [h1, h3, if_neg (by decide)]
  · rw [h1, h4, if_pos (by omega)]
    simp
theorem contains_plus {l : List UInt8} (h : (43 : UInt8) ∉ l) : Lib.contains l [43] = false := by
  unfold Lib.contains
  rcases index_plus l with ⟨h1, h2, h3⟩ | ⟨k, h1, h2, h3, h4, h5⟩
  · rw [h1]; rfl
  · exact absurd (by rw [h5]; simp) h
theorem cutP_has {l : List UInt8} (h : (cutP l).2.2 = true) : (cutP l).1 ++ 43 :: (cutP l).2.1 = l ∧ (43 : UInt8) ∉ (cutP l).1 := by
  rcases index_plus l with ⟨h1, h2, h3⟩ | ⟨k, h1, h2, h3, h4, h5⟩
  · rw [h3] at h; cases h
  · rw [h4]; exact ⟨h5.symm, h3⟩
theorem cutP_no {l : List UInt8} (h : (cutP l).2.2 = false) : cutP l = (l, [], false) ∧ (43 : UInt8) ∉ l := by
  rcases index_plus l with ⟨h1, h2, h3⟩ | ⟨k, h1, h2, h3, h4, h5⟩
  · exact ⟨h3, h2⟩
  · rw [h4] at h; cases h
/-- what Split hands back. -/
def splitL : List UInt8 → List UInt8 × List UInt8 × Bool
  | [] => ([], [], false)
  | c :: r => (c :: (cutP r).1, (cutP r).2.1, (cutP r).2.2)
end Go.Proofs.YtffngbjnbigipaaGreatDoor
