/- Domains below domains, as the law AddrSplits asks. -/
import Derived.Test.YtffngbjnbigipaaGreatDoorMadeP
import Derived.Test.YtffngbjnbigipaaGreatDoorKnownA
import Derived.Lib.Case
namespace Go.Proofs.YtffngbjnbigipaaGreatDoor
open Go.RowKit Go.Lib
set_option linter.unusedSimpArgs false
set_option linter.unusedVariables false
set_option linter.unnecessarySimpa false
set_option maxRecDepth 100000

theorem low_upper (b : UInt8) (h : asc b) : lowB (Lib.upperB b) = lowB b := by
  have : ∀ n < 128, lowB (Lib.upperB (UInt8.ofNat n)) = lowB (UInt8.ofNat n) := by decide
  have h2 := this b.toNat h
  rwa [UInt8.ofNat_toNat] at h2
theorem lower_low (b : UInt8) (h : asc b) : Lib.lowerB b = lowB b := by
  have : ∀ n < 128, Lib.lowerB (UInt8.ofNat n) = lowB (UInt8.ofNat n) := by decide
  have h2 := this b.toNat h
  rwa [UInt8.ofNat_toNat] at h2
theorem low_upperL {a : List UInt8} (h : ∀ b ∈ a, asc b) : lowL (Lib.toUpperA a) = lowL a := by
  unfold lowL Lib.toUpperA
  rw [List.map_map]
  exact List.map_congr_left fun b hb => low_upper b (h b hb)
theorem lower_lowL {a : List UInt8} (h : ∀ b ∈ a, asc b) : Lib.toLowerA a = lowL a := by
  unfold lowL Lib.toLowerA
  exact List.map_congr_left fun b hb => lower_low b (h b hb)
theorem suf_app (p s : List UInt8) : Lib.hasSuffix (p ++ s) s = true := by
  unfold Lib.hasSuffix
  rw [List.isSuffixOf_iff_suffix]
  exact List.suffix_append p s
theorem low_app (p s : List UInt8) : lowL (p ++ s) = lowL p ++ lowL s := by unfold lowL; rw [List.map_append]
theorem bel_self (a : List UInt8) : belL a a = false := by
  unfold belL
  rw [decide_eq_false (by omega), Bool.and_false]
theorem bel_up {a : List UInt8} (h : ∀ b ∈ a, asc b) : belL ([120, 46] ++ a) (Lib.toUpperA a) = true := by
  unfold belL
  rw [low_app, low_upperL h, show lowL [120, 46] = [120] ++ [46] by decide, List.append_assoc, show [46] ++ lowL a = 46 :: lowL a from rfl, suf_app]
  simp [Lib.toUpperA]
theorem bel_two (a : List UInt8) : belL ([88, 46, 121, 46] ++ a) a = true := by
  unfold belL
  rw [low_app, show lowL [88, 46, 121, 46] = [120, 46, 121] ++ [46] by decide, List.append_assoc, show [46] ++ lowL a = 46 :: lowL a from rfl, suf_app]
  simp
theorem bel_over (a : List UInt8) : belL a ([120, 46] ++ a) = false := by
  unfold belL
  rw [decide_eq_false (by simp only [List.length_append, List.length_cons, List.length_nil]; omega), Bool.and_false]
theorem bel_no (a : List UInt8) : belL ([120] ++ a) a = false := by
  unfold belL
  rw [decide_eq_false (by simp only [List.length_append, List.length_cons, List.length_nil]; omega), Bool.and_false]
theorem bel_suf {a b : List UInt8} (ha : ∀ x ∈ a, asc x) (hb : ∀ x ∈ b, asc x) (h0 : ∃ r, a = 100 :: r) : belL a b = Lib.hasSuffix (Lib.toLowerA a) ([46] ++ Lib.toLowerA b) := by
  rw [lower_lowL ha, lower_lowL hb, show [46] ++ lowL b = 46 :: lowL b from rfl]
  unfold belL
  cases hX : Lib.hasSuffix (lowL a) (46 :: lowL b) with
  | false => rfl
  | true =>
    rw [Bool.true_and, decide_eq_true]
    unfold Lib.hasSuffix at hX
    rw [List.isSuffixOf_iff_suffix] at hX
    have hl := hX.length_le
    have h1 : (lowL a).length = a.length := by simp [lowL]
    have h2 : (lowL b).length = b.length := by simp [lowL]
    simp only [List.length_cons, h1, h2] at hl
    rcases Nat.lt_or_ge (b.length + 1) a.length with h | h
    · exact h
    · exfalso
      have he := hX.eq_of_length (by simp only [List.length_cons, h1, h2]; omega)
      obtain ⟨r, rfl⟩ := h0
      have : lowL (100 :: r) = 100 :: lowL r := by unfold lowL; rw [List.map_cons]; rfl
      rw [this] at he
      injection he with h3
      cases h3
end Go.Proofs.YtffngbjnbigipaaGreatDoor
