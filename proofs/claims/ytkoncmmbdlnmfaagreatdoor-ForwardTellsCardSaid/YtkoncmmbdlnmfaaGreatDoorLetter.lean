/- What ref04.Letter hands back for every byte. -/
import Derived.Test.YtkoncmmbdlnmfaaGreatDoorBytes
import Derived.Deep.DeepCutAuto
import Derived.Deep.LoopGhost
import Derived.Deep.QuietTactic
namespace Go.Proofs.YtkoncmmbdlnmfaaGreatDoor
open Go.RowKit Go.Lib
set_option linter.unusedSimpArgs false
set_option linter.unusedVariables false
set_option linter.unnecessarySimpa false
set_option maxRecDepth 100000

def LetRel (c : Nat) (w : World) (g : Nat) (v4 : Value) (W : World) : Prop := ∃ j : Nat, j ≤ 19 ∧ g = 19 - j ∧ v4 = .int .i64 (j : Int) ∧ W = w ∧ ∀ i, i < j → signsL.getD i 0 ≠ c
theorem signs_none (c : Nat) (h : ∀ i, i < 19 → signsL.getD i 0 ≠ c) : signsL.contains c = false := by
  rw [Bool.eq_false_iff]
  intro hc
  have hm : c ∈ signsL := by simpa using hc
  obtain ⟨i, hi, e⟩ := List.mem_iff_getElem.1 hm
  exact h i hi (by rw [List.getD_eq_getElem?_getD, List.getElem?_eq_getElem hi]; exact e)
set_option maxHeartbeats 4000000 in
theorem Letter_any (c : Nat) (w : World) : Calls Tryz.prog 191 #[.int .u8 (c : Int)] w fun e w' => e = .returned (.bool (atomB c)) ∧ w' = w := by
  have hL : letterB c = ((decide (97 ≤ c) && decide (c ≤ 122)) || (decide (65 ≤ c) && decide (c ≤ 90)) || (decide (48 ≤ c) && decide (c ≤ 57))) := rfl
  have hA : atomB c = (letterB c || signsL.contains c) := rfl
  generalize letterB c = lb at hL hA
  generalize atomB c = ab at hA ⊢
  have HL := Lib.hid hL
  have HA := Lib.hid hA
  clear hL hA
  go_enter Tryz.func191, Tryz.ntmps191
  go_upto_region 1 with (fail)
  go_cut [26] (fun v wc => v = .bool lb ∧ wc = w)
  case first =>
    by_cases h1 : 97 ≤ c
    · by_cases h2 : c ≤ 122
      · go_wp2_with fail
        go_meet
        case rel => exact ⟨by rw [HL.out]; simp [h1, h2], rfl⟩
      · go_wp2_with fail
        go_meet
        case rel => exact ⟨by have h3 : ¬ c ≤ 90 := by omega
                              have h4 : ¬ c ≤ 57 := by omega
                              rw [HL.out]
                              simp [h1, h2, h3, h4]
                              omega, rfl⟩
    · by_cases h3 : 65 ≤ c
      · by_cases h4 : c ≤ 90
        · go_wp2_with fail
          go_meet
          case rel => exact ⟨by rw [HL.out]; simp [h1, h3, h4], rfl⟩
        · go_wp2_with fail
          go_meet
          case rel => exact ⟨by have h5 : ¬ c ≤ 57 := by omega
                                rw [HL.out]
                                simp [h1, h3, h4, h5]
                                omega, rfl⟩
      · by_cases h5 : 48 ≤ c
        · go_wp2_with fail
          go_meet
          case rel => exact ⟨by rw [HL.out]; simp [h1, h3, h5]; omega, rfl⟩
        · go_wp2_with fail
          go_meet
          case rel => exact ⟨by rw [HL.out]; simp [h1, h3, h5], rfl⟩
  case rest =>
    obtain ⟨rfl, rfl⟩ := hcut
    cases lb with
    | true =>
      go_wp2
      go_ret
      exact ⟨by rw [HA.out]; simp, rfl⟩
    | false =>
      go_wp2_with fail
      go_loopg [4] 19 (fun g v W => LetRel c wc g v W)
      case atStart => exact ⟨0, by omega, by omega, rfl, rfl, by omega⟩
      case round =>
        obtain ⟨j, hj, hjg, rfl, rfl, hno⟩ := hrel
        have HJ := Lib.hid hjg
        have HN := Lib.hid hno
        clear hjg hno
        obtain rfl | rfl | rfl | rfl | rfl | rfl | rfl | rfl | rfl | rfl | rfl | rfl | rfl | rfl | rfl | rfl | rfl | rfl | rfl | rfl : j = 0 ∨ j = 1 ∨ j = 2 ∨ j = 3 ∨ j = 4 ∨ j = 5 ∨ j = 6 ∨ j = 7 ∨ j = 8 ∨ j = 9 ∨ j = 10 ∨ j = 11 ∨ j = 12 ∨ j = 13 ∨ j = 14 ∨ j = 15 ∨ j = 16 ∨ j = 17 ∨ j = 18 ∨ j = 19 := by omega
        · by_cases hc : c = 33
          · subst hc
            have hb : ((((⟨#[33, 35, 36, 37, 38, 39, 42, 43, 45, 47, 61, 63, 94, 95, 96, 123, 124, 125, 126]⟩ : ByteArray)[0]'(by decide)).toNat : Int) == ((33 : Nat) : Int)) = true := by decide
            go_wp2
            go_ret
            exact ⟨by rw [HA.out]; rfl, rfl⟩
          · have hb : ((((⟨#[33, 35, 36, 37, 38, 39, 42, 43, 45, 47, 61, 63, 94, 95, 96, 123, 124, 125, 126]⟩ : ByteArray)[0]'(by decide)).toNat : Int) == (c : Int)) = false := by
              have e : ((⟨#[33, 35, 36, 37, 38, 39, 42, 43, 45, 47, 61, 63, 94, 95, 96, 123, 124, 125, 126]⟩ : ByteArray)[0]'(by decide)).toNat = 33 := by decide
              rw [e, beq_eq_false_iff_ne]
              omega
            go_wp2_with fail
            go_roundg 18
            case rel => exact ⟨1, by omega, by omega, rfl, rfl, fun i hi => by
              by_cases hij : i = 0
              · subst hij; exact fun e => hc e.symm
              · exact HN.out i (by omega)⟩
            case measure => have := HJ.out; omega
        · by_cases hc : c = 35
          · subst hc
            have hb : ((((⟨#[33, 35, 36, 37, 38, 39, 42, 43, 45, 47, 61, 63, 94, 95, 96, 123, 124, 125, 126]⟩ : ByteArray)[1]'(by decide)).toNat : Int) == ((35 : Nat) : Int)) = true := by decide
            go_wp2
            go_ret
            exact ⟨by rw [HA.out]; rfl, rfl⟩
          · have hb : ((((⟨#[33, 35, 36, 37, 38, 39, 42, 43, 45, 47, 61, 63, 94, 95, 96, 123, 124, 125, 126]⟩ : ByteArray)[1]'(by decide)).toNat : Int) == (c : Int)) = false := by
              have e : ((⟨#[33, 35, 36, 37, 38, 39, 42, 43, 45, 47, 61, 63, 94, 95, 96, 123, 124, 125, 126]⟩ : ByteArray)[1]'(by decide)).toNat = 35 := by decide
              rw [e, beq_eq_false_iff_ne]
              omega
            go_wp2_with fail
            go_roundg 17
            case rel => exact ⟨2, by omega, by omega, rfl, rfl, fun i hi => by
              by_cases hij : i = 1
              · subst hij; exact fun e => hc e.symm
              · exact HN.out i (by omega)⟩
            case measure => have := HJ.out; omega
        · by_cases hc : c = 36
          · subst hc
            have hb : ((((⟨#[33, 35, 36, 37, 38, 39, 42, 43, 45, 47, 61, 63, 94, 95, 96, 123, 124, 125, 126]⟩ : ByteArray)[2]'(by decide)).toNat : Int) == ((36 : Nat) : Int)) = true := by decide
            go_wp2
            go_ret
            exact ⟨by rw [HA.out]; rfl, rfl⟩
          · have hb : ((((⟨#[33, 35, 36, 37, 38, 39, 42, 43, 45, 47, 61, 63, 94, 95, 96, 123, 124, 125, 126]⟩ : ByteArray)[2]'(by decide)).toNat : Int) == (c : Int)) = false := by
              have e : ((⟨#[33, 35, 36, 37, 38, 39, 42, 43, 45, 47, 61, 63, 94, 95, 96, 123, 124, 125, 126]⟩ : ByteArray)[2]'(by decide)).toNat = 36 := by decide
              rw [e, beq_eq_false_iff_ne]
              omega
            go_wp2_with fail
            go_roundg 16
            case rel => exact ⟨3, by omega, by omega, rfl, rfl, fun i hi => by
              by_cases hij : i = 2
              · subst hij; exact fun e => hc e.symm
              · exact HN.out i (by omega)⟩
            case measure => have := HJ.out; omega
        · by_cases hc : c = 37
          · subst hc
            have hb : ((((⟨#[33, 35, 36, 37, 38, 39, 42, 43, 45, 47, 61, 63, 94, 95, 96, 123, 124, 125, 126]⟩ : ByteArray)[3]'(by decide)).toNat : Int) == ((37 : Nat) : Int)) = true := by decide
            go_wp2
            go_ret
            exact ⟨by rw [HA.out]; rfl, rfl⟩
          · have hb : ((((⟨#[33, 35, 36, 37, 38, 39, 42, 43, 45, 47, 61, 63, 94, 95, 96, 123, 124, 125, 126]⟩ : ByteArray)[3]'(by decide)).toNat : Int) == (c : Int)) = false := by
              have e : ((⟨#[33, 35, 36, 37, 38, 39, 42, 43, 45, 47, 61, 63, 94, 95, 96, 123, 124, 125, 126]⟩ : ByteArray)[3]'(by decide)).toNat = 37 := by decide
              rw [e, beq_eq_false_iff_ne]
              omega
            go_wp2_with fail
            go_roundg 15
            case rel => exact ⟨4, by omega, by omega, rfl, rfl, fun i hi => by
              by_cases hij : i = 3
              · subst hij; exact fun e => hc e.symm
              · exact HN.out i (by omega)⟩
            case measure => have := HJ.out; omega
        · by_cases hc : c = 38
          · subst hc
            have hb : ((((⟨#[33, 35, 36, 37, 38, 39, 42, 43, 45, 47, 61, 63, 94, 95, 96, 123, 124, 125, 126]⟩ : ByteArray)[4]'(by decide)).toNat : Int) == ((38 : Nat) : Int)) = true := by decide
            go_wp2
            go_ret
            exact ⟨by rw [HA.out]; rfl, rfl⟩
          · have hb : ((((⟨#[33, 35, 36, 37, 38, 39, 42, 43, 45, 47, 61, 63, 94, 95, 96, 123, 124, 125, 126]⟩ : ByteArray)[4]'(by decide)).toNat : Int) == (c : Int)) = false := by
              have e : ((⟨#[33, 35, 36, 37, 38, 39, 42, 43, 45, 47, 61, 63, 94, 95, 96, 123, 124, 125, 126]⟩ : ByteArray)[4]'(by decide)).toNat = 38 := by decide
              rw [e, beq_eq_false_iff_ne]
              omega
            go_wp2_with fail
            go_roundg 14
            case rel => exact ⟨5, by omega, by omega, rfl, rfl, fun i hi => by
              by_cases hij : i = 4
              · subst hij; exact fun e => hc e.symm
              · exact HN.out i (by omega)⟩
            case measure => have := HJ.out; omega
        · by_cases hc : c = 39
          · subst hc
            have hb : ((((⟨#[33, 35, 36, 37, 38, 39, 42, 43, 45, 47, 61, 63, 94, 95, 96, 123, 124, 125, 126]⟩ : ByteArray)[5]'(by decide)).toNat : Int) == ((39 : Nat) : Int)) = true := by decide
            go_wp2
            go_ret
            exact ⟨by rw [HA.out]; rfl, rfl⟩
          · have hb : ((((⟨#[33, 35, 36, 37, 38, 39, 42, 43, 45, 47, 61, 63, 94, 95, 96, 123, 124, 125, 126]⟩ : ByteArray)[5]'(by decide)).toNat : Int) == (c : Int)) = false := by
              have e : ((⟨#[33, 35, 36, 37, 38, 39, 42, 43, 45, 47, 61, 63, 94, 95, 96, 123, 124, 125, 126]⟩ : ByteArray)[5]'(by decide)).toNat = 39 := by decide
              rw [e, beq_eq_false_iff_ne]
              omega
            go_wp2_with fail
            go_roundg 13
            case rel => exact ⟨6, by omega, by omega, rfl, rfl, fun i hi => by
              by_cases hij : i = 5
              · subst hij; exact fun e => hc e.symm
              · exact HN.out i (by omega)⟩
            case measure => have := HJ.out; omega
        · by_cases hc : c = 42
          · subst hc
            have hb : ((((⟨#[33, 35, 36, 37, 38, 39, 42, 43, 45, 47, 61, 63, 94, 95, 96, 123, 124, 125, 126]⟩ : ByteArray)[6]'(by decide)).toNat : Int) == ((42 : Nat) : Int)) = true := by decide
            go_wp2
            go_ret
            exact ⟨by rw [HA.out]; rfl, rfl⟩
          · have hb : ((((⟨#[33, 35, 36, 37, 38, 39, 42, 43, 45, 47, 61, 63, 94, 95, 96, 123, 124, 125, 126]⟩ : ByteArray)[6]'(by decide)).toNat : Int) == (c : Int)) = false := by
              have e : ((⟨#[33, 35, 36, 37, 38, 39, 42, 43, 45, 47, 61, 63, 94, 95, 96, 123, 124, 125, 126]⟩ : ByteArray)[6]'(by decide)).toNat = 42 := by decide
              rw [e, beq_eq_false_iff_ne]
              omega
            go_wp2_with fail
            go_roundg 12
            case rel => exact ⟨7, by omega, by omega, rfl, rfl, fun i hi => by
              by_cases hij : i = 6
              · subst hij; exact fun e => hc e.symm
              · exact HN.out i (by omega)⟩
            case measure => have := HJ.out; omega
        · by_cases hc : c = 43
          · subst hc
            have hb : ((((⟨#[33, 35, 36, 37, 38, 39, 42, 43, 45, 47, 61, 63, 94, 95, 96, 123, 124, 125, 126]⟩ : ByteArray)[7]'(by decide)).toNat : Int) == ((43 : Nat) : Int)) = true := by decide
            go_wp2
            go_ret
            exact ⟨by rw [HA.out]; rfl, rfl⟩
          · have hb : ((((⟨#[33, 35, 36, 37, 38, 39, 42, 43, 45, 47, 61, 63, 94, 95, 96, 123, 124, 125, 126]⟩ : ByteArray)[7]'(by decide)).toNat : Int) == (c : Int)) = false := by
              have e : ((⟨#[33, 35, 36, 37, 38, 39, 42, 43, 45, 47, 61, 63, 94, 95, 96, 123, 124, 125, 126]⟩ : ByteArray)[7]'(by decide)).toNat = 43 := by decide
              rw [e, beq_eq_false_iff_ne]
              omega
            go_wp2_with fail
            go_roundg 11
            case rel => exact ⟨8, by omega, by omega, rfl, rfl, fun i hi => by
              by_cases hij : i = 7
              · subst hij; exact fun e => hc e.symm
              · exact HN.out i (by omega)⟩
            case measure => have := HJ.out; omega
        · by_cases hc : c = 45
          · subst hc
            have hb : ((((⟨#[33, 35, 36, 37, 38, 39, 42, 43, 45, 47, 61, 63, 94, 95, 96, 123, 124, 125, 126]⟩ : ByteArray)[8]'(by decide)).toNat : Int) == ((45 : Nat) : Int)) = true := by decide
            go_wp2
            go_ret
            exact ⟨by rw [HA.out]; rfl, rfl⟩
          · have hb : ((((⟨#[33, 35, 36, 37, 38, 39, 42, 43, 45, 47, 61, 63, 94, 95, 96, 123, 124, 125, 126]⟩ : ByteArray)[8]'(by decide)).toNat : Int) == (c : Int)) = false := by
              have e : ((⟨#[33, 35, 36, 37, 38, 39, 42, 43, 45, 47, 61, 63, 94, 95, 96, 123, 124, 125, 126]⟩ : ByteArray)[8]'(by decide)).toNat = 45 := by decide
              rw [e, beq_eq_false_iff_ne]
              omega
            go_wp2_with fail
            go_roundg 10
            case rel => exact ⟨9, by omega, by omega, rfl, rfl, fun i hi => by
              by_cases hij : i = 8
              · subst hij; exact fun e => hc e.symm
              · exact HN.out i (by omega)⟩
            case measure => have := HJ.out; omega
        · by_cases hc : c = 47
          · subst hc
            have hb : ((((⟨#[33, 35, 36, 37, 38, 39, 42, 43, 45, 47, 61, 63, 94, 95, 96, 123, 124, 125, 126]⟩ : ByteArray)[9]'(by decide)).toNat : Int) == ((47 : Nat) : Int)) = true := by decide
            go_wp2
            go_ret
            exact ⟨by rw [HA.out]; rfl, rfl⟩
          · have hb : ((((⟨#[33, 35, 36, 37, 38, 39, 42, 43, 45, 47, 61, 63, 94, 95, 96, 123, 124, 125, 126]⟩ : ByteArray)[9]'(by decide)).toNat : Int) == (c : Int)) = false := by
              have e : ((⟨#[33, 35, 36, 37, 38, 39, 42, 43, 45, 47, 61, 63, 94, 95, 96, 123, 124, 125, 126]⟩ : ByteArray)[9]'(by decide)).toNat = 47 := by decide
              rw [e, beq_eq_false_iff_ne]
              omega
            go_wp2_with fail
            go_roundg 9
            case rel => exact ⟨10, by omega, by omega, rfl, rfl, fun i hi => by
              by_cases hij : i = 9
              · subst hij; exact fun e => hc e.symm
              · exact HN.out i (by omega)⟩
            case measure => have := HJ.out; omega
        · by_cases hc : c = 61
          · subst hc
            have hb : ((((⟨#[33, 35, 36, 37, 38, 39, 42, 43, 45, 47, 61, 63, 94, 95, 96, 123, 124, 125, 126]⟩ : ByteArray)[10]'(by decide)).toNat : Int) == ((61 : Nat) : Int)) = true := by decide
            go_wp2
            go_ret
            exact ⟨by rw [HA.out]; rfl, rfl⟩
          · have hb : ((((⟨#[33, 35, 36, 37, 38, 39, 42, 43, 45, 47, 61, 63, 94, 95, 96, 123, 124, 125, 126]⟩ : ByteArray)[10]'(by decide)).toNat : Int) == (c : Int)) = false := by
              have e : ((⟨#[33, 35, 36, 37, 38, 39, 42, 43, 45, 47, 61, 63, 94, 95, 96, 123, 124, 125, 126]⟩ : ByteArray)[10]'(by decide)).toNat = 61 := by decide
              rw [e, beq_eq_false_iff_ne]
              omega
            go_wp2_with fail
            go_roundg 8
            case rel => exact ⟨11, by omega, by omega, rfl, rfl, fun i hi => by
              by_cases hij : i = 10
              · subst hij; exact fun e => hc e.symm
              · exact HN.out i (by omega)⟩
            case measure => have := HJ.out; omega
        · by_cases hc : c = 63
          · subst hc
            have hb : ((((⟨#[33, 35, 36, 37, 38, 39, 42, 43, 45, 47, 61, 63, 94, 95, 96, 123, 124, 125, 126]⟩ : ByteArray)[11]'(by decide)).toNat : Int) == ((63 : Nat) : Int)) = true := by decide
            go_wp2
            go_ret
            exact ⟨by rw [HA.out]; rfl, rfl⟩
          · have hb : ((((⟨#[33, 35, 36, 37, 38, 39, 42, 43, 45, 47, 61, 63, 94, 95, 96, 123, 124, 125, 126]⟩ : ByteArray)[11]'(by decide)).toNat : Int) == (c : Int)) = false := by
              have e : ((⟨#[33, 35, 36, 37, 38, 39, 42, 43, 45, 47, 61, 63, 94, 95, 96, 123, 124, 125, 126]⟩ : ByteArray)[11]'(by decide)).toNat = 63 := by decide
              rw [e, beq_eq_false_iff_ne]
              omega
            go_wp2_with fail
            go_roundg 7
            case rel => exact ⟨12, by omega, by omega, rfl, rfl, fun i hi => by
              by_cases hij : i = 11
              · subst hij; exact fun e => hc e.symm
              · exact HN.out i (by omega)⟩
            case measure => have := HJ.out; omega
        · by_cases hc : c = 94
          · subst hc
            have hb : ((((⟨#[33, 35, 36, 37, 38, 39, 42, 43, 45, 47, 61, 63, 94, 95, 96, 123, 124, 125, 126]⟩ : ByteArray)[12]'(by decide)).toNat : Int) == ((94 : Nat) : Int)) = true := by decide
            go_wp2
            go_ret
            exact ⟨by rw [HA.out]; rfl, rfl⟩
          · have hb : ((((⟨#[33, 35, 36, 37, 38, 39, 42, 43, 45, 47, 61, 63, 94, 95, 96, 123, 124, 125, 126]⟩ : ByteArray)[12]'(by decide)).toNat : Int) == (c : Int)) = false := by
              have e : ((⟨#[33, 35, 36, 37, 38, 39, 42, 43, 45, 47, 61, 63, 94, 95, 96, 123, 124, 125, 126]⟩ : ByteArray)[12]'(by decide)).toNat = 94 := by decide
              rw [e, beq_eq_false_iff_ne]
              omega
            go_wp2_with fail
            go_roundg 6
            case rel => exact ⟨13, by omega, by omega, rfl, rfl, fun i hi => by
              by_cases hij : i = 12
              · subst hij; exact fun e => hc e.symm
              · exact HN.out i (by omega)⟩
            case measure => have := HJ.out; omega
        · by_cases hc : c = 95
          · subst hc
            have hb : ((((⟨#[33, 35, 36, 37, 38, 39, 42, 43, 45, 47, 61, 63, 94, 95, 96, 123, 124, 125, 126]⟩ : ByteArray)[13]'(by decide)).toNat : Int) == ((95 : Nat) : Int)) = true := by decide
            go_wp2
            go_ret
            exact ⟨by rw [HA.out]; rfl, rfl⟩
          · have hb : ((((⟨#[33, 35, 36, 37, 38, 39, 42, 43, 45, 47, 61, 63, 94, 95, 96, 123, 124, 125, 126]⟩ : ByteArray)[13]'(by decide)).toNat : Int) == (c : Int)) = false := by
              have e : ((⟨#[33, 35, 36, 37, 38, 39, 42, 43, 45, 47, 61, 63, 94, 95, 96, 123, 124, 125, 126]⟩ : ByteArray)[13]'(by decide)).toNat = 95 := by decide
              rw [e, beq_eq_false_iff_ne]
              omega
            go_wp2_with fail
            go_roundg 5
            case rel => exact ⟨14, by omega, by omega, rfl, rfl, fun i hi => by
              by_cases hij : i = 13
              · subst hij; exact fun e => hc e.symm
              · exact HN.out i (by omega)⟩
            case measure => have := HJ.out; omega
        · by_cases hc : c = 96
          · subst hc
            have hb : ((((⟨#[33, 35, 36, 37, 38, 39, 42, 43, 45, 47, 61, 63, 94, 95, 96, 123, 124, 125, 126]⟩ : ByteArray)[14]'(by decide)).toNat : Int) == ((96 : Nat) : Int)) = true := by decide
            go_wp2
            go_ret
            exact ⟨by rw [HA.out]; rfl, rfl⟩
          · have hb : ((((⟨#[33, 35, 36, 37, 38, 39, 42, 43, 45, 47, 61, 63, 94, 95, 96, 123, 124, 125, 126]⟩ : ByteArray)[14]'(by decide)).toNat : Int) == (c : Int)) = false := by
              have e : ((⟨#[33, 35, 36, 37, 38, 39, 42, 43, 45, 47, 61, 63, 94, 95, 96, 123, 124, 125, 126]⟩ : ByteArray)[14]'(by decide)).toNat = 96 := by decide
              rw [e, beq_eq_false_iff_ne]
              omega
            go_wp2_with fail
            go_roundg 4
            case rel => exact ⟨15, by omega, by omega, rfl, rfl, fun i hi => by
              by_cases hij : i = 14
              · subst hij; exact fun e => hc e.symm
              · exact HN.out i (by omega)⟩
            case measure => have := HJ.out; omega
        · by_cases hc : c = 123
          · subst hc
            have hb : ((((⟨#[33, 35, 36, 37, 38, 39, 42, 43, 45, 47, 61, 63, 94, 95, 96, 123, 124, 125, 126]⟩ : ByteArray)[15]'(by decide)).toNat : Int) == ((123 : Nat) : Int)) = true := by decide
            go_wp2
            go_ret
            exact ⟨by rw [HA.out]; rfl, rfl⟩
          · have hb : ((((⟨#[33, 35, 36, 37, 38, 39, 42, 43, 45, 47, 61, 63, 94, 95, 96, 123, 124, 125, 126]⟩ : ByteArray)[15]'(by decide)).toNat : Int) == (c : Int)) = false := by
              have e : ((⟨#[33, 35, 36, 37, 38, 39, 42, 43, 45, 47, 61, 63, 94, 95, 96, 123, 124, 125, 126]⟩ : ByteArray)[15]'(by decide)).toNat = 123 := by decide
              rw [e, beq_eq_false_iff_ne]
              omega
            go_wp2_with fail
            go_roundg 3
            case rel => exact ⟨16, by omega, by omega, rfl, rfl, fun i hi => by
              by_cases hij : i = 15
              · subst hij; exact fun e => hc e.symm
              · exact HN.out i (by omega)⟩
            case measure => have := HJ.out; omega
        · by_cases hc : c = 124
          · subst hc
            have hb : ((((⟨#[33, 35, 36, 37, 38, 39, 42, 43, 45, 47, 61, 63, 94, 95, 96, 123, 124, 125, 126]⟩ : ByteArray)[16]'(by decide)).toNat : Int) == ((124 : Nat) : Int)) = true := by decide
            go_wp2
            go_ret
            exact ⟨by rw [HA.out]; rfl, rfl⟩
          · have hb : ((((⟨#[33, 35, 36, 37, 38, 39, 42, 43, 45, 47, 61, 63, 94, 95, 96, 123, 124, 125, 126]⟩ : ByteArray)[16]'(by decide)).toNat : Int) == (c : Int)) = false := by
              have e : ((⟨#[33, 35, 36, 37, 38, 39, 42, 43, 45, 47, 61, 63, 94, 95, 96, 123, 124, 125, 126]⟩ : ByteArray)[16]'(by decide)).toNat = 124 := by decide
              rw [e, beq_eq_false_iff_ne]
              omega
            go_wp2_with fail
            go_roundg 2
            case rel => exact ⟨17, by omega, by omega, rfl, rfl, fun i hi => by
              by_cases hij : i = 16
              · subst hij; exact fun e => hc e.symm
              · exact HN.out i (by omega)⟩
            case measure => have := HJ.out; omega
        · by_cases hc : c = 125
          · subst hc
            have hb : ((((⟨#[33, 35, 36, 37, 38, 39, 42, 43, 45, 47, 61, 63, 94, 95, 96, 123, 124, 125, 126]⟩ : ByteArray)[17]'(by decide)).toNat : Int) == ((125 : Nat) : Int)) = true := by decide
            go_wp2
            go_ret
            exact ⟨by rw [HA.out]; rfl, rfl⟩
          · have hb : ((((⟨#[33, 35, 36, 37, 38, 39, 42, 43, 45, 47, 61, 63, 94, 95, 96, 123, 124, 125, 126]⟩ : ByteArray)[17]'(by decide)).toNat : Int) == (c : Int)) = false := by
              have e : ((⟨#[33, 35, 36, 37, 38, 39, 42, 43, 45, 47, 61, 63, 94, 95, 96, 123, 124, 125, 126]⟩ : ByteArray)[17]'(by decide)).toNat = 125 := by decide
              rw [e, beq_eq_false_iff_ne]
              omega
            go_wp2_with fail
            go_roundg 1
            case rel => exact ⟨18, by omega, by omega, rfl, rfl, fun i hi => by
              by_cases hij : i = 17
              · subst hij; exact fun e => hc e.symm
              · exact HN.out i (by omega)⟩
            case measure => have := HJ.out; omega
        · by_cases hc : c = 126
          · subst hc
            have hb : ((((⟨#[33, 35, 36, 37, 38, 39, 42, 43, 45, 47, 61, 63, 94, 95, 96, 123, 124, 125, 126]⟩ : ByteArray)[18]'(by decide)).toNat : Int) == ((126 : Nat) : Int)) = true := by decide
            go_wp2
            go_ret
            exact ⟨by rw [HA.out]; rfl, rfl⟩
          · have hb : ((((⟨#[33, 35, 36, 37, 38, 39, 42, 43, 45, 47, 61, 63, 94, 95, 96, 123, 124, 125, 126]⟩ : ByteArray)[18]'(by decide)).toNat : Int) == (c : Int)) = false := by
              have e : ((⟨#[33, 35, 36, 37, 38, 39, 42, 43, 45, 47, 61, 63, 94, 95, 96, 123, 124, 125, 126]⟩ : ByteArray)[18]'(by decide)).toNat = 126 := by decide
              rw [e, beq_eq_false_iff_ne]
              omega
            go_wp2_with fail
            go_roundg 0
            case rel => exact ⟨19, by omega, by omega, rfl, rfl, fun i hi => by
              by_cases hij : i = 18
              · subst hij; exact fun e => hc e.symm
              · exact HN.out i (by omega)⟩
            case measure => have := HJ.out; omega
        · go_wp2
          go_ret
          exact ⟨by rw [HA.out, signs_none c HN.out]; rfl, rfl⟩
end Go.Proofs.YtkoncmmbdlnmfaaGreatDoor
