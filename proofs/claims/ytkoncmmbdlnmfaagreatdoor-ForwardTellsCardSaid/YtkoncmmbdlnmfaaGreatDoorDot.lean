/- What ref04.DotAtom hands back for every text of at most 2^40 bytes. -/
import Derived.Test.YtkoncmmbdlnmfaaGreatDoorLetter
namespace Go.Proofs.YtkoncmmbdlnmfaaGreatDoor
open Go.RowKit Go.Lib
set_option linter.unusedSimpArgs false
set_option linter.unusedVariables false
set_option linter.unnecessarySimpa false
set_option maxRecDepth 100000

def dotGo : List UInt8 → Bool → Bool
  | [], p => !p
  | c :: r, p => if c.toNat = 46 then (if p = true then false else dotGo r true) else (if atomB c.toNat = true then dotGo r false else false)
def DotRel (s : ByteArray) (w : World) (b : Bool) (g : Nat) (v3 v4 : Value) (W : World) : Prop :=
  ∃ (i : Nat) (p : Bool), i ≤ s.size ∧ g = s.size - i ∧ v3 = .bool p ∧ v4 = .int .i64 (i : Int) ∧ W = w ∧ dotGo (s.data.toList.drop i) p = b
theorem drop_cons (s : ByteArray) (i : Nat) (h : i < s.size) : s.data.toList.drop i = s[i] :: s.data.toList.drop (i + 1) := by
  have h2 : i < s.data.toList.length := by simpa using h
  rw [List.drop_eq_getElem_cons h2]
  rfl
set_option maxHeartbeats 4000000 in
theorem DotAtom_ref (s : ByteArray) (hs : s.size ≤ 1099511627776) (w : World) : Calls Tryz.prog 148 #[.string s] w fun e w' => e = .returned (.bool (dotGo s.data.toList true)) ∧ w' = w := by
  generalize hb : dotGo s.data.toList true = b
  have HB := Lib.hid hb
  clear hb
  go_enter Tryz.func148, Tryz.ntmps148
  go_wp2_with fail
  go_loopg [3, 4] s.size (fun g v3 v4 W => DotRel s w b g v3 v4 W)
  case atStart => exact ⟨0, true, by omega, by omega, rfl, rfl, rfl, by simpa using HB.out⟩
  case round =>
    obtain ⟨i, p, hi, hig, rfl, rfl, rfl, hd⟩ := hrel
    have HJ := Lib.hid hig
    clear hig
    by_cases hlt : i < s.size
    · have hlt0 : (i : Int) < (s.size : Int) := by omega
      have hnn : (0 : Int) ≤ (i : Int) := by omega
      rw [drop_cons s i hlt] at hd
      unfold dotGo at hd
      have HD := Lib.hid hd
      clear hd
      have hL := Letter_any (s[i].toNat) wr
      by_cases h46 : s[i].toNat = 46
      · have hq : ((s[i].toNat : Int) == 46) = true := by rw [h46]; rfl
        have hd := HD.out
        rw [if_pos h46] at hd
        cases p with
        | true =>
          go_wp2
          go_ret
          exact ⟨by rw [← hd]; simp, rfl⟩
        | false =>
          have HD2 := Lib.hid hd
          clear hd
          go_wp2_with fail
          go_roundg (s.size - (i + 1))
          case rel => exact ⟨i + 1, true, by omega, by omega, rfl, by simp, rfl, by have := HD2.out; simpa using this⟩
          case measure => have := HJ.out; omega
      · have hq : ((s[i].toNat : Int) == 46) = false := by
          rw [beq_eq_false_iff_ne]; omega
        have hd := HD.out
        rw [if_neg h46] at hd
        generalize atomB s[i].toNat = A at hd hL
        have HD2 := Lib.hid hd
        clear hd
        go_wp2_with fail
        refine hL.mono ?_
        rintro e w2 ⟨rfl, rfl⟩
        cases A with
        | true =>
          go_wp2_with fail
          go_roundg (s.size - (i + 1))
          case rel => exact ⟨i + 1, false, by omega, by omega, rfl, by simp, rfl, by have := HD2.out; simpa using this⟩
          case measure => have := HJ.out; omega
        | false =>
          go_wp2
          go_ret
          exact ⟨by have := HD2.out; simp at this; rw [← this]; simp, rfl⟩
    · have hge : ¬ (i : Int) < (s.size : Int) := by omega
      have hnil : s.data.toList.drop i = [] := List.drop_eq_nil_of_le (by simp; omega)
      rw [hnil] at hd
      have HD := Lib.hid hd
      clear hd
      go_wp2
      go_ret
      exact ⟨by rw [← HD.out]; simp [dotGo], rfl⟩
end Go.Proofs.YtkoncmmbdlnmfaaGreatDoor
