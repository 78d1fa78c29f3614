/- What the small functions on one byte hand back, for every byte; the packages' tables read as their texts lay them. -/
import Derived.Test.YtkoncmmbdlnmfaaGreatDoorProg
import Derived.WalkKit
import Derived.Lib.Hide
namespace Go.Proofs.YtkoncmmbdlnmfaaGreatDoor
open Go.RowKit Go.Lib
set_option linter.unusedSimpArgs false
set_option linter.unusedVariables false
set_option linter.unnecessarySimpa false
set_option maxRecDepth 100000

def plainB (c : Nat) : Bool := decide (32 ≤ c) && decide (c ≤ 126)
def letterB (c : Nat) : Bool := (decide (97 ≤ c) && decide (c ≤ 122)) || (decide (65 ≤ c) && decide (c ≤ 90)) || (decide (48 ≤ c) && decide (c ≤ 57))
theorem plain_text (c : Nat) (w : World) : Calls Tryz.prog 145 #[.int .u8 (c : Int)] w fun e w' => e = .returned (.bool (plainB c)) ∧ w' = w := by
  by_cases h1 : 32 ≤ c
  · go_enter Tryz.func145, Tryz.ntmps145
    go_wp2
    go_ret
    exact ⟨by simp [plainB, h1]; omega, rfl⟩
  · go_enter Tryz.func145, Tryz.ntmps145
    go_wp2
    go_ret
    exact ⟨by simp [plainB, h1], rfl⟩
theorem plain_ref (c : Nat) (w : World) : Calls Tryz.prog 149 #[.int .u8 (c : Int)] w fun e w' => e = .returned (.bool (plainB c)) ∧ w' = w := by
  by_cases h1 : 32 ≤ c
  · go_enter Tryz.func149, Tryz.ntmps149
    go_wp2
    go_ret
    exact ⟨by simp [plainB, h1]; omega, rfl⟩
  · go_enter Tryz.func149, Tryz.ntmps149
    go_wp2
    go_ret
    exact ⟨by simp [plainB, h1], rfl⟩
theorem letter_ref (c : Nat) (w : World) : Calls Tryz.prog 193 #[.int .u8 (c : Int)] w fun e w' => e = .returned (.bool (letterB c)) ∧ w' = w := by
  by_cases h1 : 97 ≤ c
  · by_cases h2 : c ≤ 122
    · go_enter Tryz.func193, Tryz.ntmps193
      go_wp2
      go_ret
      exact ⟨by simp [letterB, h1, h2], rfl⟩
    · go_enter Tryz.func193, Tryz.ntmps193
      go_wp2
      go_ret
      exact ⟨by have h3 : ¬ c ≤ 90 := by omega
                have h4 : ¬ c ≤ 57 := by omega
                simp [letterB, h1, h2, h3, h4]
                omega, rfl⟩
  · by_cases h3 : 65 ≤ c
    · by_cases h4 : c ≤ 90
      · go_enter Tryz.func193, Tryz.ntmps193
        go_wp2
        go_ret
        exact ⟨by simp [letterB, h1, h3, h4], rfl⟩
      · go_enter Tryz.func193, Tryz.ntmps193
        go_wp2
        go_ret
        exact ⟨by have h5 : ¬ c ≤ 57 := by omega
                  simp [letterB, h1, h3, h4, h5]
                  omega, rfl⟩
    · by_cases h5 : 48 ≤ c
      · go_enter Tryz.func193, Tryz.ntmps193
        go_wp2
        go_ret
        exact ⟨by simp [letterB, h1, h3, h5]; omega, rfl⟩
      · go_enter Tryz.func193, Tryz.ntmps193
        go_wp2
        go_ret
        exact ⟨by simp [letterB, h1, h3, h5], rfl⟩
/-- text's table of the letters of atoms. -/
structure AText (w : World) : Prop where
  a0 : w.cell? ⟨5, 0, none⟩ = some (.int .u32 0)
  a1 : w.cell? ⟨5, 1, none⟩ = some (.int .u32 2751442170)
  a2 : w.cell? ⟨5, 2, none⟩ = some (.int .u32 3355443198)
  a3 : w.cell? ⟨5, 3, none⟩ = some (.int .u32 2147483647)
def signsL : List Nat := [33, 35, 36, 37, 38, 39, 42, 43, 45, 47, 61, 63, 94, 95, 96, 123, 124, 125, 126]
def atomB (c : Nat) : Bool := letterB c || signsL.contains c
theorem atom_tab0 : ∀ c, c < 128 → c / 32 = 0 → (bits BinOp.and IntKind.u32 (0 / 2 ^ (c % 32)) 1 == 1) = atomB c := by decide +kernel
theorem atom_tab1 : ∀ c, c < 128 → c / 32 = 1 → (bits BinOp.and IntKind.u32 (2751442170 / 2 ^ (c % 32)) 1 == 1) = atomB c := by decide +kernel
theorem atom_tab2 : ∀ c, c < 128 → c / 32 = 2 → (bits BinOp.and IntKind.u32 (3355443198 / 2 ^ (c % 32)) 1 == 1) = atomB c := by decide +kernel
theorem atom_tab3 : ∀ c, c < 128 → c / 32 = 3 → (bits BinOp.and IntKind.u32 (2147483647 / 2 ^ (c % 32)) 1 == 1) = atomB c := by decide +kernel
theorem atom_high : ∀ c, c < 256 → ¬ c < 128 → atomB c = false := by decide +kernel
theorem atomic_any (c : Nat) (hc : c < 256) (w : World) (hA : AText w) : Calls Tryz.prog 176 #[.int .u8 (c : Int)] w fun e w' => e = .returned (.bool (atomB c)) ∧ w' = w := by
  have b0 := hA.a0; have b1 := hA.a1; have b2 := hA.a2; have b3 := hA.a3
  by_cases h1 : c < 128
  · obtain h | h | h | h : c / 32 = 0 ∨ c / 32 = 1 ∨ c / 32 = 2 ∨ c / 32 = 3 := by omega
    · have e1 : (c : Int) / 32 = 0 := by omega
      have hr := atom_tab0 c h1 h
      generalize atomB c = A at hr ⊢
      go_enter Tryz.func176, Tryz.ntmps176
      go_wp2
      go_ret
      exact ⟨by simpa using hr, rfl⟩
    · have e1 : (c : Int) / 32 = 1 := by omega
      have hr := atom_tab1 c h1 h
      generalize atomB c = A at hr ⊢
      go_enter Tryz.func176, Tryz.ntmps176
      go_wp2
      go_ret
      exact ⟨by simpa using hr, rfl⟩
    · have e1 : (c : Int) / 32 = 2 := by omega
      have hr := atom_tab2 c h1 h
      generalize atomB c = A at hr ⊢
      go_enter Tryz.func176, Tryz.ntmps176
      go_wp2
      go_ret
      exact ⟨by simpa using hr, rfl⟩
    · have e1 : (c : Int) / 32 = 3 := by omega
      have hr := atom_tab3 c h1 h
      generalize atomB c = A at hr ⊢
      go_enter Tryz.func176, Tryz.ntmps176
      go_wp2
      go_ret
      exact ⟨by simpa using hr, rfl⟩
  · have hr := atom_high c hc h1
    generalize atomB c = A at hr ⊢
    subst hr
    go_enter Tryz.func176, Tryz.ntmps176
    go_wp2
    go_ret
    exact ⟨by simp, rfl⟩

def signsS : ByteArray := ⟨#[33, 35, 36, 37, 38, 39, 42, 43, 45, 47, 61, 63, 94, 95, 96, 123, 124, 125, 126]⟩
theorem signs_size : signsS.size = 19 := rfl
theorem signs_get (j : Nat) (h : j < signsS.size) : (signsS[j]).toNat = signsL.getD j 0 := by
  have : ∀ j, (h : j < signsS.size) → (signsS[j]).toNat = signsL.getD j 0 := by decide
  exact this j h
end Go.Proofs.YtkoncmmbdlnmfaaGreatDoor
