/- What the closed statement ListKnown asks of the list's functions at its examples. -/
import Derived.Test.YtffngbjnbigipaaGreatDoorPutX
import Derived.Test.YtffngbjnbigipaaGreatDoorRep
namespace Go.Proofs.YtffngbjnbigipaaGreatDoor
open Go.RowKit Go.Lib
set_option linter.unusedSimpArgs false
set_option linter.unusedVariables false
set_option linter.unnecessarySimpa false
set_option maxRecDepth 100000

def badsL : List (List UInt8) := [[97], [97, 32, 98], [97, 64], [64, 98], [97, 64, 98, 32, 99], [97, 64, 98, 64, 99], [97, 32, 98, 64, 99], [97, 32, 64, 98], [97, 64, 32, 98], [60, 97, 62], [60, 97, 64, 98], [97, 64, 98, 62], [60, 62], [103, 58], [103, 58, 97, 64, 98], [103, 58, 104, 58, 97, 64, 98, 59, 59], [58, 97, 64, 98, 59], [103, 58, 97, 64, 98, 59, 32, 99, 64, 100], [59], [40], [34, 97], [60, 64, 97, 32, 98, 64, 99, 62], [60, 64, 97, 58, 62], [60, 64, 45, 58, 97, 64, 98, 62], [60, 64, 97, 44, 58, 98, 64, 99, 62], [97, 64, 45], [97, 46, 46, 98, 64, 99], [46, 97, 64, 98], [97, 64, 98, 46], [97, 64, 91, 49, 46, 50, 46, 51, 93], [97, 64, 91, 49, 46, 50, 46, 51, 46, 52], [60, 97, 64, 98, 62, 60, 99, 64, 100, 62], [97, 0, 64, 98], [97, 60, 98, 60, 99, 64, 100, 62]]
theorem bads_len : badsL.length = 34 := by decide
theorem bads_find : ∀ l ∈ badsL, (findL l).1.length = 0 ∧ (findL l).2 = 5 := by decide +kernel
theorem bads_size : ∀ l ∈ badsL, l.length ≤ 100 := by decide +kernel
def manyB : ByteArray := ⟨(Lib.repeatL [97, 64, 98, 44] 64).toArray⟩
def moreB : ByteArray := manyB ++ ⟨#[97, 64, 98]⟩
def longB : ByteArray := ⟨(Lib.repeatL [120] 65).toArray⟩
def longbB : ByteArray := longB ++ ⟨#[64, 98]⟩
theorem many_find : (findL manyB.data.toList).1.length = 64 ∧ (findL manyB.data.toList).2 = 0 := by decide +kernel
theorem more_find : (findL moreB.data.toList).1.length = 0 ∧ (findL moreB.data.toList).2 = 7 := by decide +kernel
theorem long_find : (findL longbB.data.toList).1.length = 0 ∧ (findL longbB.data.toList).2 = 3 := by decide +kernel
theorem krep1 (w : World) : Calls Tryz.prog 14 #[.string ⟨#[97, 64, 98, 44]⟩, .int .i64 64] w fun e w' => e = .returned (.string manyB) ∧ Below w.heap.size w w' := Tryz.strings_Repeat ⟨#[97, 64, 98, 44]⟩ 64 w (by decide) (by decide)
theorem krep2 (w : World) : Calls Tryz.prog 14 #[.string ⟨#[120]⟩, .int .i64 65] w fun e w' => e = .returned (.string longB) ∧ Below w.heap.size w w' := Tryz.strings_Repeat ⟨#[120]⟩ 65 w (by decide) (by decide)
theorem kadd1 : ∀ w, (Op.stringOp .add manyB ⟨#[97, 64, 98]⟩).run Tryz.prog w = .ok (.string moreB) w := fun w => run_string_add_sum w _ _ (by decide +kernel)
theorem kadd2 : ∀ w, (Op.stringOp .add longB ⟨#[64, 98]⟩).run Tryz.prog w = .ok (.string longbB) w := fun w => run_string_add_sum w _ _ (by decide +kernel)
theorem put1 : putL (⟨#[97, 64, 98]⟩ : ByteArray).data.toList [] = ([], 1) := by decide +kernel
theorem put2 : putL (⟨#[97, 64, 98]⟩ : ByteArray).data.toList [([], [])] = ([], 1) := by decide +kernel
theorem put3 : putL (⟨#[97]⟩ : ByteArray).data.toList [([], [])] = ([], 5) := by decide +kernel
theorem put4 : putL moreB.data.toList [] = ([], 7) := by decide +kernel
theorem put5 : putL (⟨#[88, 32, 60, 65, 64, 66, 62, 44, 32, 112, 111, 115, 116, 77, 65, 83, 84, 69, 82, 64, 99, 32, 40, 100, 41]⟩ : ByteArray).data.toList [([65], [98]), ([112, 111, 115, 116, 109, 97, 115, 116, 101, 114], [67])] = ([88, 32, 60, 65, 64, 66, 62, 44, 32, 112, 111, 115, 116, 77, 65, 83, 84, 69, 82, 64, 99, 32, 40, 100, 41], 0) := by decide +kernel
theorem put6 : putL (⟨#[88, 32, 60, 65, 64, 66, 62, 44, 32, 101, 64, 99, 32, 40, 100, 41]⟩ : ByteArray).data.toList [([97], [98]), ([102, 32, 103], [67])] = ([88, 32, 60, 97, 64, 98, 62, 44, 32, 34, 102, 32, 103, 34, 64, 67, 32, 40, 100, 41], 0) := by decide +kernel
theorem kput (s : ByteArray) (l : List Ad) (r : List UInt8 × Nat) (h : putL s.data.toList l = r) (hs : s.size ≤ 900000) (hl : l.length ≤ 1000) (hA : ∀ a ∈ l, a.1.length ≤ 1000 ∧ a.2.length ≤ 1000) (v : Value) (w : World) (hrow : ARow w v l) (hE : Env w) :
    Calls Tryz.prog 24 #[.string s, v] w fun e w' => e = .returned (.tuple #[.string ⟨r.1.toArray⟩, .int .i64 (r.2 : Int)]) ∧ Below w.heap.size w w' := by
  have := Put_any s hs l v w hrow hl hA hE
  rw [h] at this
  exact this
theorem arow0 (w : World) : ARow w (.slice none 0 0) [] := ⟨none, 0, rfl, .inl rfl⟩
theorem arow1 (w : World) (a : Ad) : ARow (w.alloc (.cells #[.string ⟨a.1.toArray⟩, .string ⟨a.2.toArray⟩] 30)) (.slice (some ⟨w.heap.size, 0, none⟩) 1 1) [a] := by
  refine ⟨_, 1, rfl, .inr ⟨_, rfl, fun i x hx => ?_⟩⟩
  match i, hx with
  | 0, hx =>
    obtain rfl : a = x := by simpa using hx
    exact ⟨by simp, by simp⟩
  | i + 1, hx => simp at hx
theorem arow2 (w : World) (a b : Ad) : ARow (w.alloc (.cells #[.string ⟨a.1.toArray⟩, .string ⟨a.2.toArray⟩, .string ⟨b.1.toArray⟩, .string ⟨b.2.toArray⟩] 30)) (.slice (some ⟨w.heap.size, 0, none⟩) 2 2) [a, b] := by
  refine ⟨_, 2, rfl, .inr ⟨_, rfl, fun i x hx => ?_⟩⟩
  match i, hx with
  | 0, hx =>
    obtain rfl : a = x := by simpa using hx
    exact ⟨by simp, by simp⟩
  | 1, hx =>
    obtain rfl : b = x := by simpa using hx
    exact ⟨by simp, by simp⟩
  | i + 2, hx => simp at hx
end Go.Proofs.YtffngbjnbigipaaGreatDoor
