/- addr.Split and the document's Split, for texts of at most 10^9 bytes, where the package-level variables read as their texts lay them. -/
import Derived.Test.YtffngbjnbigipaaGreatDoorParse
namespace Go.Proofs.YtffngbjnbigipaaGreatDoor
open Go.RowKit Go.Lib
set_option linter.unusedSimpArgs false
set_option linter.unusedVariables false
set_option linter.unnecessarySimpa false
set_option maxRecDepth 100000

/-! subaddresses -/
def subL (l : List UInt8) : List UInt8 × List UInt8 × Bool := match l with
  | [] => ([], [], false)
  | x :: xs => (x :: (Lib.cut xs [43]).1, (Lib.cut xs [43]).2.1, (Lib.cut xs [43]).2.2)
def subV (R : List UInt8 × List UInt8 × Bool) : Value := .tuple #[.string ⟨R.1.toArray⟩, .string ⟨R.2.1.toArray⟩, .bool R.2.2]
theorem cut_miss (xs : List UInt8) (h : Lib.indexByte xs 43 = -1) : Lib.cut xs [43] = (xs, [], false) := by
  unfold Lib.cut
  rw [Lib.index_one, h, if_neg (by decide)]
theorem cut_hit (xs : List UInt8) (i : Nat) (h : Lib.indexByte xs 43 = i) : Lib.cut xs [43] = (xs.take i, xs.drop (i + 1), true) := by
  unfold Lib.cut
  rw [Lib.index_one, h, if_pos (by omega)]
  simp
theorem cut_len (xs : List UInt8) : (Lib.cut xs [43]).1.length ≤ xs.length := by
  unfold Lib.cut
  split
  · simp only [List.length_take]; omega
  · exact Nat.le_refl _
set_option maxHeartbeats 4000000 in
theorem Sub_any (s : ByteArray) (hs : s.size ≤ 1000000000) (w : World) (hE : Env w) : Calls Tryz.prog 28 #[.string s] w fun e w' => e = .returned (subV (subL s.data.toList)) ∧ Below w.heap.size w w' := by
  by_cases hne : s = ⟨#[]⟩
  · subst hne
    go_enter Tryz.func28, Tryz.ntmps28
    go_wp2
    go_ret3
    exact ⟨rfl, Below.refl _ _⟩
  · have hnb := text_some hne
    have hie := text_isE hne
    have hpos := text_len hne
    have hl := drop_cons s 0 hpos
    rw [List.drop_zero] at hl
    obtain ⟨m, hm⟩ := hE.m
    have e1 : s.extract 1 s.size = ⟨(s.data.toList.drop 1).toArray⟩ := ext_drop s 1
    have e0 : s.extract 0 1 = ⟨[s[0]].toArray⟩ := ext_one s 0 hpos
    have hC := Tryz.strings_Cut (s.extract 1 s.size) ⟨#[43]⟩ m w (by simp; omega) hm
    have e2 : (s.extract 1 s.size).data.toList = s.data.toList.drop 1 := by rw [e1]
    rw [e2] at hC
    have hd1 : (s.data.toList.drop 1).length ≤ 1000000000 := by rw [List.length_drop, list_len]; omega
    have hR : subL s.data.toList = (s[0] :: (Lib.cut (s.data.toList.drop 1) [43]).1, (Lib.cut (s.data.toList.drop 1) [43]).2.1, (Lib.cut (s.data.toList.drop 1) [43]).2.2) := by rw [hl]; rfl
    rw [hR]
    have hcl := cut_len (s.data.toList.drop 1)
    have e4 : (⟨#[43]⟩ : ByteArray).data.toList = [43] := rfl
    rw [e4] at hC
    generalize Lib.cut (s.data.toList.drop 1) [43] = C at hC hcl
    obtain ⟨a, b, c⟩ := C
    simp only at hC hcl
    have hal : ¬ 9223372036854775807 < 1 + a.length := by omega
    have h1 : (1 : Int) ≤ (s.size : Int) := by omega
    have h0 : (0 : Int) ≤ (s.size : Int) := by omega
    clear hl hR e1 e2 hne e4 hd1 hcl
    go_enter Tryz.func28, Tryz.ntmps28
    go_wp2_with fail
    refine hC.mono ?_
    rintro e w2 ⟨rfl, n, hw2⟩
    rw [hw2]
    clear hw2 w2 hC
    go_wp2
    go_ret3
    exact ⟨by have := cat_bytes [s[0]] a; simp only [List.cons_append, List.nil_append] at this; simp [subV, ← this], drewN_below w n⟩

end Go.Proofs.YtffngbjnbigipaaGreatDoor
