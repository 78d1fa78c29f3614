/- addr.Split and the document's Split, for texts of at most 10^9 bytes, where the package-level variables read as their texts lay them. -/
import Derived.Test.YtffngbjnbigipaaDoorParse
namespace Go.Proofs.YtffngbjnbigipaaDoor
open Go.RowKit Go.Lib
set_option linter.unusedSimpArgs false
set_option linter.unusedVariables false
set_option linter.unnecessarySimpa false
set_option maxRecDepth 100000

/-! subaddresses -/
def subL (l : List UInt8) : List UInt8 × List UInt8 × Bool := match l with
  | [] => ([], [], false)
  | x :: xs => (x :: (Lib.cut xs [43]).1, (Lib.cut xs [43]).2.1, (Lib.cut xs [43]).2.2)
def subV (R : List UInt8 × List UInt8 × Bool) : Value := .tuple #[.string ⟨R.1.toArray⟩, .string ⟨R.2.1.toArray⟩, .bool R.2.2]
theorem cut_miss (xs : List UInt8) (h : Lib.indexByte xs 43 = -1) : Lib.cut xs [43] = (xs, [], false) := by
  unfold Lib.cut
  rw [Lib.index_one, h, if_neg (by decide)]
theorem cut_hit (xs : List UInt8) (i : Nat) (h : Lib.indexByte xs 43 = i) : Lib.cut xs [43] = (xs.take i, xs.drop (i + 1), true) := by
  unfold Lib.cut
  rw [Lib.index_one, h, if_pos (by omega)]
  simp
theorem cut_len (xs : List UInt8) : (Lib.cut xs [43]).1.length ≤ xs.length := by
  unfold Lib.cut
  split
  · simp only [List.length_take]; omega
  · exact Nat.le_refl _
set_option maxHeartbeats 4000000 in
theorem Sub_any (s : ByteArray) (hs : s.size ≤ 1000000000) (w : World) (hE : Env w) : Calls Tryd.prog 8 #[.string s] w fun e w' => e = .returned (subV (subL s.data.toList)) ∧ Below w.heap.size w w' := by
  by_cases hne : s = ⟨#[]⟩
  · subst hne
    go_enter Tryd.func8, Tryd.ntmps8
    go_wp2
    go_ret3
    exact ⟨rfl, Below.refl _ _⟩
  · have hnb := text_some hne
    have hie := text_isE hne
    have hpos := text_len hne
    have hl := drop_cons s 0 hpos
    rw [List.drop_zero] at hl
    obtain ⟨m, hm⟩ := hE.m
    have e1 : s.extract 1 s.size = ⟨(s.data.toList.drop 1).toArray⟩ := ext_drop s 1
    have e0 : s.extract 0 1 = ⟨[s[0]].toArray⟩ := ext_one s 0 hpos
    have hC := Tryd.strings_Cut (s.extract 1 s.size) ⟨#[43]⟩ m w (by simp; omega) hm
    have e2 : (s.extract 1 s.size).data.toList = s.data.toList.drop 1 := by rw [e1]
    rw [e2] at hC
    have hd1 : (s.data.toList.drop 1).length ≤ 1000000000 := by rw [List.length_drop, list_len]; omega
    have hR : subL s.data.toList = (s[0] :: (Lib.cut (s.data.toList.drop 1) [43]).1, (Lib.cut (s.data.toList.drop 1) [43]).2.1, (Lib.cut (s.data.toList.drop 1) [43]).2.2) := by rw [hl]; rfl
    rw [hR]
    have hcl := cut_len (s.data.toList.drop 1)
    have e4 : (⟨#[43]⟩ : ByteArray).data.toList = [43] := rfl
    rw [e4] at hC
    generalize Lib.cut (s.data.toList.drop 1) [43] = C at hC hcl
    obtain ⟨a, b, c⟩ := C
    simp only at hC hcl
    have hal : ¬ 9223372036854775807 < 1 + a.length := by omega
    have h1 : (1 : Int) ≤ (s.size : Int) := by omega
    have h0 : (0 : Int) ≤ (s.size : Int) := by omega
    clear hl hR e1 e2 hne e4 hd1 hcl
    go_enter Tryd.func8, Tryd.ntmps8
    go_wp2_with fail
    refine hC.mono ?_
    rintro e w2 ⟨rfl, n, hw2⟩
    rw [hw2]
    clear hw2 w2 hC
    go_wp2
    go_ret3
    exact ⟨by have := cat_bytes [s[0]] a; simp only [List.cons_append, List.nil_append] at this; simp [subV, ← this], drewN_below w n⟩

def SubRel (s : ByteArray) (w : World) (g : Nat) (v5 : Value) (W : World) : Prop :=
  ∃ i : Nat, v5 = .int .i64 (i : Int) ∧ 1 ≤ i ∧ i ≤ max 1 s.size ∧ g = s.size + 1 - i ∧ W = w ∧ ∀ j, j < i - 1 → (s.data.toList.drop 1)[j]? ≠ some 43
theorem first_hit (l : List UInt8) (c : UInt8) (i : Nat) (h : l[i]? = some c) (hn : ∀ k, k < i → l[k]? ≠ some c) : Lib.indexByte l c = i := by
  rcases Lib.indexB_cases ⟨l.toArray⟩ ⟨#[c]⟩ with h1 | ⟨j, h1, h2⟩
  · have h3 : Lib.indexByte l c = -1 := by rw [← Lib.index_one]; exact h1
    exact absurd h (Lib.indexByte_none h3 i)
  · have h3 : Lib.indexByte l c = j := by rw [← Lib.index_one]; exact h1
    have h4 := Lib.indexByte_some h3
    rcases Nat.lt_trichotomy i j with hlt | rfl | hgt
    · exact absurd h (h4.2 i hlt)
    · exact h3
    · exact absurd h4.1 (hn j hgt)
theorem no_hit (l : List UInt8) (c : UInt8) (hn : ∀ k : Nat, l[k]? ≠ some c) : Lib.indexByte l c = -1 := by
  rcases Lib.indexB_cases ⟨l.toArray⟩ ⟨#[c]⟩ with h1 | ⟨j, h1, h2⟩
  · rw [← Lib.index_one]; exact h1
  · have h3 : Lib.indexByte l c = j := by rw [← Lib.index_one]; exact h1
    exact absurd (Lib.indexByte_some h3).1 (hn j)
theorem sub_hit (s : ByteArray) (i : Nat) (h1 : 1 ≤ i) (hi : i < s.size) (hc : s[i] = 43) (hn : ∀ j, j < i - 1 → (s.data.toList.drop 1)[j]? ≠ some 43) :
    subL s.data.toList = (s.data.toList.take i, s.data.toList.drop (i + 1), true) := by
  have hl := drop_cons s 0 (by omega)
  rw [List.drop_zero] at hl
  have hx := first_hit (s.data.toList.drop 1) 43 (i - 1) (by rw [drop_at s 1 i h1 hi, hc]) hn
  have hs : subL s.data.toList = (s[0] :: (Lib.cut (s.data.toList.drop 1) [43]).1, (Lib.cut (s.data.toList.drop 1) [43]).2.1, (Lib.cut (s.data.toList.drop 1) [43]).2.2) := by rw [hl]; rfl
  rw [hs, cut_hit _ _ hx]
  simp only [List.drop_drop]
  have e : s.data.toList.take i = s[0] :: (s.data.toList.drop 1).take (i - 1) := by
    obtain ⟨k, rfl⟩ : ∃ k, i = k + 1 := ⟨i - 1, by omega⟩
    conv => lhs; rw [hl]
    rw [List.take_succ_cons]
    simp
  rw [e, show 1 + (i - 1 + 1) = i + 1 by omega]
theorem sub_none (s : ByteArray) (hn : ∀ j : Nat, (s.data.toList.drop 1)[j]? ≠ some 43) : subL s.data.toList = (s.data.toList, [], false) := by
  cases hl : s.data.toList with
  | nil => rfl
  | cons x xs =>
    rw [hl] at hn
    simp only [List.drop_succ_cons, List.drop_zero] at hn
    unfold subL
    simp only
    rw [cut_miss xs (no_hit xs 43 hn)]
set_option maxHeartbeats 4000000 in
theorem Sub_ref (s : ByteArray) (hs : s.size ≤ 1000000000) (w : World) : Calls Tryd.prog 9 #[.string s] w fun e w' => e = .returned (subV (subL s.data.toList)) ∧ Below w.heap.size w w' := by
  have HHIT := Lib.hid (sub_hit s)
  have HNO := Lib.hid (sub_none s)
  generalize subL s.data.toList = R at HHIT HNO
  go_enter Tryd.func9, Tryd.ntmps9
  go_wp2_with fail
  go_loopg [5] s.size (fun g v5 W => SubRel s w g v5 W)
  case atStart => exact ⟨1, rfl, by omega, by omega, by omega, rfl, by intro j hj; omega⟩
  case round =>
    obtain ⟨i, rfl, hi1, hi, hg, rfl, hn⟩ := hrel
    have HG := Lib.hid hg
    have HN := Lib.hid hn
    clear hg hn
    by_cases hlt : i < s.size
    · have hi0 : (0 : Int) ≤ (i : Int) := by omega
      have hi2 : (i : Int) < (s.size : Int) := by omega
      have hi3 : (i : Int) ≤ (s.size : Int) := by omega
      have hi4 : (i : Int) + 1 ≤ (s.size : Int) := by omega
      have hi5 : (0 : Int) ≤ (i : Int) + 1 := by omega
      have hwr : IntKind.i64.wrap ((i : Int) + 1) = (i : Int) + 1 := by rw [IntKind.wrap_i64]; omega
      by_cases hc : s[i] = 43
      · have hq : ((s[i].toNat : Int) == 43) = true := by rw [hc]; rfl
        have HR := Lib.hid (HHIT.out i hi1 hlt hc HN.out)
        clear hc
        go_wp2_with fail
        go_quiet (fail)
        go_wp2
        go_ret3
        exact ⟨by rw [HR.out]; simp [subV, ext_take, ext_drop], drewN_below wr _⟩
      · have hq : ((s[i].toNat : Int) == 43) = false := by
          rw [beq_eq_false_iff_ne]; intro e; exact hc (UInt8.toNat_inj.1 (by show s[i].toNat = 43; omega))
        have HC := Lib.hid hc
        clear hc
        go_wp2_with fail
        go_roundg (s.size + 1 - (i + 1))
        case rel =>
          refine ⟨i + 1, by go_num, by omega, by omega, rfl, rfl, ?_⟩
          intro j hj
          rcases Nat.lt_or_ge j (i - 1) with h | h
          · exact HN.out j h
          · rw [show j = i - 1 by omega, drop_at s 1 i hi1 hlt]
            simpa using HC.out
        case measure => have := HG.out; omega
    · have hge : ¬ (i : Int) < (s.size : Int) := by omega
      have HR := Lib.hid (HNO.out (fun j hj => by
        have hlen : j < (s.data.toList.drop 1).length := (List.getElem?_eq_some_iff.1 hj).1
        rw [List.length_drop, list_len] at hlen
        exact HN.out j (by omega) hj))
      go_wp2
      go_ret3
      exact ⟨by rw [HR.out]; simp [subV], Below.refl _ _⟩
end Go.Proofs.YtffngbjnbigipaaDoor
