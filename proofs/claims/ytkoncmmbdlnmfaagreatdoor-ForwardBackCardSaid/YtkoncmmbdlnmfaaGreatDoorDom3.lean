/- addr.domain and addr.MayDomain: what is wrong with a domain, for texts of at most 10^9 bytes, where the package-level variables read as their texts lay them. -/
import Derived.Test.YtkoncmmbdlnmfaaGreatDoorDom2
namespace Go.Proofs.YtkoncmmbdlnmfaaGreatDoor
open Go.RowKit Go.Lib
set_option linter.unusedSimpArgs false
set_option linter.unusedVariables false
set_option linter.unnecessarySimpa false
set_option maxRecDepth 100000

theorem pre_one (l : List UInt8) (c : UInt8) : Lib.hasPrefix l [c] = (l.head? == some c) := by
  unfold Lib.hasPrefix
  cases l with
  | nil => rfl
  | cons a l =>
    simp only [List.isPrefixOf, List.head?_cons, Bool.and_true]
    cases h : c == a with
    | true => rw [beq_iff_eq.1 h]; simp
    | false => symm; rw [beq_eq_false_iff_ne]; intro e; simp only [Option.some.injEq] at e; exact (beq_eq_false_iff_ne.1 h) e.symm
theorem suf_one (l : List UInt8) (c : UInt8) : Lib.hasSuffix l [c] = (l.getLast? == some c) := by
  unfold Lib.hasSuffix List.isSuffixOf
  rw [← List.head?_reverse]
  exact pre_one l.reverse c
theorem cut_pre (s : ByteArray) (c : UInt8) (h : s.data.toList.head? = some c) (w : World) : Calls Tryz.prog 135 #[.string s, .string ⟨#[c]⟩] w fun e w' => e = .returned (.tuple #[.string ⟨(s.data.toList.drop 1).toArray⟩, .bool true]) ∧ w' = w := by
  have hp : Lib.hasPrefix s.data.toList (⟨#[c]⟩ : ByteArray).data.toList = true := by
    show Lib.hasPrefix s.data.toList [c] = true
    rw [pre_one, h]; simp
  have ht : Lib.trimPrefix s.data.toList (⟨#[c]⟩ : ByteArray).data.toList = s.data.toList.drop 1 := by unfold Lib.trimPrefix; rw [if_pos hp]; rfl
  have := Tryz.strings_CutPrefix s ⟨#[c]⟩ w
  rw [ht, hp] at this
  exact this
theorem cut_pre_no (s : ByteArray) (c : UInt8) (h : s.data.toList.head? ≠ some c) (w : World) : Calls Tryz.prog 135 #[.string s, .string ⟨#[c]⟩] w fun e w' => e = .returned (.tuple #[.string s, .bool false]) ∧ w' = w := by
  have hp : Lib.hasPrefix s.data.toList (⟨#[c]⟩ : ByteArray).data.toList = false := by
    show Lib.hasPrefix s.data.toList [c] = false
    rw [pre_one]; simpa using h
  have ht : Lib.trimPrefix s.data.toList (⟨#[c]⟩ : ByteArray).data.toList = s.data.toList := by unfold Lib.trimPrefix; rw [if_neg (by rw [hp]; simp)]
  have := Tryz.strings_CutPrefix s ⟨#[c]⟩ w
  rw [ht, hp] at this
  exact this
theorem cut_suf (s : ByteArray) (hs : s.size ≤ 1000000000000) (c : UInt8) (h : s.data.toList.getLast? = some c) (w : World) : Calls Tryz.prog 182 #[.string s, .string ⟨#[c]⟩] w fun e w' => e = .returned (.tuple #[.string ⟨(s.data.toList.take (s.data.toList.length - 1)).toArray⟩, .bool true]) ∧ w' = w := by
  have hp : Lib.hasSuffix s.data.toList (⟨#[c]⟩ : ByteArray).data.toList = true := by
    show Lib.hasSuffix s.data.toList [c] = true
    rw [suf_one, h]; simp
  have ht : Lib.trimSuffix s.data.toList (⟨#[c]⟩ : ByteArray).data.toList = s.data.toList.take (s.data.toList.length - 1) := by unfold Lib.trimSuffix; rw [if_pos hp]; rfl
  have := Tryz.strings_CutSuffix s ⟨#[c]⟩ w (by omega)
  rw [ht, hp] at this
  exact this
theorem cut_suf_no (s : ByteArray) (hs : s.size ≤ 1000000000000) (c : UInt8) (h : s.data.toList.getLast? ≠ some c) (w : World) : Calls Tryz.prog 182 #[.string s, .string ⟨#[c]⟩] w fun e w' => e = .returned (.tuple #[.string s, .bool false]) ∧ w' = w := by
  have hp : Lib.hasSuffix s.data.toList (⟨#[c]⟩ : ByteArray).data.toList = false := by
    show Lib.hasSuffix s.data.toList [c] = false
    rw [suf_one]; simpa using h
  have ht : Lib.trimSuffix s.data.toList (⟨#[c]⟩ : ByteArray).data.toList = s.data.toList := by unfold Lib.trimSuffix; rw [if_neg (by rw [hp]; simp)]
  have := Tryz.strings_CutSuffix s ⟨#[c]⟩ w (by omega)
  rw [ht, hp] at this
  exact this
/-! what a literal is -/
theorem lit_closed (m : List UInt8) (h : m.getLast? = some 93) : litL (91 :: m) = (decide (Lib.countByte (m.take (m.length - 1)) 46 = 3) && (pieces 46 (m.take (m.length - 1))).all octL) := by
  have hne : m ≠ [] := by rintro rfl; cases h
  have hl : 1 ≤ m.length := by cases m with | nil => exact absurd rfl hne | cons a b => simp
  unfold litL
  have e1 : decide (2 ≤ (91 :: m).length) = true := by rw [decide_eq_true_eq, List.length_cons]; omega
  have e2 : ((91 :: m).head? == some (91 : UInt8)) = true := by simp
  have e3 : ((91 :: m).getLast? == some (93 : UInt8)) = true := by
    rw [List.getLast?_cons, h]; rfl
  have e4 : ((91 :: m).drop 1).take ((91 :: m).length - 2) = m.take (m.length - 1) := by
    rw [List.drop_succ_cons, List.drop_zero, List.length_cons]
    congr 1
  rw [e1, e2, e3, e4, pieces_count]
  simp only [Bool.true_and]
  have e5 : decide (List.count 46 (m.take (m.length - 1)) + 1 = 4) = decide (Lib.countByte (m.take (m.length - 1)) 46 = 3) := by
    unfold Lib.countByte
    by_cases hq : List.count 46 (m.take (m.length - 1)) = 3
    · rw [decide_eq_true (by omega), decide_eq_true (by omega)]
    · rw [decide_eq_false (by omega), decide_eq_false (by omega)]
  rw [e5]
theorem lit_open (m : List UInt8) (h : m.getLast? ≠ some 93) : litL (91 :: m) = false := by
  unfold litL
  cases hm : m with
  | nil => rfl
  | cons a b =>
    have e3 : ((91 :: a :: b).getLast? == some (93 : UInt8)) = false := by
      rw [beq_eq_false_iff_ne, List.getLast?_cons_cons, ← hm]; exact h
    rw [e3]; simp
theorem head_form (l : List UInt8) (c : UInt8) (h : l.head? = some c) : l = c :: l.drop 1 := by
  cases l with
  | nil => cases h
  | cons a b => simp at h; subst h; rfl

set_option maxHeartbeats 8000000 in
theorem domain_any (s : ByteArray) (hs : s.size ≤ 1000000000) (w : World) (hE : Env w) : Calls Tryz.prog 137 #[.string s] w fun e w' => e = .returned (.int .i64 (domL s.data.toList : Int)) ∧ Below w.heap.size w w' := by
  by_cases hp : s.data.toList.head? = some 91
  · have hC := cut_pre s 91 hp w
    have hd : domL s.data.toList = if litL s.data.toList then 0 else 5 := by unfold domL; rw [if_pos hp]
    have hform := head_form _ _ hp
    have hml : (s.data.toList.drop 1).length ≤ s.size := by rw [List.length_drop, list_len]; omega
    generalize s.data.toList.drop 1 = m at hC hform hml
    rw [hform] at hd
    rw [hform, hd]
    clear hd hp hform
    have e1 : (⟨m.toArray⟩ : ByteArray).data.toList = m := rfl
    have e2 : (⟨m.toArray⟩ : ByteArray).size = m.length := rfl
    by_cases hl : m.getLast? = some 93
    · rw [lit_closed m hl]
      have hC2 := cut_suf ⟨m.toArray⟩ (by omega) 93 (by rw [e1]; exact hl) w
      rw [e1] at hC2
      have hml2 : (m.take (m.length - 1)).length ≤ s.size := by rw [List.length_take]; omega
      generalize m.take (m.length - 1) = r at hC2 hml2
      have hC3 := Tryz.strings_Count_one ⟨r.toArray⟩ 46 w
      have hC4 := all_octets ⟨r.toArray⟩ (by show r.length ≤ _; omega) w hE
      have e3 : (⟨r.toArray⟩ : ByteArray).data.toList = r := rfl
      rw [e3] at hC3 hC4
      generalize Lib.countByte r 46 = n at hC3
      generalize (pieces 46 r).all octL = Q at hC4
      clear hl e1 e2 e3 hml hml2
      have HC4 := Lib.hid hC4
      clear hC4
      by_cases hn : n = 3
      · subst hn
        go_enter Tryz.func137, Tryz.ntmps137
        go_wp2_with fail
        refine hC.mono ?_
        rintro e w2 ⟨rfl, hw2⟩
        rw [hw2]
        clear hw2 w2 hC
        go_wp2_with fail
        refine hC2.mono ?_
        rintro e w2 ⟨rfl, hw2⟩
        rw [hw2]
        clear hw2 w2 hC2
        go_wp2_with fail
        refine hC3.mono ?_
        rintro e w2 ⟨rfl, hw2⟩
        rw [hw2]
        clear hw2 w2 hC3
        go_wp2_with fail
        refine HC4.out.mono ?_
        rintro e w3 ⟨rfl, hb3⟩
        cases Q with
        | true =>
          go_wp2
          go_ret
          exact ⟨rfl, hb3⟩
        | false =>
          go_wp2
          go_ret
          exact ⟨rfl, hb3⟩
      · have hn2 : ((n : Int) != 3) = true := by rw [bne_iff_ne]; omega
        rw [decide_eq_false hn]
        go_enter Tryz.func137, Tryz.ntmps137
        go_wp2_with fail
        refine hC.mono ?_
        rintro e w2 ⟨rfl, hw2⟩
        rw [hw2]
        clear hw2 w2 hC
        go_wp2_with fail
        refine hC2.mono ?_
        rintro e w2 ⟨rfl, hw2⟩
        rw [hw2]
        clear hw2 w2 hC2
        go_wp2_with fail
        refine hC3.mono ?_
        rintro e w2 ⟨rfl, hw2⟩
        rw [hw2]
        clear hw2 w2 hC3
        go_wp2
        go_ret
        exact ⟨rfl, Below.refl _ _⟩
    · rw [lit_open m hl]
      have hC2 := cut_suf_no ⟨m.toArray⟩ (by omega) 93 (by rw [e1]; exact hl) w
      clear hl e1 e2
      go_enter Tryz.func137, Tryz.ntmps137
      go_wp2_with fail
      refine hC.mono ?_
      rintro e w2 ⟨rfl, hw2⟩
      rw [hw2]
      clear hw2 w2 hC
      go_wp2_with fail
      refine hC2.mono ?_
      rintro e w2 ⟨rfl, hw2⟩
      rw [hw2]
      clear hw2 w2 hC2
      go_wp2
      go_ret
      exact ⟨rfl, Below.refl _ _⟩
  · have hC := cut_pre_no s 91 hp w
    have hd : domL s.data.toList = domP s.data.toList := by unfold domL; rw [if_neg hp]
    rw [hd]
    unfold domP
    rw [list_len]
    have HA := Lib.hid (all_labels s hs w hE)
    have HB := Lib.hid (fun W hb => all_short s hs W (hE.below (W := W) hb))
    have hany : (pieces 46 s.data.toList).any (fun p => decide (63 < p.length)) = !((pieces 46 s.data.toList).all fun p => !decide (63 < p.length)) := by
      rw [List.all_eq_not_any_not]; simp
    rw [hany]
    generalize (pieces 46 s.data.toList).all labelL = Q at HA
    generalize ((pieces 46 s.data.toList).all fun p => !decide (63 < p.length)) = Q2 at HB
    clear hany hd hp
    cases Q with
    | false =>
      go_enter Tryz.func137, Tryz.ntmps137
      go_wp2_with fail
      refine hC.mono ?_
      rintro e w2 ⟨rfl, hw2⟩
      rw [hw2]
      clear hw2 w2 hC
      go_wp2_with fail
      refine HA.out.mono ?_
      rintro e w3 ⟨rfl, hb3⟩
      go_wp2
      go_ret
      exact ⟨rfl, hb3⟩
    | true =>
      by_cases h255 : 255 < s.size
      · have h0 : (255 : Int) < (s.size : Int) := by omega
        rw [decide_eq_true h255]
        go_enter Tryz.func137, Tryz.ntmps137
        go_wp2_with fail
        refine hC.mono ?_
        rintro e w2 ⟨rfl, hw2⟩
        rw [hw2]
        clear hw2 w2 hC
        go_wp2_with fail
        refine HA.out.mono ?_
        rintro e w3 ⟨rfl, hb3⟩
        go_wp2
        go_ret
        exact ⟨rfl, hb3⟩
      · have h0 : ¬ (255 : Int) < (s.size : Int) := by omega
        rw [decide_eq_false h255]
        go_enter Tryz.func137, Tryz.ntmps137
        go_wp2_with fail
        refine hC.mono ?_
        rintro e w2 ⟨rfl, hw2⟩
        rw [hw2]
        clear hw2 w2 hC
        go_wp2_with fail
        refine HA.out.mono ?_
        rintro e w3 ⟨rfl, hb3⟩
        go_wp2_with fail
        refine (HB.out w3 hb3).mono ?_
        rintro e w4 ⟨rfl, hb4⟩
        have hb5 := hb3.trans (hb4.mono hb3.size)
        cases Q2 with
        | true =>
          go_wp2
          go_ret
          exact ⟨rfl, hb5⟩
        | false =>
          go_wp2
          go_ret
          exact ⟨rfl, hb5⟩
end Go.Proofs.YtkoncmmbdlnmfaaGreatDoor
