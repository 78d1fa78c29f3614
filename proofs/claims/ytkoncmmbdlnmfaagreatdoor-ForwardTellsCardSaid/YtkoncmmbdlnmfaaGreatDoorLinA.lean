/- lines.trim, lines.printable, alias.local, forward.may: what they hand back. -/
import Derived.Test.YtkoncmmbdlnmfaaGreatDoorLines
import Derived.Test.YtkoncmmbdlnmfaaGreatDoorTrim
namespace Go.Proofs.YtkoncmmbdlnmfaaGreatDoor
open Go.RowKit Go.Lib
set_option linter.unusedSimpArgs false
set_option linter.unusedVariables false
set_option linter.unnecessarySimpa false
set_option maxRecDepth 100000

theorem drop_snoc (p : UInt8 → Bool) (a : UInt8) : ∀ l : List UInt8, (l ++ [a]).dropWhile p = if l.all p = true then [a].dropWhile p else l.dropWhile p ++ [a]
  | [] => by simp
  | b :: l => by
    have ih := drop_snoc p a l
    cases hb : p b with
    | true =>
      have e1 : (b :: (l ++ [a])).dropWhile p = (l ++ [a]).dropWhile p := by rw [List.dropWhile_cons, if_pos hb]
      have e2 : (b :: l).dropWhile p = l.dropWhile p := by rw [List.dropWhile_cons, if_pos hb]
      have e3 : (b :: l).all p = l.all p := by simp [hb]
      rw [List.cons_append, e1, e2, e3, ih]
    | false =>
      have e1 : (b :: (l ++ [a])).dropWhile p = b :: (l ++ [a]) := by rw [List.dropWhile_cons, if_neg (by simp [hb])]
      have e2 : (b :: l).dropWhile p = b :: l := by rw [List.dropWhile_cons, if_neg (by simp [hb])]
      have e3 : (b :: l).all p = false := by simp [hb]
      rw [List.cons_append, e1, e2, e3]
      simp
theorem drop_nil (p : UInt8 → Bool) (l : List UInt8) (h : l.all p = true) : l.dropWhile p = [] := by
  induction l with
  | nil => rfl
  | cons b l ih =>
    simp only [List.all_cons, Bool.and_eq_true] at h
    rw [List.dropWhile_cons, if_pos h.1]
    exact ih h.2
theorem trim_two (p : UInt8 → Bool) : ∀ l : List UInt8, (l.reverse.dropWhile p).reverse.dropWhile p = ((l.dropWhile p).reverse.dropWhile p).reverse
  | [] => rfl
  | a :: l => by
    have ih := trim_two p l
    have e0 : (a :: l).reverse = l.reverse ++ [a] := List.reverse_cons
    by_cases hall : l.reverse.all p = true
    · have hl : l.all p = true := by simpa using hall
      cases ha : p a with
      | true =>
        have e1 : (a :: l).dropWhile p = [] := drop_nil p (a :: l) (by rw [List.all_cons, ha, hl]; rfl)
        have e2 : ([a] : List UInt8).dropWhile p = [] := drop_nil p [a] (by simp [ha])
        rw [e0, drop_snoc, if_pos hall, e1, e2]
        rfl
      | false =>
        have e1 : (a :: l).dropWhile p = a :: l := by rw [List.dropWhile_cons, if_neg (by simp [ha])]
        have e2 : ([a] : List UInt8).dropWhile p = [a] := by rw [List.dropWhile_cons, if_neg (by simp [ha])]
        rw [e1, e0, drop_snoc, if_pos hall, e2]
        exact e2
    · cases ha : p a with
      | true =>
        have e1 : (a :: l).dropWhile p = l.dropWhile p := by rw [List.dropWhile_cons, if_pos ha]
        rw [e1, e0, drop_snoc, if_neg hall, List.reverse_append]
        show (a :: (l.reverse.dropWhile p).reverse).dropWhile p = _
        rw [List.dropWhile_cons, if_pos ha]
        exact ih
      | false =>
        have e1 : (a :: l).dropWhile p = a :: l := by rw [List.dropWhile_cons, if_neg (by simp [ha])]
        rw [e1, e0, drop_snoc, if_neg hall, List.reverse_append]
        show (a :: (l.reverse.dropWhile p).reverse).dropWhile p = a :: (l.reverse.dropWhile p).reverse
        rw [List.dropWhile_cons, if_neg (by simp [ha])]
theorem trimS_W (l : List UInt8) : Lib.trimS l [32, 9] = trimW l := by
  have hp : (fun b => ([32, 9] : List UInt8).contains b) = blkB := by
    funext b
    have := byte_all (fun b => ([32, 9] : List UInt8).contains b == blkB b) (by decide) b
    simpa using this
  unfold Lib.trimS Lib.trimLeftS Lib.trimRightS trimW trimF
  have e : ∀ b, ([32, 9] : List UInt8).contains b = blkB b := fun b => congrFun hp b
  simp only [e]
  exact trim_two blkB l
theorem trim_any (s : ByteArray) (hs : s.size ≤ 1000000000000) (w : World) : Calls Tryz.prog 125 #[.string s] w fun e w' => e = .returned (.string ⟨(trimW s.data.toList).toArray⟩) ∧ Below w.heap.size w w' := by
  have HT := Lib.hid (Tryz.strings_Trim_set s ⟨#[32, 9]⟩ w (by omega) (by decide) (by
    intro j b h
    match j, h with
    | 0, h => simp at h; subst h; decide
    | 1, h => simp at h; subst h; decide
    | j + 2, h => simp at h))
  rw [show (⟨#[32, 9]⟩ : ByteArray).data.toList = [32, 9] from rfl, trimS_W] at HT
  generalize (⟨(trimW s.data.toList).toArray⟩ : ByteArray) = R at HT ⊢
  go_enter Tryz.func125, Tryz.ntmps125
  go_wp2_with fail
  refine HT.out.mono ?_
  rintro e w1 ⟨rfl, hb⟩
  go_wp2
  go_ret
  exact ⟨rfl, hb⟩
theorem alocal_any (s : ByteArray) (hs : s.size ≤ 1000000000000) (w : World) (hA : AText w) : Calls Tryz.prog 85 #[.string s] w fun e w' => e = .returned (.bool (localB s.data.toList)) ∧ Below w.heap.size w w' := by
  have HD := Lib.hid (fun W (hA : AText W) => DotAtom_any s hs W hA)
  have HL := Lib.hid (show localB s.data.toList = (decide (s.size ≤ 64) && dotGo s.data.toList true) by unfold localB; simp)
  generalize localB s.data.toList = R at HL ⊢
  generalize dotGo s.data.toList true = D at HD HL
  by_cases h : s.size ≤ 64
  · have h1 : decide ((s.size : Int) ≤ 64) = true := by rw [decide_eq_true_eq]; omega
    have hR : R = D := by rw [HL.out]; simp [h]
    subst hR
    go_enter Tryz.func85, Tryz.ntmps85
    go_wp2_with fail
    refine (HD.out _ hA).mono ?_
    rintro e w1 ⟨rfl, hb⟩
    go_wp2
    go_ret
    exact ⟨rfl, hb⟩
  · have h1 : decide ((s.size : Int) ≤ 64) = false := by rw [decide_eq_false_iff_not]; omega
    have hR : R = false := by rw [HL.out]; simp [h]
    subst hR
    go_enter Tryz.func85, Tryz.ntmps85
    go_wp2
    go_ret
    exact ⟨rfl, Below.refl _ _⟩
end Go.Proofs.YtkoncmmbdlnmfaaGreatDoor
