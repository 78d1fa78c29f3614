/- addr.May, and addr.Text at an address whose local part is a dot-atom, for addresses of at most 10^9 bytes, where the package-level variables read as their texts lay them. -/
import Derived.Test.YtkoncmmbdlnmfaaGreatDoorNorm
namespace Go.Proofs.YtkoncmmbdlnmfaaGreatDoor
open Go.RowKit Go.Lib
set_option linter.unusedSimpArgs false
set_option linter.unusedVariables false
set_option linter.unnecessarySimpa false
set_option maxRecDepth 100000

def mayL (a : List UInt8 × List UInt8) : Bool := !a.1.isEmpty && decide (a.1.length ≤ 64) && plainL a.1 && decide (domL a.2 = 0)
set_option maxHeartbeats 8000000 in
theorem May_any (a : List UInt8 × List UInt8) (h1 : a.1.length ≤ 1000000000) (h2 : a.2.length ≤ 1000000000) (w : World) (hE : Env w) : Calls Tryz.prog 80 #[addrV a] w fun e w' => e = .returned (.bool (mayL a)) ∧ Below w.heap.size w w' := by
  obtain ⟨x, y⟩ := a
  simp only [mayL, addrV] at *
  have e1 : (⟨y.toArray⟩ : ByteArray).data.toList = y := rfl
  have e2 : (⟨x.toArray⟩ : ByteArray).data.toList = x := rfl
  have e3 : (⟨x.toArray⟩ : ByteArray).size = x.length := rfl
  have e4 := empty_text x
  have HP := Lib.hid (fun W => Plain_any ⟨x.toArray⟩ (by show x.length ≤ _; omega) W)
  have HD := Lib.hid (fun W hE => MayDomain_any ⟨y.toArray⟩ (by show y.length ≤ _; omega) W hE)
  rw [e1] at HD
  rw [e2] at HP
  generalize decide (domL y = 0) = D at HD ⊢
  generalize plainL x = P at HP ⊢
  have ht1 := Two.made w (.string ⟨x.toArray⟩) (.string ⟨y.toArray⟩) 26
  have hb1 := alloc_below w (.cells #[.string ⟨x.toArray⟩, .string ⟨y.toArray⟩] 26)
  generalize hw1 : w.alloc (.cells #[.string ⟨x.toArray⟩, .string ⟨y.toArray⟩] 26) = w1 at ht1 hb1
  generalize (⟨x.toArray⟩ : ByteArray) = X at *
  generalize (⟨y.toArray⟩ : ByteArray) = Y at *
  have T1 := Lib.hid ht1
  obtain ⟨-, c0, c1, f0, f1⟩ := ht1
  clear e1 e2
  by_cases hx : x = []
  · have hxe : X.toList = [] := by rw [e4, hx]
    have hie : X.toList.isEmpty = true := by rw [hxe]; rfl
    subst hx
    clear e4
    go_enter Tryz.func80, Tryz.ntmps80
    go_wp2
    go_ret
    exact ⟨by simp [hie], hb1⟩
  · have hxe : ¬ X.toList = [] := by rw [e4]; exact hx
    have hie : X.toList.isEmpty = false := by rw [e4]; cases x with | nil => exact absurd rfl hx | cons a b => rfl
    have hxi : x.isEmpty = false := by cases x with | nil => exact absurd rfl hx | cons a b => rfl
    rw [hxi]
    clear e4 hx hxi
    by_cases h64 : x.length ≤ 64
    · have h640 : (X.size : Int) ≤ 64 := by omega
      rw [decide_eq_true h64]
      clear h64 e3
      cases P with
      | false =>
        go_enter Tryz.func80, Tryz.ntmps80
        go_wp2_with fail
        refine (HP.out w1).mono ?_
        rintro e w2 ⟨rfl, hb2⟩
        go_wp2
        go_ret
        exact ⟨by simp [hie], hb1.trans (hb2.mono hb1.size)⟩
      | true =>
        go_enter Tryz.func80, Tryz.ntmps80
        go_wp2_with fail
        refine (HP.out w1).mono ?_
        rintro e w2 ⟨rfl, hb2⟩
        have hbw := hb1.trans (hb2.mono hb1.size)
        obtain ⟨-, d0, d1, g0, g1⟩ := T1.out.below hb2
        go_wp2_with fail
        refine (HD.out w2 (hE.below hbw)).mono ?_
        rintro e w3 ⟨rfl, hb3⟩
        go_wp2
        go_ret
        exact ⟨by simp [hie], hbw.trans (hb3.mono hbw.size)⟩
    · have h640 : ¬ (X.size : Int) ≤ 64 := by omega
      rw [decide_eq_false h64]
      clear h64 e3
      go_enter Tryz.func80, Tryz.ntmps80
      go_wp2
      go_ret
      exact ⟨by simp [hie], hb1⟩
set_option maxHeartbeats 8000000 in
theorem Text_dot (a : List UInt8 × List UInt8) (h1 : a.1.length ≤ 1000000000) (h2 : a.2.length ≤ 1000000000) (hm : mayL a = true) (hd : dotGo a.1 true = true) (w : World) (hE : Env w) :
    Calls Tryz.prog 42 #[addrV a] w fun e w' => e = .returned (.string ⟨(a.1 ++ [64] ++ a.2).toArray⟩) ∧ Below w.heap.size w w' := by
  have HM := Lib.hid (fun W hE => May_any a h1 h2 W hE)
  rw [hm] at HM
  clear hm
  obtain ⟨x, y⟩ := a
  simp only [addrV] at *
  have e2 : (⟨x.toArray⟩ : ByteArray).data.toList = x := rfl
  have HD := Lib.hid (fun W hE => DotAtom_any ⟨x.toArray⟩ (by show x.length ≤ _; omega) W hE)
  rw [e2, hd] at HD
  have hadd1 := cat_bytes x [64]
  have hadd2 := cat_bytes (x ++ [64]) y
  have hr1 : (⟨x.toArray⟩ : ByteArray).size = x.length := rfl
  have hr2 : (⟨y.toArray⟩ : ByteArray).size = y.length := rfl
  have ht1 := Two.made w (.string ⟨x.toArray⟩) (.string ⟨y.toArray⟩) 26
  have hb1 := alloc_below w (.cells #[.string ⟨x.toArray⟩, .string ⟨y.toArray⟩] 26)
  generalize hw1 : w.alloc (.cells #[.string ⟨x.toArray⟩, .string ⟨y.toArray⟩] 26) = w1 at ht1 hb1
  have T1 := Lib.hid ht1
  obtain ⟨-, c0, c1, f0, f1⟩ := ht1
  rw [← hadd1] at hadd2
  have HAD := Lib.hid hadd2
  clear e2 hd hadd2 hadd1
  generalize (x ++ [64] ++ y) = Z at *
  have q1 : ¬ 9223372036854775807 < x.length + 1 := by omega
  have q2 : ¬ 9223372036854775807 < x.length + 1 + y.length := by omega
  go_enter Tryz.func42, Tryz.ntmps42
  go_wp2_with fail
  refine (HM.out w1 (hE.below hb1)).mono ?_
  rintro e w2 ⟨rfl, hb2⟩
  have hbw := hb1.trans (hb2.mono hb1.size)
  have T2 := Lib.hid (T1.out.below hb2)
  obtain ⟨-, d0, d1, g0, g1⟩ := T2.out
  go_wp2_with fail
  refine (HD.out w2 (hE.below hbw).atx).mono ?_
  rintro e w3 ⟨rfl, hb3⟩
  have hbw3 := hbw.trans (hb3.mono hbw.size)
  obtain ⟨-, k0, k1, m0, m1⟩ := T2.out.below hb3
  go_wp2
  go_ret
  exact ⟨by rw [← HAD.out]; simp, hbw3⟩
end Go.Proofs.YtkoncmmbdlnmfaaGreatDoor
