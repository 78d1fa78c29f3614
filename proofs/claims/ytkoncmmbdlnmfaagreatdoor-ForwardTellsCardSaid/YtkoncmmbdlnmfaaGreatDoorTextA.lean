/- addr.Text of any address, for addresses of at most 10^9 bytes, where the package-level variables read as their texts lay them. -/
import Derived.Test.YtkoncmmbdlnmfaaGreatDoorQuote
namespace Go.Proofs.YtkoncmmbdlnmfaaGreatDoor
open Go.RowKit Go.Lib
set_option linter.unusedSimpArgs false
set_option linter.unusedVariables false
set_option linter.unnecessarySimpa false
set_option maxRecDepth 100000

def textL (a : List UInt8 × List UInt8) : List UInt8 := if mayL a then (if dotGo a.1 true then a.1 else quoteL a.1) ++ [64] ++ a.2 else []
theorem may_plain (a : List UInt8 × List UInt8) (h : mayL a = true) : plainL a.1 = true ∧ a.1.length ≤ 64 := by
  simp only [mayL, Bool.and_eq_true, decide_eq_true_eq] at h
  exact ⟨h.1.2, h.1.1.2⟩
set_option maxHeartbeats 8000000 in
theorem Text_any (a : List UInt8 × List UInt8) (h1 : a.1.length ≤ 1000000000) (h2 : a.2.length ≤ 1000000000) (w : World) (hE : Env w) :
    Calls Tryz.prog 42 #[addrV a] w fun e w' => e = .returned (.string ⟨(textL a).toArray⟩) ∧ Below w.heap.size w w' := by
  cases hm : mayL a with
  | false =>
    have HM := Lib.hid (fun W hE => May_any a h1 h2 W hE)
    rw [hm] at HM
    have ht : textL a = [] := by unfold textL; rw [hm]; rfl
    rw [ht]
    clear hm ht
    obtain ⟨x, y⟩ := a
    simp only [addrV] at *
    have ht1 := Two.made w (.string ⟨x.toArray⟩) (.string ⟨y.toArray⟩) 26
    have hb1 := alloc_below w (.cells #[.string ⟨x.toArray⟩, .string ⟨y.toArray⟩] 26)
    generalize hw1 : w.alloc (.cells #[.string ⟨x.toArray⟩, .string ⟨y.toArray⟩] 26) = w1 at ht1 hb1
    obtain ⟨-, c0, c1, f0, f1⟩ := ht1
    go_enter Tryz.func42, Tryz.ntmps42
    go_wp2_with fail
    refine (HM.out w1 (hE.below hb1)).mono ?_
    rintro e w2 ⟨rfl, hb2⟩
    go_wp2
    go_ret
    exact ⟨rfl, hb1.trans (hb2.mono hb1.size)⟩
  | true =>
    cases hd : dotGo a.1 true with
    | true =>
      have ht : textL a = a.1 ++ [64] ++ a.2 := by unfold textL; rw [hm, hd]; rfl
      rw [ht]
      exact Text_dot a h1 h2 hm hd w hE
    | false =>
      have ht : textL a = quoteL a.1 ++ [64] ++ a.2 := by unfold textL; rw [hm, hd]; rfl
      rw [ht]
      obtain ⟨hpl, h64⟩ := may_plain a hm
      have HM := Lib.hid (fun W hE => May_any a h1 h2 W hE)
      rw [hm] at HM
      clear hm ht
      obtain ⟨x, y⟩ := a
      simp only [addrV] at *
      have e2 : (⟨x.toArray⟩ : ByteArray).data.toList = x := rfl
      have HD := Lib.hid (fun W hE => DotAtom_any ⟨x.toArray⟩ (by show x.length ≤ _; omega) W hE)
      rw [e2, hd] at HD
      have HQ := Lib.hid (fun W => Quote_any ⟨x.toArray⟩ (by show x.length ≤ _; omega) W)
      rw [e2, hpl] at HQ
      simp only [if_true] at HQ
      have hql : (quoteL x).length ≤ 1000 := by
        have := esc_len x
        unfold quoteL
        simp only [List.length_cons, List.length_append, List.length_nil]
        omega
      generalize quoteL x = q at HQ hql ⊢
      have hadd1 := cat_bytes q [64]
      have hadd2 := cat_bytes (q ++ [64]) y
      have ht1 := Two.made w (.string ⟨x.toArray⟩) (.string ⟨y.toArray⟩) 26
      have hb1 := alloc_below w (.cells #[.string ⟨x.toArray⟩, .string ⟨y.toArray⟩] 26)
      generalize hw1 : w.alloc (.cells #[.string ⟨x.toArray⟩, .string ⟨y.toArray⟩] 26) = w1 at ht1 hb1
      have T1 := Lib.hid ht1
      obtain ⟨-, c0, c1, f0, f1⟩ := ht1
      rw [← hadd1] at hadd2
      have HAD := Lib.hid hadd2
      clear e2 hd hadd2 hadd1 hpl h64
      generalize (q ++ [64] ++ y) = Z at *
      have q1 : ¬ 9223372036854775807 < q.length + 1 := by omega
      have q2 : ¬ 9223372036854775807 < q.length + 1 + y.length := by omega
      go_enter Tryz.func42, Tryz.ntmps42
      go_wp2_with fail
      refine (HM.out w1 (hE.below hb1)).mono ?_
      rintro e w2 ⟨rfl, hb2⟩
      have hbw := hb1.trans (hb2.mono hb1.size)
      have T2 := Lib.hid (T1.out.below hb2)
      obtain ⟨-, d0, d1, g0, g1⟩ := T2.out
      go_wp2_with fail
      refine (HD.out w2 (hE.below hbw).atx).mono ?_
      rintro e w3 ⟨rfl, hb3⟩
      have hbw3 := hbw.trans (hb3.mono hbw.size)
      have T3 := Lib.hid (T2.out.below hb3)
      go_wp2_with fail
      refine (HQ.out w3).mono ?_
      rintro e w4 ⟨rfl, hb4⟩
      have hbw4 := hbw3.trans (hb4.mono hbw3.size)
      obtain ⟨-, k0, k1, m0, m1⟩ := T3.out.below hb4
      go_wp2
      go_ret
      exact ⟨by rw [← HAD.out]; simp, hbw4⟩
end Go.Proofs.YtkoncmmbdlnmfaaGreatDoor
