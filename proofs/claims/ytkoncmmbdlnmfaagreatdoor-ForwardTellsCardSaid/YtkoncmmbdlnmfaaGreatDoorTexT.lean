/- Target.Text: what it hands back. -/
import Derived.Test.YtkoncmmbdlnmfaaGreatDoorParT
import Derived.Test.YtkoncmmbdlnmfaaGreatDoorTextA
namespace Go.Proofs.YtkoncmmbdlnmfaaGreatDoor
open Go.RowKit Go.Lib
set_option linter.unusedSimpArgs false
set_option linter.unusedVariables false
set_option linter.unnecessarySimpa false
set_option maxRecDepth 100000

theorem text_len_le' (a : List UInt8 × List UInt8) : (textL a).length ≤ 2 * a.1.length + a.2.length + 3 := by
  unfold textL
  split
  · split
    · simp; omega
    · unfold quoteL
      have := esc_len a.1
      simp
      omega
  · simp
/-- what a target tells, as the program compares it. -/
theorem textI_none {t : TI} (h : targF (tellF t) = none) : textI t = [] := by
  unfold textI
  rw [h, if_neg (by simp)]
theorem textI_some {t : TI} {t' : Tg} (h : targF (tellF t) = some t') : textI t = if up t' = t then tellF t else [] := by
  unfold textI
  rw [h, Option.map_some]
  by_cases he : up t' = t
  · rw [if_pos he, if_pos (by rw [he])]
  · rw [if_neg he, if_neg (fun e => he (by injection e))]
set_option maxHeartbeats 8000000 in
theorem TText_any (t : TI) (h1 : t.2.1.1.length ≤ 1000000) (h2 : t.2.1.2.length ≤ 1000000) (h3 : t.2.2.length ≤ 1000000) (w : World) (hE : Env w) (hB : Begs w) :
    Calls Tryz.prog 13 #[tiV t] w fun e w' => e = .returned (.string ⟨(textI t).toArray⟩) ∧ Below w.heap.size w w' := by
  have HN := Lib.hid (textI_none (t := t))
  have HS := Lib.hid (fun t' => textI_some (t := t) (t' := t'))
  have HPT := Lib.hid (fun (s : ByteArray) (h : s.size ≤ 1000000000) W hE hB => ParT_any s h W hE hB)
  generalize hX : tellF t = X at HN HS
  generalize textI t = R at HN HS ⊢
  obtain ⟨k, ⟨a, b⟩, n⟩ := t
  simp only at h1 h2 h3
  have hXX : X = if k = 1 then textL (a, b) else if k = 6 then failL ++ 32 :: n else if 3 ≤ k ∧ k ≤ 7 then begL k.toNat ++ n else n := hX.symm
  clear hX
  have HX := Lib.hid hXX
  clear hXX
  have hb0 := alloc_below w (.cells #[.int .i64 k, .string ⟨a.toArray⟩, .string ⟨b.toArray⟩, .string ⟨n.toArray⟩] 28)
  have HF := Lib.hid (Four4.made w (.int .i64 k) (.string ⟨a.toArray⟩) (.string ⟨b.toArray⟩) (.string ⟨n.toArray⟩) 28)
  have HE := Lib.hid (hE.below hb0)
  have HB := Lib.hid (hB.below hb0)
  have HB0 := Lib.hid hb0
  show Calls Tryz.prog 13 #[.agg #[.int .i64 k, .string ⟨a.toArray⟩, .string ⟨b.toArray⟩, .string ⟨n.toArray⟩]] w _
  clear hE hB hb0
  obtain ⟨⟨-, d0, d1, d2, d3⟩, g0, g1, g2, g3⟩ := HF.out
  by_cases k1 : k = 1
  · subst k1
    have HTX := Lib.hid (fun W hE => Text_any (a, b) (by show a.length ≤ _; omega) (by show b.length ≤ _; omega) W hE)
    have htl : (textL (a, b)).length ≤ 2 * a.length + b.length + 3 := text_len_le' (a, b)
    simp only [addrV] at HTX
    have hXL : X = textL (a, b) := HX.out
    generalize textL (a, b) = Z at HTX hXL htl
    go_enter Tryz.func13, Tryz.ntmps13
    go_wp2_with fail
    refine (HTX.out _ HE.out).mono ?_
    rintro e w1 ⟨rfl, hb1⟩
    have HFW := Lib.hid (HF.out.below hb1)
    have HBW := Lib.hid (HB0.out.trans (hb1.mono HB0.out.size))
    have HEW := Lib.hid (HE.out.below hb1)
    have HBgW := Lib.hid (HB.out.below hb1)
    clear hb1 d0 d1 d2 d3 g0 g1 g2 g3
    have HXL := Lib.hid hXL
    clear hXL
    go_wp2_with fail
    refine (HPT.out _ (by show Z.length ≤ _; omega) _ HEW.out HBgW.out).mono ?_
    have hXL := HXL.out
    have hSL : (⟨Z.toArray⟩ : ByteArray).data.toList = Z := rfl
    rintro e w2 ⟨hp, hb2⟩
    rw [hSL] at hp
    obtain ⟨c, rfl, hc⟩ := hp
    have HF2 := Lib.hid (HFW.out.below hb2)
    have HB2 := Lib.hid (HBW.out.trans (hb2.mono HBW.out.size))
    clear hb2
    obtain ⟨⟨-, d0, d1, d2, d3⟩, -⟩ := HF2.out
    cases hT : targF (Z) with
    | none =>
      rw [hT] at hc
      have hR := HN.out (by rw [hXL]; exact hT)
      have HR := Lib.hid hR
      have hc0 : ((c : Int) != 0) = true := by
        rw [bne_iff_ne]
        intro e
        have : c = 0 := by omega
        rw [hc] at this
        cases this
      have HB3 := Lib.hid (HB2.out.trans ((alloc_below w2 (.cells #[.int .i64 0, .string ⟨#[]⟩, .string ⟨#[]⟩, .string ⟨#[]⟩] 28)).mono HB2.out.size))
      clear hR hT hc hXL hSL
      simp only [Option.getD_none, tgV, tg0]
      go_wp2
      go_ret
      exact ⟨by rw [HR.out]; rfl, HB2.out.trans ((alloc_below w2 _).mono HB2.out.size)⟩
    | some t' =>
      rw [hT] at hc
      have h0 : c = 0 := hc.2 rfl
      subst h0
      have hR := HS.out t' (by rw [hXL]; exact hT)
      rw [hXL] at hR
      obtain ⟨k', ⟨a', b'⟩, n'⟩ := t'
      simp only [Option.getD_some, tgV]
      have hR3 : R = if (((k' : Int), (a', b'), n') : TI) = (1, (a, b), n) then (Z) else [] := hR
      clear hR hc hT
      generalize (k' : Int) = kk at hR3 ⊢
      have hR := hR3
      clear hR3
      have HF3 := Lib.hid (Four4.made w2 (.int .i64 kk) (.string ⟨a'.toArray⟩) (.string ⟨b'.toArray⟩) (.string ⟨n'.toArray⟩) 28)
      have HF23 := Lib.hid (HF2.out.below (alloc_below w2 (.cells #[.int .i64 kk, .string ⟨a'.toArray⟩, .string ⟨b'.toArray⟩, .string ⟨n'.toArray⟩] 28)))
      have HB3 := Lib.hid (HB2.out.trans ((alloc_below w2 (.cells #[.int .i64 kk, .string ⟨a'.toArray⟩, .string ⟨b'.toArray⟩, .string ⟨n'.toArray⟩] 28)).mono HB2.out.size))
      clear d0 d1 d2 d3
      obtain ⟨⟨-, d0, d1, d2, d3⟩, -⟩ := HF3.out
      obtain ⟨⟨-, e0, e1, e2, e3⟩, -⟩ := HF23.out
      clear hXL hSL
      by_cases he : ((kk, (a', b'), n') : TI) = (1, (a, b), n)
      · have hR2 : R = (Z) := by rw [hR]; exact if_pos he
        have HR := Lib.hid hR2
        obtain ⟨q1, q2, q3, q4⟩ : kk = 1 ∧ a' = a ∧ b' = b ∧ n' = n := by
          simp only [Prod.mk.injEq] at he
          exact ⟨he.1, he.2.1.1, he.2.1.2, he.2.2⟩
        clear hR hR2 he
        subst q1 q2 q3 q4
        go_wp2
        all_goals first
          | (go_ret; exact ⟨by rw [HR.out]; rfl, HB2.out.trans ((alloc_below w2 _).mono HB2.out.size)⟩)
          | (exfalso; omega)
      · have hR2 : R = [] := by rw [hR]; exact if_neg he
        have HR := Lib.hid hR2
        have HNE := Lib.hid he
        clear hR hR2 he
        go_wp2
        all_goals first
          | (exfalso; apply HNE.out; simp_all; done)
          | (go_ret; exact ⟨by rw [HR.out]; rfl, HB2.out.trans ((alloc_below w2 _).mono HB2.out.size)⟩)
  by_cases k3 : k = 3
  · subst k3
    have hbg := HB.out.b3
    have hXL : X = [92] ++ n := HX.out
    have hSB : (⟨#[92]⟩ : ByteArray) ++ ⟨n.toArray⟩ = (⟨([92] ++ n).toArray⟩ : ByteArray) := by
      apply ByteArray.ext
      simp [inclL, failL, dropB]
    have hS0 : ((⟨#[92]⟩ : ByteArray) ++ ⟨n.toArray⟩).size ≤ 1000100 := by
      rw [hSB]
      show ([92] ++ n).length ≤ _
      simp only [List.length_append, List.length_cons, inclL, failL, dropB, List.length_nil]
      omega
    have HSB := Lib.hid hSB
    have HS0 := Lib.hid hS0
    have HXL := Lib.hid hXL
    have hn1 : (⟨n.toArray⟩ : ByteArray).size ≤ 1000000 := h3
    clear hSB hS0 hXL
    go_enter Tryz.func13, Tryz.ntmps13
    go_wp2_with fail
    refine (HPT.out _ (by have := HS0.out; omega) _ HE.out HB.out).mono ?_
    clear d0 d1 d2 d3 g0 g1 g2 g3
    have hSL : ((⟨#[92]⟩ : ByteArray) ++ ⟨n.toArray⟩ : ByteArray).data.toList = [92] ++ n := by rw [HSB.out]
    have hXL := HXL.out
    have HFW := HF
    have HBW := HB0
    have HEW := HE
    have HBgW := HB
    rintro e w2 ⟨hp, hb2⟩
    rw [hSL] at hp
    obtain ⟨c, rfl, hc⟩ := hp
    have HF2 := Lib.hid (HFW.out.below hb2)
    have HB2 := Lib.hid (HBW.out.trans (hb2.mono HBW.out.size))
    clear hb2
    obtain ⟨⟨-, d0, d1, d2, d3⟩, -⟩ := HF2.out
    cases hT : targF ([92] ++ n) with
    | none =>
      rw [hT] at hc
      have hR := HN.out (by rw [hXL]; exact hT)
      have HR := Lib.hid hR
      have hc0 : ((c : Int) != 0) = true := by
        rw [bne_iff_ne]
        intro e
        have : c = 0 := by omega
        rw [hc] at this
        cases this
      have HB3 := Lib.hid (HB2.out.trans ((alloc_below w2 (.cells #[.int .i64 0, .string ⟨#[]⟩, .string ⟨#[]⟩, .string ⟨#[]⟩] 28)).mono HB2.out.size))
      clear hR hT hc hXL hSL
      simp only [Option.getD_none, tgV, tg0]
      go_wp2
      go_ret
      exact ⟨by rw [HR.out]; rfl, HB2.out.trans ((alloc_below w2 _).mono HB2.out.size)⟩
    | some t' =>
      rw [hT] at hc
      have h0 : c = 0 := hc.2 rfl
      subst h0
      have hR := HS.out t' (by rw [hXL]; exact hT)
      rw [hXL] at hR
      obtain ⟨k', ⟨a', b'⟩, n'⟩ := t'
      simp only [Option.getD_some, tgV]
      have hR3 : R = if (((k' : Int), (a', b'), n') : TI) = (3, (a, b), n) then ([92] ++ n) else [] := hR
      clear hR hc hT
      generalize (k' : Int) = kk at hR3 ⊢
      have hR := hR3
      clear hR3
      have HF3 := Lib.hid (Four4.made w2 (.int .i64 kk) (.string ⟨a'.toArray⟩) (.string ⟨b'.toArray⟩) (.string ⟨n'.toArray⟩) 28)
      have HF23 := Lib.hid (HF2.out.below (alloc_below w2 (.cells #[.int .i64 kk, .string ⟨a'.toArray⟩, .string ⟨b'.toArray⟩, .string ⟨n'.toArray⟩] 28)))
      have HB3 := Lib.hid (HB2.out.trans ((alloc_below w2 (.cells #[.int .i64 kk, .string ⟨a'.toArray⟩, .string ⟨b'.toArray⟩, .string ⟨n'.toArray⟩] 28)).mono HB2.out.size))
      clear d0 d1 d2 d3
      obtain ⟨⟨-, d0, d1, d2, d3⟩, -⟩ := HF3.out
      obtain ⟨⟨-, e0, e1, e2, e3⟩, -⟩ := HF23.out
      clear hXL hSL
      by_cases he : ((kk, (a', b'), n') : TI) = (3, (a, b), n)
      · have hR2 : R = ([92] ++ n) := by rw [hR]; exact if_pos he
        have HR := Lib.hid hR2
        obtain ⟨q1, q2, q3, q4⟩ : kk = 3 ∧ a' = a ∧ b' = b ∧ n' = n := by
          simp only [Prod.mk.injEq] at he
          exact ⟨he.1, he.2.1.1, he.2.1.2, he.2.2⟩
        clear hR hR2 he
        subst q1 q2 q3 q4
        go_wp2
        all_goals first
          | (go_ret; exact ⟨by rw [HR.out]; rw [HSB.out]; rfl, HB2.out.trans ((alloc_below w2 _).mono HB2.out.size)⟩)
          | (exfalso; omega)
      · have hR2 : R = [] := by rw [hR]; exact if_neg he
        have HR := Lib.hid hR2
        have HNE := Lib.hid he
        clear hR hR2 he
        go_wp2
        all_goals first
          | (exfalso; apply HNE.out; simp_all; done)
          | (go_ret; exact ⟨by rw [HR.out]; rfl, HB2.out.trans ((alloc_below w2 _).mono HB2.out.size)⟩)
  by_cases k4 : k = 4
  · subst k4
    have hbg := HB.out.b4
    have hXL : X = [47] ++ n := HX.out
    have hSB : (⟨#[47]⟩ : ByteArray) ++ ⟨n.toArray⟩ = (⟨([47] ++ n).toArray⟩ : ByteArray) := by
      apply ByteArray.ext
      simp [inclL, failL, dropB]
    have hS0 : ((⟨#[47]⟩ : ByteArray) ++ ⟨n.toArray⟩).size ≤ 1000100 := by
      rw [hSB]
      show ([47] ++ n).length ≤ _
      simp only [List.length_append, List.length_cons, inclL, failL, dropB, List.length_nil]
      omega
    have HSB := Lib.hid hSB
    have HS0 := Lib.hid hS0
    have HXL := Lib.hid hXL
    have hn1 : (⟨n.toArray⟩ : ByteArray).size ≤ 1000000 := h3
    clear hSB hS0 hXL
    go_enter Tryz.func13, Tryz.ntmps13
    go_wp2_with fail
    refine (HPT.out _ (by have := HS0.out; omega) _ HE.out HB.out).mono ?_
    clear d0 d1 d2 d3 g0 g1 g2 g3
    have hSL : ((⟨#[47]⟩ : ByteArray) ++ ⟨n.toArray⟩ : ByteArray).data.toList = [47] ++ n := by rw [HSB.out]
    have hXL := HXL.out
    have HFW := HF
    have HBW := HB0
    have HEW := HE
    have HBgW := HB
    rintro e w2 ⟨hp, hb2⟩
    rw [hSL] at hp
    obtain ⟨c, rfl, hc⟩ := hp
    have HF2 := Lib.hid (HFW.out.below hb2)
    have HB2 := Lib.hid (HBW.out.trans (hb2.mono HBW.out.size))
    clear hb2
    obtain ⟨⟨-, d0, d1, d2, d3⟩, -⟩ := HF2.out
    cases hT : targF ([47] ++ n) with
    | none =>
      rw [hT] at hc
      have hR := HN.out (by rw [hXL]; exact hT)
      have HR := Lib.hid hR
      have hc0 : ((c : Int) != 0) = true := by
        rw [bne_iff_ne]
        intro e
        have : c = 0 := by omega
        rw [hc] at this
        cases this
      have HB3 := Lib.hid (HB2.out.trans ((alloc_below w2 (.cells #[.int .i64 0, .string ⟨#[]⟩, .string ⟨#[]⟩, .string ⟨#[]⟩] 28)).mono HB2.out.size))
      clear hR hT hc hXL hSL
      simp only [Option.getD_none, tgV, tg0]
      go_wp2
      go_ret
      exact ⟨by rw [HR.out]; rfl, HB2.out.trans ((alloc_below w2 _).mono HB2.out.size)⟩
    | some t' =>
      rw [hT] at hc
      have h0 : c = 0 := hc.2 rfl
      subst h0
      have hR := HS.out t' (by rw [hXL]; exact hT)
      rw [hXL] at hR
      obtain ⟨k', ⟨a', b'⟩, n'⟩ := t'
      simp only [Option.getD_some, tgV]
      have hR3 : R = if (((k' : Int), (a', b'), n') : TI) = (4, (a, b), n) then ([47] ++ n) else [] := hR
      clear hR hc hT
      generalize (k' : Int) = kk at hR3 ⊢
      have hR := hR3
      clear hR3
      have HF3 := Lib.hid (Four4.made w2 (.int .i64 kk) (.string ⟨a'.toArray⟩) (.string ⟨b'.toArray⟩) (.string ⟨n'.toArray⟩) 28)
      have HF23 := Lib.hid (HF2.out.below (alloc_below w2 (.cells #[.int .i64 kk, .string ⟨a'.toArray⟩, .string ⟨b'.toArray⟩, .string ⟨n'.toArray⟩] 28)))
      have HB3 := Lib.hid (HB2.out.trans ((alloc_below w2 (.cells #[.int .i64 kk, .string ⟨a'.toArray⟩, .string ⟨b'.toArray⟩, .string ⟨n'.toArray⟩] 28)).mono HB2.out.size))
      clear d0 d1 d2 d3
      obtain ⟨⟨-, d0, d1, d2, d3⟩, -⟩ := HF3.out
      obtain ⟨⟨-, e0, e1, e2, e3⟩, -⟩ := HF23.out
      clear hXL hSL
      by_cases he : ((kk, (a', b'), n') : TI) = (4, (a, b), n)
      · have hR2 : R = ([47] ++ n) := by rw [hR]; exact if_pos he
        have HR := Lib.hid hR2
        obtain ⟨q1, q2, q3, q4⟩ : kk = 4 ∧ a' = a ∧ b' = b ∧ n' = n := by
          simp only [Prod.mk.injEq] at he
          exact ⟨he.1, he.2.1.1, he.2.1.2, he.2.2⟩
        clear hR hR2 he
        subst q1 q2 q3 q4
        go_wp2
        all_goals first
          | (go_ret; exact ⟨by rw [HR.out]; rw [HSB.out]; rfl, HB2.out.trans ((alloc_below w2 _).mono HB2.out.size)⟩)
          | (exfalso; omega)
      · have hR2 : R = [] := by rw [hR]; exact if_neg he
        have HR := Lib.hid hR2
        have HNE := Lib.hid he
        clear hR hR2 he
        go_wp2
        all_goals first
          | (exfalso; apply HNE.out; simp_all; done)
          | (go_ret; exact ⟨by rw [HR.out]; rfl, HB2.out.trans ((alloc_below w2 _).mono HB2.out.size)⟩)
  by_cases k5 : k = 5
  · subst k5
    have hbg := HB.out.b5
    have hXL : X = inclL ++ n := HX.out
    have hSB : (⟨#[58, 105, 110, 99, 108, 117, 100, 101, 58]⟩ : ByteArray) ++ ⟨n.toArray⟩ = (⟨(inclL ++ n).toArray⟩ : ByteArray) := by
      apply ByteArray.ext
      simp [inclL, failL, dropB]
    have hS0 : ((⟨#[58, 105, 110, 99, 108, 117, 100, 101, 58]⟩ : ByteArray) ++ ⟨n.toArray⟩).size ≤ 1000100 := by
      rw [hSB]
      show (inclL ++ n).length ≤ _
      simp only [List.length_append, List.length_cons, inclL, failL, dropB, List.length_nil]
      omega
    have HSB := Lib.hid hSB
    have HS0 := Lib.hid hS0
    have HXL := Lib.hid hXL
    have hn1 : (⟨n.toArray⟩ : ByteArray).size ≤ 1000000 := h3
    clear hSB hS0 hXL
    go_enter Tryz.func13, Tryz.ntmps13
    go_wp2_with fail
    refine (HPT.out _ (by have := HS0.out; omega) _ HE.out HB.out).mono ?_
    clear d0 d1 d2 d3 g0 g1 g2 g3
    have hSL : ((⟨#[58, 105, 110, 99, 108, 117, 100, 101, 58]⟩ : ByteArray) ++ ⟨n.toArray⟩ : ByteArray).data.toList = inclL ++ n := by rw [HSB.out]
    have hXL := HXL.out
    have HFW := HF
    have HBW := HB0
    have HEW := HE
    have HBgW := HB
    rintro e w2 ⟨hp, hb2⟩
    rw [hSL] at hp
    obtain ⟨c, rfl, hc⟩ := hp
    have HF2 := Lib.hid (HFW.out.below hb2)
    have HB2 := Lib.hid (HBW.out.trans (hb2.mono HBW.out.size))
    clear hb2
    obtain ⟨⟨-, d0, d1, d2, d3⟩, -⟩ := HF2.out
    cases hT : targF (inclL ++ n) with
    | none =>
      rw [hT] at hc
      have hR := HN.out (by rw [hXL]; exact hT)
      have HR := Lib.hid hR
      have hc0 : ((c : Int) != 0) = true := by
        rw [bne_iff_ne]
        intro e
        have : c = 0 := by omega
        rw [hc] at this
        cases this
      have HB3 := Lib.hid (HB2.out.trans ((alloc_below w2 (.cells #[.int .i64 0, .string ⟨#[]⟩, .string ⟨#[]⟩, .string ⟨#[]⟩] 28)).mono HB2.out.size))
      clear hR hT hc hXL hSL
      simp only [Option.getD_none, tgV, tg0]
      go_wp2
      go_ret
      exact ⟨by rw [HR.out]; rfl, HB2.out.trans ((alloc_below w2 _).mono HB2.out.size)⟩
    | some t' =>
      rw [hT] at hc
      have h0 : c = 0 := hc.2 rfl
      subst h0
      have hR := HS.out t' (by rw [hXL]; exact hT)
      rw [hXL] at hR
      obtain ⟨k', ⟨a', b'⟩, n'⟩ := t'
      simp only [Option.getD_some, tgV]
      have hR3 : R = if (((k' : Int), (a', b'), n') : TI) = (5, (a, b), n) then (inclL ++ n) else [] := hR
      clear hR hc hT
      generalize (k' : Int) = kk at hR3 ⊢
      have hR := hR3
      clear hR3
      have HF3 := Lib.hid (Four4.made w2 (.int .i64 kk) (.string ⟨a'.toArray⟩) (.string ⟨b'.toArray⟩) (.string ⟨n'.toArray⟩) 28)
      have HF23 := Lib.hid (HF2.out.below (alloc_below w2 (.cells #[.int .i64 kk, .string ⟨a'.toArray⟩, .string ⟨b'.toArray⟩, .string ⟨n'.toArray⟩] 28)))
      have HB3 := Lib.hid (HB2.out.trans ((alloc_below w2 (.cells #[.int .i64 kk, .string ⟨a'.toArray⟩, .string ⟨b'.toArray⟩, .string ⟨n'.toArray⟩] 28)).mono HB2.out.size))
      clear d0 d1 d2 d3
      obtain ⟨⟨-, d0, d1, d2, d3⟩, -⟩ := HF3.out
      obtain ⟨⟨-, e0, e1, e2, e3⟩, -⟩ := HF23.out
      clear hXL hSL
      by_cases he : ((kk, (a', b'), n') : TI) = (5, (a, b), n)
      · have hR2 : R = (inclL ++ n) := by rw [hR]; exact if_pos he
        have HR := Lib.hid hR2
        obtain ⟨q1, q2, q3, q4⟩ : kk = 5 ∧ a' = a ∧ b' = b ∧ n' = n := by
          simp only [Prod.mk.injEq] at he
          exact ⟨he.1, he.2.1.1, he.2.1.2, he.2.2⟩
        clear hR hR2 he
        subst q1 q2 q3 q4
        go_wp2
        all_goals first
          | (go_ret; exact ⟨by rw [HR.out]; rw [HSB.out]; rfl, HB2.out.trans ((alloc_below w2 _).mono HB2.out.size)⟩)
          | (exfalso; omega)
      · have hR2 : R = [] := by rw [hR]; exact if_neg he
        have HR := Lib.hid hR2
        have HNE := Lib.hid he
        clear hR hR2 he
        go_wp2
        all_goals first
          | (exfalso; apply HNE.out; simp_all; done)
          | (go_ret; exact ⟨by rw [HR.out]; rfl, HB2.out.trans ((alloc_below w2 _).mono HB2.out.size)⟩)
  by_cases k6 : k = 6
  · subst k6
    have hbg := HB.out.b6
    have hXL : X = failL ++ 32 :: n := HX.out
    have hSB : ((⟨#[58, 102, 97, 105, 108, 58]⟩ : ByteArray) ++ ⟨#[32]⟩) ++ ⟨n.toArray⟩ = (⟨(failL ++ 32 :: n).toArray⟩ : ByteArray) := by
      apply ByteArray.ext
      simp [inclL, failL, dropB]
    have hS0 : (((⟨#[58, 102, 97, 105, 108, 58]⟩ : ByteArray) ++ ⟨#[32]⟩) ++ ⟨n.toArray⟩).size ≤ 1000100 := by
      rw [hSB]
      show (failL ++ 32 :: n).length ≤ _
      simp only [List.length_append, List.length_cons, inclL, failL, dropB, List.length_nil]
      omega
    have HSB := Lib.hid hSB
    have HS0 := Lib.hid hS0
    have HXL := Lib.hid hXL
    have hn1 : (⟨n.toArray⟩ : ByteArray).size ≤ 1000000 := h3
    clear hSB hS0 hXL
    go_enter Tryz.func13, Tryz.ntmps13
    go_wp2_with fail
    refine (HPT.out _ (by have := HS0.out; omega) _ HE.out HB.out).mono ?_
    clear d0 d1 d2 d3 g0 g1 g2 g3
    have hSL : (((⟨#[58, 102, 97, 105, 108, 58]⟩ : ByteArray) ++ ⟨#[32]⟩) ++ ⟨n.toArray⟩ : ByteArray).data.toList = failL ++ 32 :: n := by rw [HSB.out]
    have hXL := HXL.out
    have HFW := HF
    have HBW := HB0
    have HEW := HE
    have HBgW := HB
    rintro e w2 ⟨hp, hb2⟩
    rw [hSL] at hp
    obtain ⟨c, rfl, hc⟩ := hp
    have HF2 := Lib.hid (HFW.out.below hb2)
    have HB2 := Lib.hid (HBW.out.trans (hb2.mono HBW.out.size))
    clear hb2
    obtain ⟨⟨-, d0, d1, d2, d3⟩, -⟩ := HF2.out
    cases hT : targF (failL ++ 32 :: n) with
    | none =>
      rw [hT] at hc
      have hR := HN.out (by rw [hXL]; exact hT)
      have HR := Lib.hid hR
      have hc0 : ((c : Int) != 0) = true := by
        rw [bne_iff_ne]
        intro e
        have : c = 0 := by omega
        rw [hc] at this
        cases this
      have HB3 := Lib.hid (HB2.out.trans ((alloc_below w2 (.cells #[.int .i64 0, .string ⟨#[]⟩, .string ⟨#[]⟩, .string ⟨#[]⟩] 28)).mono HB2.out.size))
      clear hR hT hc hXL hSL
      simp only [Option.getD_none, tgV, tg0]
      go_wp2
      go_ret
      exact ⟨by rw [HR.out]; rfl, HB2.out.trans ((alloc_below w2 _).mono HB2.out.size)⟩
    | some t' =>
      rw [hT] at hc
      have h0 : c = 0 := hc.2 rfl
      subst h0
      have hR := HS.out t' (by rw [hXL]; exact hT)
      rw [hXL] at hR
      obtain ⟨k', ⟨a', b'⟩, n'⟩ := t'
      simp only [Option.getD_some, tgV]
      have hR3 : R = if (((k' : Int), (a', b'), n') : TI) = (6, (a, b), n) then (failL ++ 32 :: n) else [] := hR
      clear hR hc hT
      generalize (k' : Int) = kk at hR3 ⊢
      have hR := hR3
      clear hR3
      have HF3 := Lib.hid (Four4.made w2 (.int .i64 kk) (.string ⟨a'.toArray⟩) (.string ⟨b'.toArray⟩) (.string ⟨n'.toArray⟩) 28)
      have HF23 := Lib.hid (HF2.out.below (alloc_below w2 (.cells #[.int .i64 kk, .string ⟨a'.toArray⟩, .string ⟨b'.toArray⟩, .string ⟨n'.toArray⟩] 28)))
      have HB3 := Lib.hid (HB2.out.trans ((alloc_below w2 (.cells #[.int .i64 kk, .string ⟨a'.toArray⟩, .string ⟨b'.toArray⟩, .string ⟨n'.toArray⟩] 28)).mono HB2.out.size))
      clear d0 d1 d2 d3
      obtain ⟨⟨-, d0, d1, d2, d3⟩, -⟩ := HF3.out
      obtain ⟨⟨-, e0, e1, e2, e3⟩, -⟩ := HF23.out
      clear hXL hSL
      by_cases he : ((kk, (a', b'), n') : TI) = (6, (a, b), n)
      · have hR2 : R = (failL ++ 32 :: n) := by rw [hR]; exact if_pos he
        have HR := Lib.hid hR2
        obtain ⟨q1, q2, q3, q4⟩ : kk = 6 ∧ a' = a ∧ b' = b ∧ n' = n := by
          simp only [Prod.mk.injEq] at he
          exact ⟨he.1, he.2.1.1, he.2.1.2, he.2.2⟩
        clear hR hR2 he
        subst q1 q2 q3 q4
        go_wp2
        all_goals first
          | (go_ret; exact ⟨by rw [HR.out]; rw [HSB.out]; rfl, HB2.out.trans ((alloc_below w2 _).mono HB2.out.size)⟩)
          | (exfalso; omega)
      · have hR2 : R = [] := by rw [hR]; exact if_neg he
        have HR := Lib.hid hR2
        have HNE := Lib.hid he
        clear hR hR2 he
        go_wp2
        all_goals first
          | (exfalso; apply HNE.out; simp_all; done)
          | (go_ret; exact ⟨by rw [HR.out]; rfl, HB2.out.trans ((alloc_below w2 _).mono HB2.out.size)⟩)
  by_cases k7 : k = 7
  · subst k7
    have hbg := HB.out.b7
    have hXL : X = dropB ++ n := HX.out
    have hSB : (⟨#[58, 100, 114, 111, 112, 58]⟩ : ByteArray) ++ ⟨n.toArray⟩ = (⟨(dropB ++ n).toArray⟩ : ByteArray) := by
      apply ByteArray.ext
      simp [inclL, failL, dropB]
    have hS0 : ((⟨#[58, 100, 114, 111, 112, 58]⟩ : ByteArray) ++ ⟨n.toArray⟩).size ≤ 1000100 := by
      rw [hSB]
      show (dropB ++ n).length ≤ _
      simp only [List.length_append, List.length_cons, inclL, failL, dropB, List.length_nil]
      omega
    have HSB := Lib.hid hSB
    have HS0 := Lib.hid hS0
    have HXL := Lib.hid hXL
    have hn1 : (⟨n.toArray⟩ : ByteArray).size ≤ 1000000 := h3
    clear hSB hS0 hXL
    go_enter Tryz.func13, Tryz.ntmps13
    go_wp2_with fail
    refine (HPT.out _ (by have := HS0.out; omega) _ HE.out HB.out).mono ?_
    clear d0 d1 d2 d3 g0 g1 g2 g3
    have hSL : ((⟨#[58, 100, 114, 111, 112, 58]⟩ : ByteArray) ++ ⟨n.toArray⟩ : ByteArray).data.toList = dropB ++ n := by rw [HSB.out]
    have hXL := HXL.out
    have HFW := HF
    have HBW := HB0
    have HEW := HE
    have HBgW := HB
    rintro e w2 ⟨hp, hb2⟩
    rw [hSL] at hp
    obtain ⟨c, rfl, hc⟩ := hp
    have HF2 := Lib.hid (HFW.out.below hb2)
    have HB2 := Lib.hid (HBW.out.trans (hb2.mono HBW.out.size))
    clear hb2
    obtain ⟨⟨-, d0, d1, d2, d3⟩, -⟩ := HF2.out
    cases hT : targF (dropB ++ n) with
    | none =>
      rw [hT] at hc
      have hR := HN.out (by rw [hXL]; exact hT)
      have HR := Lib.hid hR
      have hc0 : ((c : Int) != 0) = true := by
        rw [bne_iff_ne]
        intro e
        have : c = 0 := by omega
        rw [hc] at this
        cases this
      have HB3 := Lib.hid (HB2.out.trans ((alloc_below w2 (.cells #[.int .i64 0, .string ⟨#[]⟩, .string ⟨#[]⟩, .string ⟨#[]⟩] 28)).mono HB2.out.size))
      clear hR hT hc hXL hSL
      simp only [Option.getD_none, tgV, tg0]
      go_wp2
      go_ret
      exact ⟨by rw [HR.out]; rfl, HB2.out.trans ((alloc_below w2 _).mono HB2.out.size)⟩
    | some t' =>
      rw [hT] at hc
      have h0 : c = 0 := hc.2 rfl
      subst h0
      have hR := HS.out t' (by rw [hXL]; exact hT)
      rw [hXL] at hR
      obtain ⟨k', ⟨a', b'⟩, n'⟩ := t'
      simp only [Option.getD_some, tgV]
      have hR3 : R = if (((k' : Int), (a', b'), n') : TI) = (7, (a, b), n) then (dropB ++ n) else [] := hR
      clear hR hc hT
      generalize (k' : Int) = kk at hR3 ⊢
      have hR := hR3
      clear hR3
      have HF3 := Lib.hid (Four4.made w2 (.int .i64 kk) (.string ⟨a'.toArray⟩) (.string ⟨b'.toArray⟩) (.string ⟨n'.toArray⟩) 28)
      have HF23 := Lib.hid (HF2.out.below (alloc_below w2 (.cells #[.int .i64 kk, .string ⟨a'.toArray⟩, .string ⟨b'.toArray⟩, .string ⟨n'.toArray⟩] 28)))
      have HB3 := Lib.hid (HB2.out.trans ((alloc_below w2 (.cells #[.int .i64 kk, .string ⟨a'.toArray⟩, .string ⟨b'.toArray⟩, .string ⟨n'.toArray⟩] 28)).mono HB2.out.size))
      clear d0 d1 d2 d3
      obtain ⟨⟨-, d0, d1, d2, d3⟩, -⟩ := HF3.out
      obtain ⟨⟨-, e0, e1, e2, e3⟩, -⟩ := HF23.out
      clear hXL hSL
      by_cases he : ((kk, (a', b'), n') : TI) = (7, (a, b), n)
      · have hR2 : R = (dropB ++ n) := by rw [hR]; exact if_pos he
        have HR := Lib.hid hR2
        obtain ⟨q1, q2, q3, q4⟩ : kk = 7 ∧ a' = a ∧ b' = b ∧ n' = n := by
          simp only [Prod.mk.injEq] at he
          exact ⟨he.1, he.2.1.1, he.2.1.2, he.2.2⟩
        clear hR hR2 he
        subst q1 q2 q3 q4
        go_wp2
        all_goals first
          | (go_ret; exact ⟨by rw [HR.out]; rw [HSB.out]; rfl, HB2.out.trans ((alloc_below w2 _).mono HB2.out.size)⟩)
          | (exfalso; omega)
      · have hR2 : R = [] := by rw [hR]; exact if_neg he
        have HR := Lib.hid hR2
        have HNE := Lib.hid he
        clear hR hR2 he
        go_wp2
        all_goals first
          | (exfalso; apply HNE.out; simp_all; done)
          | (go_ret; exact ⟨by rw [HR.out]; rfl, HB2.out.trans ((alloc_below w2 _).mono HB2.out.size)⟩)
  have n1 : ((k : Int) == 1) = false := by rw [beq_eq_false_iff_ne]; exact k1
  have n6 : ((k : Int) == 6) = false := by rw [beq_eq_false_iff_ne]; exact k6
  have hno : ¬ (3 ≤ k ∧ k ≤ 7) := by omega
  have hXL : X = n := by rw [HX.out, if_neg k1, if_neg k6, if_neg hno]
  have HXL := Lib.hid hXL
  have HFW := HF
  have HBW := HB0
  have HEW := HE
  have HBgW := HB
  by_cases l3 : 3 ≤ k
  · have l7 : ¬ k ≤ 7 := by omega
    clear hXL k1 k3 k4 k5 k6 k7 hno
    go_enter Tryz.func13, Tryz.ntmps13
    go_wp2_with fail
    refine (HPT.out _ (by show n.length ≤ _; omega) _ HE.out HB.out).mono ?_
    clear d0 d1 d2 d3 g0 g1 g2 g3
    have hXL := HXL.out
    have hSL : (⟨n.toArray⟩ : ByteArray).data.toList = n := rfl
    rintro e w2 ⟨hp, hb2⟩
    rw [hSL] at hp
    obtain ⟨c, rfl, hc⟩ := hp
    have HF2 := Lib.hid (HFW.out.below hb2)
    have HB2 := Lib.hid (HBW.out.trans (hb2.mono HBW.out.size))
    clear hb2
    obtain ⟨⟨-, d0, d1, d2, d3⟩, -⟩ := HF2.out
    cases hT : targF (n) with
    | none =>
      rw [hT] at hc
      have hR := HN.out (by rw [hXL]; exact hT)
      have HR := Lib.hid hR
      have hc0 : ((c : Int) != 0) = true := by
        rw [bne_iff_ne]
        intro e
        have : c = 0 := by omega
        rw [hc] at this
        cases this
      have HB3 := Lib.hid (HB2.out.trans ((alloc_below w2 (.cells #[.int .i64 0, .string ⟨#[]⟩, .string ⟨#[]⟩, .string ⟨#[]⟩] 28)).mono HB2.out.size))
      clear hR hT hc hXL hSL
      simp only [Option.getD_none, tgV, tg0]
      go_wp2
      go_ret
      exact ⟨by rw [HR.out]; rfl, HB2.out.trans ((alloc_below w2 _).mono HB2.out.size)⟩
    | some t' =>
      rw [hT] at hc
      have h0 : c = 0 := hc.2 rfl
      subst h0
      have hR := HS.out t' (by rw [hXL]; exact hT)
      rw [hXL] at hR
      obtain ⟨k', ⟨a', b'⟩, n'⟩ := t'
      simp only [Option.getD_some, tgV]
      have hR3 : R = if (((k' : Int), (a', b'), n') : TI) = (k, (a, b), n) then (n) else [] := hR
      clear hR hc hT
      generalize (k' : Int) = kk at hR3 ⊢
      have hR := hR3
      clear hR3
      have HF3 := Lib.hid (Four4.made w2 (.int .i64 kk) (.string ⟨a'.toArray⟩) (.string ⟨b'.toArray⟩) (.string ⟨n'.toArray⟩) 28)
      have HF23 := Lib.hid (HF2.out.below (alloc_below w2 (.cells #[.int .i64 kk, .string ⟨a'.toArray⟩, .string ⟨b'.toArray⟩, .string ⟨n'.toArray⟩] 28)))
      have HB3 := Lib.hid (HB2.out.trans ((alloc_below w2 (.cells #[.int .i64 kk, .string ⟨a'.toArray⟩, .string ⟨b'.toArray⟩, .string ⟨n'.toArray⟩] 28)).mono HB2.out.size))
      clear d0 d1 d2 d3
      obtain ⟨⟨-, d0, d1, d2, d3⟩, -⟩ := HF3.out
      obtain ⟨⟨-, e0, e1, e2, e3⟩, -⟩ := HF23.out
      clear hXL hSL
      by_cases he : ((kk, (a', b'), n') : TI) = (k, (a, b), n)
      · have hR2 : R = (n) := by rw [hR]; exact if_pos he
        have HR := Lib.hid hR2
        obtain ⟨q1, q2, q3, q4⟩ : kk = k ∧ a' = a ∧ b' = b ∧ n' = n := by
          simp only [Prod.mk.injEq] at he
          exact ⟨he.1, he.2.1.1, he.2.1.2, he.2.2⟩
        clear hR hR2 he
        subst q1 q2 q3 q4
        go_wp2
        all_goals first
          | (go_ret; exact ⟨by rw [HR.out]; rfl, HB2.out.trans ((alloc_below w2 _).mono HB2.out.size)⟩)
          | (exfalso; omega)
      · have hR2 : R = [] := by rw [hR]; exact if_neg he
        have HR := Lib.hid hR2
        have HNE := Lib.hid he
        clear hR hR2 he
        go_wp2
        all_goals first
          | (exfalso; apply HNE.out; simp_all; done)
          | (go_ret; exact ⟨by rw [HR.out]; rfl, HB2.out.trans ((alloc_below w2 _).mono HB2.out.size)⟩)
  · clear hXL k1 k3 k4 k5 k6 k7 hno
    go_enter Tryz.func13, Tryz.ntmps13
    go_wp2_with fail
    refine (HPT.out _ (by show n.length ≤ _; omega) _ HE.out HB.out).mono ?_
    clear d0 d1 d2 d3 g0 g1 g2 g3
    have hXL := HXL.out
    have hSL : (⟨n.toArray⟩ : ByteArray).data.toList = n := rfl
    rintro e w2 ⟨hp, hb2⟩
    rw [hSL] at hp
    obtain ⟨c, rfl, hc⟩ := hp
    have HF2 := Lib.hid (HFW.out.below hb2)
    have HB2 := Lib.hid (HBW.out.trans (hb2.mono HBW.out.size))
    clear hb2
    obtain ⟨⟨-, d0, d1, d2, d3⟩, -⟩ := HF2.out
    cases hT : targF (n) with
    | none =>
      rw [hT] at hc
      have hR := HN.out (by rw [hXL]; exact hT)
      have HR := Lib.hid hR
      have hc0 : ((c : Int) != 0) = true := by
        rw [bne_iff_ne]
        intro e
        have : c = 0 := by omega
        rw [hc] at this
        cases this
      have HB3 := Lib.hid (HB2.out.trans ((alloc_below w2 (.cells #[.int .i64 0, .string ⟨#[]⟩, .string ⟨#[]⟩, .string ⟨#[]⟩] 28)).mono HB2.out.size))
      clear hR hT hc hXL hSL
      simp only [Option.getD_none, tgV, tg0]
      go_wp2
      go_ret
      exact ⟨by rw [HR.out]; rfl, HB2.out.trans ((alloc_below w2 _).mono HB2.out.size)⟩
    | some t' =>
      rw [hT] at hc
      have h0 : c = 0 := hc.2 rfl
      subst h0
      have hR := HS.out t' (by rw [hXL]; exact hT)
      rw [hXL] at hR
      obtain ⟨k', ⟨a', b'⟩, n'⟩ := t'
      simp only [Option.getD_some, tgV]
      have hR3 : R = if (((k' : Int), (a', b'), n') : TI) = (k, (a, b), n) then (n) else [] := hR
      clear hR hc hT
      generalize (k' : Int) = kk at hR3 ⊢
      have hR := hR3
      clear hR3
      have HF3 := Lib.hid (Four4.made w2 (.int .i64 kk) (.string ⟨a'.toArray⟩) (.string ⟨b'.toArray⟩) (.string ⟨n'.toArray⟩) 28)
      have HF23 := Lib.hid (HF2.out.below (alloc_below w2 (.cells #[.int .i64 kk, .string ⟨a'.toArray⟩, .string ⟨b'.toArray⟩, .string ⟨n'.toArray⟩] 28)))
      have HB3 := Lib.hid (HB2.out.trans ((alloc_below w2 (.cells #[.int .i64 kk, .string ⟨a'.toArray⟩, .string ⟨b'.toArray⟩, .string ⟨n'.toArray⟩] 28)).mono HB2.out.size))
      clear d0 d1 d2 d3
      obtain ⟨⟨-, d0, d1, d2, d3⟩, -⟩ := HF3.out
      obtain ⟨⟨-, e0, e1, e2, e3⟩, -⟩ := HF23.out
      clear hXL hSL
      by_cases he : ((kk, (a', b'), n') : TI) = (k, (a, b), n)
      · have hR2 : R = (n) := by rw [hR]; exact if_pos he
        have HR := Lib.hid hR2
        obtain ⟨q1, q2, q3, q4⟩ : kk = k ∧ a' = a ∧ b' = b ∧ n' = n := by
          simp only [Prod.mk.injEq] at he
          exact ⟨he.1, he.2.1.1, he.2.1.2, he.2.2⟩
        clear hR hR2 he
        subst q1 q2 q3 q4
        go_wp2
        all_goals first
          | (go_ret; exact ⟨by rw [HR.out]; rfl, HB2.out.trans ((alloc_below w2 _).mono HB2.out.size)⟩)
          | (exfalso; omega)
      · have hR2 : R = [] := by rw [hR]; exact if_neg he
        have HR := Lib.hid hR2
        have HNE := Lib.hid he
        clear hR hR2 he
        go_wp2
        all_goals first
          | (exfalso; apply HNE.out; simp_all; done)
          | (go_ret; exact ⟨by rw [HR.out]; rfl, HB2.out.trans ((alloc_below w2 _).mono HB2.out.size)⟩)
end Go.Proofs.YtkoncmmbdlnmfaaGreatDoor
