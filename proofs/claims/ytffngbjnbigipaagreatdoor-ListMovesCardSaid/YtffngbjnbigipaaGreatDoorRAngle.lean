/- list's reader: its method angle. -/
import Derived.Test.YtffngbjnbigipaaGreatDoorRRoute
namespace Go.Proofs.YtffngbjnbigipaaGreatDoor
open Go.RowKit Go.Lib
set_option linter.unusedSimpArgs false
set_option linter.unusedVariables false
set_option linter.unnecessarySimpa false
set_option maxRecDepth 100000

def AngP (B : Nat) (s : ByteArray) (R : Option (Nat × LSt)) (W : World) : Prop := match R with
  | none => RW B s W
  | some (n, st) => RZ B s n st W
theorem RZ.below {B : Nat} {s : ByteArray} {k : Nat} {st : LSt} {w W : World} (h : RZ B s k st w) (hb : Below w.heap.size w W) : RZ B s k st W := by
  obtain ⟨v, h, ho⟩ := h
  exact ⟨v, h.below hb, own_but ho (But.of_below hb)⟩
theorem RZ.lt {B : Nat} {s : ByteArray} {k : Nat} {st : LSt} {w : World} (h : RZ B s k st w) : B < w.heap.size := by
  obtain ⟨v, h, ho⟩ := h
  exact h.lt
set_option maxHeartbeats 4000000 in
theorem angle_any (B : Nat) (s : ByteArray) (k : Nat) (st : LSt) (w : World) (h : RZ B s k st w) (hs : s.size ≤ 900000000) (hE : Env w) (hB : 8 ≤ B) (hst : st.1.length ≤ 1000000000000) (h60 : s.data.toList[k]? = some 60) :
    Calls Tryz.prog 120 #[.pointer (some ⟨B, 0, none⟩)] w fun e w' => e = .returned (.tuple #[]) ∧ AngP B s (angleE s.data.toList (k + 1) st) w' ∧ Below B w w' := by
  obtain ⟨v, h, hown⟩ := h
  obtain ⟨sp, g⟩ := st
  simp only at h hown hst
  have hBlt := h.lt
  have hlt := at_lt h60
  rw [list_len] at hlt
  have HM := Lib.hid (must_at B s k v g 60 w h (by omega) h60)
  have HO := Lib.hid hown
  have HE := Lib.hid hE
  clear hown h h60 hE
  have hR : angleE s.data.toList (k + 1) (sp, g) = angleE s.data.toList (k + 1) (sp, g) := rfl
  conv at hR => rhs; unfold angleE
  generalize angleE s.data.toList (k + 1) (sp, g) = R at hR ⊢
  split at hR
  · rename_i hb1n
    subst hR
    go_enter Tryz.func120, Tryz.ntmps120
    go_wp2_with fail
    refine HM.out.mono ?_
    rintro e w1 ⟨rfl, hr1, hb1⟩
    have H1 := Lib.hid hr1
    clear hr1
    have HC2 := Lib.hid (blank_none B s (k + 1) v g _ H1.out (by omega) (by omega) hb1n)
    go_wp2_with fail
    refine HC2.out.mono ?_
    rintro e w2 ⟨rfl, hr2, hb2⟩
    have H2 := Lib.hid hr2
    clear hr2
    have HI101 := Lib.hid (route_wrong B s _ H2.out)
    go_wp2_with fail
    refine HI101.out.mono ?_
    rintro e w101 ⟨rfl, hr101, hb101⟩
    have H101 := Lib.hid hr101
    clear hr101
    have HI102 := Lib.hid (blank_wrong' B s _ H101.out)
    go_wp2_with fail
    refine HI102.out.mono ?_
    rintro e w102 ⟨rfl, hr102, hb102⟩
    have H102 := Lib.hid hr102
    clear hr102
    obtain ⟨k103, v103, l103, -, hq103⟩ := H102.out
    have c1103 := hq103.c1
    clear hq103
    have HI104 := Lib.hid (word_wrong B s _ H102.out)
    go_wp2_with fail
    refine HI104.out.mono ?_
    rintro e w104 ⟨rfl, hr104, hb104⟩
    have H104 := Lib.hid hr104
    clear hr104
    have HI105 := Lib.hid (fail_rw B s _ H104.out)
    go_wp2_with fail
    refine HI105.out.mono ?_
    rintro e w105 ⟨rfl, hr105, hb105⟩
    have H105 := Lib.hid hr105
    clear hr105
    have HI106 := Lib.hid (spot_wrong B s k103 _ H105.out hs)
    go_wp2_with fail
    refine HI106.out.mono ?_
    rintro e w106 ⟨rfl, hr106, hb106⟩
    have H106 := Lib.hid hr106
    clear hr106
    have HI107 := Lib.hid (blank_wrong' B s _ H106.out)
    go_wp2_with fail
    refine HI107.out.mono ?_
    rintro e w107 ⟨rfl, hr107, hb107⟩
    have H107 := Lib.hid hr107
    clear hr107
    have HI108 := Lib.hid (must_wrong B s 62 _ H107.out)
    go_wp2_with fail
    refine HI108.out.mono ?_
    rintro e w108 ⟨rfl, hr108, hb108⟩
    have H108 := Lib.hid hr108
    clear hr108
    go_wp2
    go_end0
    exact ⟨rfl, H108.out, ((((((((hb1.trans hb2).trans hb101).trans hb102).trans hb104).trans hb105).trans hb106).trans hb107).trans hb108).low (Nat.le_of_lt hBlt)⟩
  · rename_i k1 hb1n
    have hk1 := (blankE_le (by rw [list_len]; omega) hb1n).2
    rw [list_len] at hk1
    simp only at hR
    have HROU := Lib.hid (fun W (h : RS B s k1 v false g W) (hE : Env W) => route_any B s k1 v g W h hk1 hs hE hB)
    split at hR
    · rename_i hrn
      rw [hrn] at HROU
      simp only [RouP] at HROU
      subst hR
      go_enter Tryz.func120, Tryz.ntmps120
      go_wp2_with fail
      refine HM.out.mono ?_
      rintro e w1 ⟨rfl, hr1, hb1⟩
      have H1 := Lib.hid hr1
      clear hr1
      have HC2 := Lib.hid (blank_some B s (k + 1) k1 v g _ H1.out (by omega) (by omega) hb1n)
      go_wp2_with fail
      refine HC2.out.mono ?_
      rintro e w2 ⟨rfl, hr2, hb2⟩
      have H2 := Lib.hid hr2
      clear hr2
      have hb12 := hb1.trans hb2
      have HC3 := Lib.hid (HROU.out _ H2.out (HE.out.but hb12 hB))
      go_wp2_with fail
      refine HC3.out.mono ?_
      rintro e w3 ⟨rfl, hr3, hb3⟩
      have H3 := Lib.hid hr3
      clear hr3
      have hb13 := hb12.trans hb3
      have HI109 := Lib.hid (blank_wrong' B s _ H3.out)
      go_wp2_with fail
      refine HI109.out.mono ?_
      rintro e w109 ⟨rfl, hr109, hb109⟩
      have H109 := Lib.hid hr109
      clear hr109
      obtain ⟨k110, v110, l110, -, hq110⟩ := H109.out
      have c1110 := hq110.c1
      clear hq110
      have HI111 := Lib.hid (word_wrong B s _ H109.out)
      go_wp2_with fail
      refine HI111.out.mono ?_
      rintro e w111 ⟨rfl, hr111, hb111⟩
      have H111 := Lib.hid hr111
      clear hr111
      have HI112 := Lib.hid (fail_rw B s _ H111.out)
      go_wp2_with fail
      refine HI112.out.mono ?_
      rintro e w112 ⟨rfl, hr112, hb112⟩
      have H112 := Lib.hid hr112
      clear hr112
      have HI113 := Lib.hid (spot_wrong B s k110 _ H112.out hs)
      go_wp2_with fail
      refine HI113.out.mono ?_
      rintro e w113 ⟨rfl, hr113, hb113⟩
      have H113 := Lib.hid hr113
      clear hr113
      have HI114 := Lib.hid (blank_wrong' B s _ H113.out)
      go_wp2_with fail
      refine HI114.out.mono ?_
      rintro e w114 ⟨rfl, hr114, hb114⟩
      have H114 := Lib.hid hr114
      clear hr114
      have HI115 := Lib.hid (must_wrong B s 62 _ H114.out)
      go_wp2_with fail
      refine HI115.out.mono ?_
      rintro e w115 ⟨rfl, hr115, hb115⟩
      have H115 := Lib.hid hr115
      clear hr115
      go_wp2
      go_end0
      exact ⟨rfl, H115.out, ((((((hb13.trans hb109).trans hb111).trans hb112).trans hb113).trans hb114).trans hb115).low (Nat.le_of_lt hBlt)⟩
    · rename_i k2 g2 hrn
      have hk2 := (rouE_le (by rw [list_len]; exact hk1) hrn).2
      rw [list_len] at hk2
      rw [hrn] at HROU
      simp only [RouP] at HROU
      unfold angE2 at hR
      split at hR
      · rename_i hb2n
        subst hR
        go_enter Tryz.func120, Tryz.ntmps120
        go_wp2_with fail
        refine HM.out.mono ?_
        rintro e w1 ⟨rfl, hr1, hb1⟩
        have H1 := Lib.hid hr1
        clear hr1
        have HC2 := Lib.hid (blank_some B s (k + 1) k1 v g _ H1.out (by omega) (by omega) hb1n)
        go_wp2_with fail
        refine HC2.out.mono ?_
        rintro e w2 ⟨rfl, hr2, hb2⟩
        have H2 := Lib.hid hr2
        clear hr2
        have hb12 := hb1.trans hb2
        have HC3 := Lib.hid (HROU.out _ H2.out (HE.out.but hb12 hB))
        go_wp2_with fail
        refine HC3.out.mono ?_
        rintro e w3 ⟨rfl, hr3, hb3⟩
        have H3 := Lib.hid hr3
        clear hr3
        have hb13 := hb12.trans hb3
        have HC4 := Lib.hid (blank_none B s k2 v g2 _ H3.out hk2 (by omega) hb2n)
        go_wp2_with fail
        refine HC4.out.mono ?_
        rintro e w4 ⟨rfl, hr4, hb4⟩
        have H4 := Lib.hid hr4
        clear hr4
        have hb14 := hb13.trans hb4
        obtain ⟨k116, v116, l116, -, hq116⟩ := H4.out
        have c1116 := hq116.c1
        clear hq116
        have HI117 := Lib.hid (word_wrong B s _ H4.out)
        go_wp2_with fail
        refine HI117.out.mono ?_
        rintro e w117 ⟨rfl, hr117, hb117⟩
        have H117 := Lib.hid hr117
        clear hr117
        have HI118 := Lib.hid (fail_rw B s _ H117.out)
        go_wp2_with fail
        refine HI118.out.mono ?_
        rintro e w118 ⟨rfl, hr118, hb118⟩
        have H118 := Lib.hid hr118
        clear hr118
        have HI119 := Lib.hid (spot_wrong B s k116 _ H118.out hs)
        go_wp2_with fail
        refine HI119.out.mono ?_
        rintro e w119 ⟨rfl, hr119, hb119⟩
        have H119 := Lib.hid hr119
        clear hr119
        have HI120 := Lib.hid (blank_wrong' B s _ H119.out)
        go_wp2_with fail
        refine HI120.out.mono ?_
        rintro e w120 ⟨rfl, hr120, hb120⟩
        have H120 := Lib.hid hr120
        clear hr120
        have HI121 := Lib.hid (must_wrong B s 62 _ H120.out)
        go_wp2_with fail
        refine HI121.out.mono ?_
        rintro e w121 ⟨rfl, hr121, hb121⟩
        have H121 := Lib.hid hr121
        clear hr121
        go_wp2
        go_end0
        exact ⟨rfl, H121.out, (((((hb14.trans hb117).trans hb118).trans hb119).trans hb120).trans hb121).low (Nat.le_of_lt hBlt)⟩
      · rename_i k3 hb2n
        have hk3 := (blankE_le (by rw [list_len]; exact hk2) hb2n).2
        rw [list_len] at hk3
        split at hR
        · rename_i hwn
          subst hR
          go_enter Tryz.func120, Tryz.ntmps120
          go_wp2_with fail
          refine HM.out.mono ?_
          rintro e w1 ⟨rfl, hr1, hb1⟩
          have H1 := Lib.hid hr1
          clear hr1
          have HC2 := Lib.hid (blank_some B s (k + 1) k1 v g _ H1.out (by omega) (by omega) hb1n)
          go_wp2_with fail
          refine HC2.out.mono ?_
          rintro e w2 ⟨rfl, hr2, hb2⟩
          have H2 := Lib.hid hr2
          clear hr2
          have hb12 := hb1.trans hb2
          have HC3 := Lib.hid (HROU.out _ H2.out (HE.out.but hb12 hB))
          go_wp2_with fail
          refine HC3.out.mono ?_
          rintro e w3 ⟨rfl, hr3, hb3⟩
          have H3 := Lib.hid hr3
          clear hr3
          have hb13 := hb12.trans hb3
          have HC4 := Lib.hid (blank_some B s k2 k3 v g2 _ H3.out hk2 (by omega) hb2n)
          go_wp2_with fail
          refine HC4.out.mono ?_
          rintro e w4 ⟨rfl, hr4, hb4⟩
          have H4 := Lib.hid hr4
          clear hr4
          have hb14 := hb13.trans hb4
          have c14 := H4.out.c1
          have HC5 := Lib.hid (word_none B s k3 v g2 _ H4.out hk3 (by omega) hwn)
          go_wp2_with fail
          refine HC5.out.mono ?_
          rintro e w5 ⟨rfl, hr5, hb5⟩
          have H5 := Lib.hid hr5
          clear hr5
          have hb15 := hb14.trans hb5
          have HI122 := Lib.hid (fail_rw B s _ H5.out)
          go_wp2_with fail
          refine HI122.out.mono ?_
          rintro e w122 ⟨rfl, hr122, hb122⟩
          have H122 := Lib.hid hr122
          clear hr122
          have HI123 := Lib.hid (spot_wrong B s k3 _ H122.out hs)
          go_wp2_with fail
          refine HI123.out.mono ?_
          rintro e w123 ⟨rfl, hr123, hb123⟩
          have H123 := Lib.hid hr123
          clear hr123
          have HI124 := Lib.hid (blank_wrong' B s _ H123.out)
          go_wp2_with fail
          refine HI124.out.mono ?_
          rintro e w124 ⟨rfl, hr124, hb124⟩
          have H124 := Lib.hid hr124
          clear hr124
          have HI125 := Lib.hid (must_wrong B s 62 _ H124.out)
          go_wp2_with fail
          refine HI125.out.mono ?_
          rintro e w125 ⟨rfl, hr125, hb125⟩
          have H125 := Lib.hid hr125
          clear hr125
          go_wp2
          go_end0
          exact ⟨rfl, H125.out, ((((hb15.trans hb122).trans hb123).trans hb124).trans hb125).low (Nat.le_of_lt hBlt)⟩
        · rename_i ew hwn
          have hew := wordE_le (by rw [list_len]; exact hk3) hwn
          rw [list_len] at hew
          by_cases hlt2 : k3 < ew
          · have hd : decide (k3 < ew) = true := by simpa using hlt2
            split at hR
            · rename_i han
              subst hR
              go_enter Tryz.func120, Tryz.ntmps120
              go_wp2_with fail
              refine HM.out.mono ?_
              rintro e w1 ⟨rfl, hr1, hb1⟩
              have H1 := Lib.hid hr1
              clear hr1
              have HC2 := Lib.hid (blank_some B s (k + 1) k1 v g _ H1.out (by omega) (by omega) hb1n)
              go_wp2_with fail
              refine HC2.out.mono ?_
              rintro e w2 ⟨rfl, hr2, hb2⟩
              have H2 := Lib.hid hr2
              clear hr2
              have hb12 := hb1.trans hb2
              have HC3 := Lib.hid (HROU.out _ H2.out (HE.out.but hb12 hB))
              go_wp2_with fail
              refine HC3.out.mono ?_
              rintro e w3 ⟨rfl, hr3, hb3⟩
              have H3 := Lib.hid hr3
              clear hr3
              have hb13 := hb12.trans hb3
              have HC4 := Lib.hid (blank_some B s k2 k3 v g2 _ H3.out hk2 (by omega) hb2n)
              go_wp2_with fail
              refine HC4.out.mono ?_
              rintro e w4 ⟨rfl, hr4, hb4⟩
              have H4 := Lib.hid hr4
              clear hr4
              have hb14 := hb13.trans hb4
              have c14 := H4.out.c1
              have HC5 := Lib.hid (word_some B s k3 ew v g2 _ H4.out hk3 (by omega) (HE.out.but hb14 hB) hB hwn)
              go_wp2_with fail
              refine HC5.out.mono ?_
              rintro e w5 ⟨rfl, hr5, hb5⟩
              have H5 := Lib.hid hr5
              clear hr5
              have hb15 := hb14.trans hb5
              have HZ5 : RZ B s ew (sp, g2) w5 := ⟨v, H5.out, own_but HO.out hb15⟩
              have HC6 := Lib.hid (spot_none B s k3 ew (sp, g2) _ HZ5 hew.2 hs (HE.out.but hb15 hB) hB hst hlt2 han)
              go_wp2_with fail
              refine HC6.out.mono ?_
              rintro e w6 ⟨rfl, hr6, hb6⟩
              have H6 := Lib.hid hr6
              clear hr6
              have HI126 := Lib.hid (blank_wrong' B s _ H6.out)
              go_wp2_with fail
              refine HI126.out.mono ?_
              rintro e w126 ⟨rfl, hr126, hb126⟩
              have H126 := Lib.hid hr126
              clear hr126
              have HI127 := Lib.hid (must_wrong B s 62 _ H126.out)
              go_wp2_with fail
              refine HI127.out.mono ?_
              rintro e w127 ⟨rfl, hr127, hb127⟩
              have H127 := Lib.hid hr127
              clear hr127
              have hl6 := hb6.trans (hb126.low (Nat.le_trans (Nat.le_of_lt HZ5.lt) hb6.size))
              have hl7 := hl6.trans (hb127.low (Nat.le_trans (Nat.le_of_lt HZ5.lt) hl6.size))
              go_wp2
              go_end0
              exact ⟨rfl, H127.out, (hb15.low (Nat.le_of_lt hBlt)).trans hl7⟩
            · rename_i k4 st4 han
              have hk4 := addrE_le han
              rw [list_len] at hk4
              unfold closE at hR
              have HSP := Lib.hid (fun W (h : RZ B s ew (sp, g2) W) (hE : Env W) => spot_some B s k3 ew k4 (sp, g2) st4 W h hs hE hB hst han)
              split at hR
              · rename_i hbn
                subst hR
                go_enter Tryz.func120, Tryz.ntmps120
                go_wp2_with fail
                refine HM.out.mono ?_
                rintro e w1 ⟨rfl, hr1, hb1⟩
                have H1 := Lib.hid hr1
                clear hr1
                have HC2 := Lib.hid (blank_some B s (k + 1) k1 v g _ H1.out (by omega) (by omega) hb1n)
                go_wp2_with fail
                refine HC2.out.mono ?_
                rintro e w2 ⟨rfl, hr2, hb2⟩
                have H2 := Lib.hid hr2
                clear hr2
                have hb12 := hb1.trans hb2
                have HC3 := Lib.hid (HROU.out _ H2.out (HE.out.but hb12 hB))
                go_wp2_with fail
                refine HC3.out.mono ?_
                rintro e w3 ⟨rfl, hr3, hb3⟩
                have H3 := Lib.hid hr3
                clear hr3
                have hb13 := hb12.trans hb3
                have HC4 := Lib.hid (blank_some B s k2 k3 v g2 _ H3.out hk2 (by omega) hb2n)
                go_wp2_with fail
                refine HC4.out.mono ?_
                rintro e w4 ⟨rfl, hr4, hb4⟩
                have H4 := Lib.hid hr4
                clear hr4
                have hb14 := hb13.trans hb4
                have c14 := H4.out.c1
                have HC5 := Lib.hid (word_some B s k3 ew v g2 _ H4.out hk3 (by omega) (HE.out.but hb14 hB) hB hwn)
                go_wp2_with fail
                refine HC5.out.mono ?_
                rintro e w5 ⟨rfl, hr5, hb5⟩
                have H5 := Lib.hid hr5
                clear hr5
                have hb15 := hb14.trans hb5
                have HZ5 : RZ B s ew (sp, g2) w5 := ⟨v, H5.out, own_but HO.out hb15⟩
                have HC6 := Lib.hid (HSP.out _ HZ5 (HE.out.but hb15 hB))
                go_wp2_with fail
                refine HC6.out.mono ?_
                rintro e w6 ⟨rfl, hr6, hb6⟩
                have H6 := Lib.hid hr6
                clear hr6
                obtain ⟨v6, hr6, ho6⟩ := H6.out
                have H6S := Lib.hid hr6
                have H6O := Lib.hid ho6
                clear hr6 ho6
                have HC7 := Lib.hid (blank_none B s k4 v6 st4.2 _ H6S.out hk4.2.2 (by omega) hbn)
                go_wp2_with fail
                refine HC7.out.mono ?_
                rintro e w7 ⟨rfl, hr7, hb7⟩
                have H7 := Lib.hid hr7
                clear hr7
                have HI128 := Lib.hid (must_wrong B s 62 _ H7.out)
                go_wp2_with fail
                refine HI128.out.mono ?_
                rintro e w128 ⟨rfl, hr128, hb128⟩
                have H128 := Lib.hid hr128
                clear hr128
                have hl6 := hb6.trans (hb7.low (Nat.le_of_lt H6S.out.lt))
                have hl7 := hl6.trans (hb128.low (Nat.le_trans (Nat.le_of_lt HZ5.lt) hl6.size))
                go_wp2
                go_end0
                exact ⟨rfl, H128.out, (hb15.low (Nat.le_of_lt hBlt)).trans hl7⟩
              · rename_i k5 hbn
                have hk5 := (blankE_le (by rw [list_len]; exact hk4.2.2) hbn).2
                rw [list_len] at hk5
                split at hR
                · rename_i h62
                  subst hR
                  go_enter Tryz.func120, Tryz.ntmps120
                  go_wp2_with fail
                  refine HM.out.mono ?_
                  rintro e w1 ⟨rfl, hr1, hb1⟩
                  have H1 := Lib.hid hr1
                  clear hr1
                  have HC2 := Lib.hid (blank_some B s (k + 1) k1 v g _ H1.out (by omega) (by omega) hb1n)
                  go_wp2_with fail
                  refine HC2.out.mono ?_
                  rintro e w2 ⟨rfl, hr2, hb2⟩
                  have H2 := Lib.hid hr2
                  clear hr2
                  have hb12 := hb1.trans hb2
                  have HC3 := Lib.hid (HROU.out _ H2.out (HE.out.but hb12 hB))
                  go_wp2_with fail
                  refine HC3.out.mono ?_
                  rintro e w3 ⟨rfl, hr3, hb3⟩
                  have H3 := Lib.hid hr3
                  clear hr3
                  have hb13 := hb12.trans hb3
                  have HC4 := Lib.hid (blank_some B s k2 k3 v g2 _ H3.out hk2 (by omega) hb2n)
                  go_wp2_with fail
                  refine HC4.out.mono ?_
                  rintro e w4 ⟨rfl, hr4, hb4⟩
                  have H4 := Lib.hid hr4
                  clear hr4
                  have hb14 := hb13.trans hb4
                  have c14 := H4.out.c1
                  have HC5 := Lib.hid (word_some B s k3 ew v g2 _ H4.out hk3 (by omega) (HE.out.but hb14 hB) hB hwn)
                  go_wp2_with fail
                  refine HC5.out.mono ?_
                  rintro e w5 ⟨rfl, hr5, hb5⟩
                  have H5 := Lib.hid hr5
                  clear hr5
                  have hb15 := hb14.trans hb5
                  have HZ5 : RZ B s ew (sp, g2) w5 := ⟨v, H5.out, own_but HO.out hb15⟩
                  have HC6 := Lib.hid (HSP.out _ HZ5 (HE.out.but hb15 hB))
                  go_wp2_with fail
                  refine HC6.out.mono ?_
                  rintro e w6 ⟨rfl, hr6, hb6⟩
                  have H6 := Lib.hid hr6
                  clear hr6
                  obtain ⟨v6, hr6, ho6⟩ := H6.out
                  have H6S := Lib.hid hr6
                  have H6O := Lib.hid ho6
                  clear hr6 ho6
                  have HC7 := Lib.hid (blank_some B s k4 k5 v6 st4.2 _ H6S.out hk4.2.2 (by omega) hbn)
                  go_wp2_with fail
                  refine HC7.out.mono ?_
                  rintro e w7 ⟨rfl, hr7, hb7⟩
                  have H7 := Lib.hid hr7
                  clear hr7
                  have HC8 := Lib.hid (must_at B s k5 v6 st4.2 62 _ H7.out (by omega) h62)
                  go_wp2_with fail
                  refine HC8.out.mono ?_
                  rintro e w8 ⟨rfl, hr8, hb8⟩
                  have H8 := Lib.hid hr8
                  clear hr8
                  have hl6 := hb6.trans ((hb7.trans hb8).low (Nat.le_of_lt H6S.out.lt))
                  go_wp2
                  go_end0
                  exact ⟨rfl, ⟨v6, H8.out, own_but H6O.out (hb7.trans hb8)⟩, (hb15.low (Nat.le_of_lt hBlt)).trans hl6⟩
                · rename_i h62
                  subst hR
                  go_enter Tryz.func120, Tryz.ntmps120
                  go_wp2_with fail
                  refine HM.out.mono ?_
                  rintro e w1 ⟨rfl, hr1, hb1⟩
                  have H1 := Lib.hid hr1
                  clear hr1
                  have HC2 := Lib.hid (blank_some B s (k + 1) k1 v g _ H1.out (by omega) (by omega) hb1n)
                  go_wp2_with fail
                  refine HC2.out.mono ?_
                  rintro e w2 ⟨rfl, hr2, hb2⟩
                  have H2 := Lib.hid hr2
                  clear hr2
                  have hb12 := hb1.trans hb2
                  have HC3 := Lib.hid (HROU.out _ H2.out (HE.out.but hb12 hB))
                  go_wp2_with fail
                  refine HC3.out.mono ?_
                  rintro e w3 ⟨rfl, hr3, hb3⟩
                  have H3 := Lib.hid hr3
                  clear hr3
                  have hb13 := hb12.trans hb3
                  have HC4 := Lib.hid (blank_some B s k2 k3 v g2 _ H3.out hk2 (by omega) hb2n)
                  go_wp2_with fail
                  refine HC4.out.mono ?_
                  rintro e w4 ⟨rfl, hr4, hb4⟩
                  have H4 := Lib.hid hr4
                  clear hr4
                  have hb14 := hb13.trans hb4
                  have c14 := H4.out.c1
                  have HC5 := Lib.hid (word_some B s k3 ew v g2 _ H4.out hk3 (by omega) (HE.out.but hb14 hB) hB hwn)
                  go_wp2_with fail
                  refine HC5.out.mono ?_
                  rintro e w5 ⟨rfl, hr5, hb5⟩
                  have H5 := Lib.hid hr5
                  clear hr5
                  have hb15 := hb14.trans hb5
                  have HZ5 : RZ B s ew (sp, g2) w5 := ⟨v, H5.out, own_but HO.out hb15⟩
                  have HC6 := Lib.hid (HSP.out _ HZ5 (HE.out.but hb15 hB))
                  go_wp2_with fail
                  refine HC6.out.mono ?_
                  rintro e w6 ⟨rfl, hr6, hb6⟩
                  have H6 := Lib.hid hr6
                  clear hr6
                  obtain ⟨v6, hr6, ho6⟩ := H6.out
                  have H6S := Lib.hid hr6
                  have H6O := Lib.hid ho6
                  clear hr6 ho6
                  have HC7 := Lib.hid (blank_some B s k4 k5 v6 st4.2 _ H6S.out hk4.2.2 (by omega) hbn)
                  go_wp2_with fail
                  refine HC7.out.mono ?_
                  rintro e w7 ⟨rfl, hr7, hb7⟩
                  have H7 := Lib.hid hr7
                  clear hr7
                  have HC8 := Lib.hid (must_not B s k5 v6 st4.2 62 _ H7.out hk5 (by omega) h62)
                  go_wp2_with fail
                  refine HC8.out.mono ?_
                  rintro e w8 ⟨rfl, hr8, hb8⟩
                  have H8 := Lib.hid hr8
                  clear hr8
                  have hl6 := hb6.trans ((hb7.trans hb8).low (Nat.le_of_lt H6S.out.lt))
                  go_wp2
                  go_end0
                  exact ⟨rfl, H8.out, (hb15.low (Nat.le_of_lt hBlt)).trans hl6⟩
          · have hd : decide (k3 < ew) = false := by simpa using hlt2
            have han : addrE s.data.toList k3 ew (sp, g2) = none := by unfold addrE; rw [if_pos (by omega)]
            rw [han] at hR
            simp only at hR
            subst hR
            go_enter Tryz.func120, Tryz.ntmps120
            go_wp2_with fail
            refine HM.out.mono ?_
            rintro e w1 ⟨rfl, hr1, hb1⟩
            have H1 := Lib.hid hr1
            clear hr1
            have HC2 := Lib.hid (blank_some B s (k + 1) k1 v g _ H1.out (by omega) (by omega) hb1n)
            go_wp2_with fail
            refine HC2.out.mono ?_
            rintro e w2 ⟨rfl, hr2, hb2⟩
            have H2 := Lib.hid hr2
            clear hr2
            have hb12 := hb1.trans hb2
            have HC3 := Lib.hid (HROU.out _ H2.out (HE.out.but hb12 hB))
            go_wp2_with fail
            refine HC3.out.mono ?_
            rintro e w3 ⟨rfl, hr3, hb3⟩
            have H3 := Lib.hid hr3
            clear hr3
            have hb13 := hb12.trans hb3
            have HC4 := Lib.hid (blank_some B s k2 k3 v g2 _ H3.out hk2 (by omega) hb2n)
            go_wp2_with fail
            refine HC4.out.mono ?_
            rintro e w4 ⟨rfl, hr4, hb4⟩
            have H4 := Lib.hid hr4
            clear hr4
            have hb14 := hb13.trans hb4
            have c14 := H4.out.c1
            have HC5 := Lib.hid (word_some B s k3 ew v g2 _ H4.out hk3 (by omega) (HE.out.but hb14 hB) hB hwn)
            go_wp2_with fail
            refine HC5.out.mono ?_
            rintro e w5 ⟨rfl, hr5, hb5⟩
            have H5 := Lib.hid hr5
            clear hr5
            have hb15 := hb14.trans hb5
            have HI129 := Lib.hid (fail_wrong B s ew v false g2 _ H5.out hew.2)
            go_wp2_with fail
            refine HI129.out.mono ?_
            rintro e w129 ⟨rfl, hr129, hb129⟩
            have H129 := Lib.hid hr129
            clear hr129
            have HI130 := Lib.hid (spot_wrong B s k3 _ H129.out hs)
            go_wp2_with fail
            refine HI130.out.mono ?_
            rintro e w130 ⟨rfl, hr130, hb130⟩
            have H130 := Lib.hid hr130
            clear hr130
            have HI131 := Lib.hid (blank_wrong' B s _ H130.out)
            go_wp2_with fail
            refine HI131.out.mono ?_
            rintro e w131 ⟨rfl, hr131, hb131⟩
            have H131 := Lib.hid hr131
            clear hr131
            have HI132 := Lib.hid (must_wrong B s 62 _ H131.out)
            go_wp2_with fail
            refine HI132.out.mono ?_
            rintro e w132 ⟨rfl, hr132, hb132⟩
            have H132 := Lib.hid hr132
            clear hr132
            go_wp2
            go_end0
            exact ⟨rfl, H132.out, ((((hb15.trans hb129).trans hb130).trans hb131).trans hb132).low (Nat.le_of_lt hBlt)⟩
end Go.Proofs.YtffngbjnbigipaaGreatDoor
