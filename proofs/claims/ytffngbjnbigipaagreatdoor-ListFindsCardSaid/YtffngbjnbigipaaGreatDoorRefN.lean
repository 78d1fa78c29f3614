/- The document's lists: its function angle. -/
import Derived.Test.YtffngbjnbigipaaGreatDoorRefR
namespace Go.Proofs.YtffngbjnbigipaaGreatDoor
open Go.RowKit Go.Lib
set_option linter.unusedSimpArgs false
set_option linter.unusedVariables false
set_option linter.unnecessarySimpa false
set_option maxRecDepth 100000

set_option maxHeartbeats 4000000 in
theorem angle_ref (B : Nat) (s : ByteArray) (k : Nat) (st : LSt) (w : World) (h : RO B st w) (hk : k ≤ s.size) (hs : s.size ≤ 900000000) (hst : st.1.length ≤ 1000000000000) :
    Calls Tryz.prog 126 #[.pointer (some ⟨B, 0, none⟩), .string s, .int .i64 (k : Int)] w fun e w' => e = .returned (.int .i64 (endP (angleE s.data.toList k st))) ∧ AdP B (angleE s.data.toList k st) w' ∧ Below B w w' := by
  obtain ⟨sp, g⟩ := st
  simp only at hst
  have hR : angleE s.data.toList k (sp, g) = angleE s.data.toList k (sp, g) := rfl
  conv at hR => rhs; unfold angleE
  generalize angleE s.data.toList k (sp, g) = R at hR ⊢
  have HO := Lib.hid h
  clear h
  have HBL := Lib.hid (fun W => blank_ref2 s k hk hs W)
  cases hb1 : blankE s.data.toList k with
  | none =>
    rw [hb1] at HBL hR
    simp only [endI] at HBL hR
    have HRN := Lib.hid hR
    clear hR hb1
    go_enter Tryz.func126, Tryz.ntmps126
    go_wp2_with fail
    refine (HBL.out _).mono ?_
    rintro e w1 ⟨rfl, hw1⟩
    rw [hw1]
    clear hw1
    go_wp2
    go_ret
    rw [HRN.out]
    exact ⟨rfl, trivial, Below.refl _ _⟩
  | some k1 =>
    have hk1 := (blankE_le (by rw [list_len]; exact hk) hb1).2
    rw [list_len] at hk1
    rw [hb1] at HBL hR
    simp only [endI] at HBL hR
    have hn1 : ¬ (k1 : Int) < 0 := by omega
    have HA := Lib.hid (fun W => at_ref s k1 (by omega) (by omega) W)
    clear hb1
    by_cases h64 : s.data.toList[k1]? = some 64
    · have hrou : rouE s.data.toList k1 g = routeE (s.data.toList.length + 1) s.data.toList k1 g := by unfold rouE; rw [if_pos h64]
      rw [nextB_yes h64] at HA
      have hq : (((64 : UInt8).toNat : Int) == 64) = true := rfl
      have HRO := Lib.hid (fun W (h : RO B (sp, g) W) => route_ref B s k1 sp g W h hk1 hs)
      rw [← hrou] at HRO
      clear h64 hrou
      cases hro : rouE s.data.toList k1 g with
      | none =>
        rw [hro] at HRO hR
        simp only [rouP, endP, AdP] at HRO hR
        have HRN := Lib.hid hR
        clear hR hro
        go_enter Tryz.func126, Tryz.ntmps126
        go_wp2_with fail
        refine (HBL.out _).mono ?_
        rintro e w1 ⟨rfl, hw1⟩
        rw [hw1]
        clear hw1
        go_wp2_with fail
        refine (HA.out _).mono ?_
        rintro e w2 ⟨rfl, hw2⟩
        rw [hw2]
        clear hw2
        go_wp2_with fail
        refine (HRO.out _ HO.out).mono ?_
        rintro e w8 ⟨rfl, hr8, hb8⟩
        have HX8 := Lib.hid hr8
        have HB8 := Lib.hid hb8
        clear hr8 hb8
        go_wp2
        go_ret
        rw [HRN.out]
        exact ⟨rfl, trivial, HB8.out⟩
      | some p =>
        obtain ⟨k2, g2⟩ := p
        have hk2 := (rouE_le (by rw [list_len]; exact hk1) hro).2
        rw [list_len] at hk2
        rw [hro] at HRO hR
        simp only [rouP, endP, AdP] at HRO hR
        have hn2 : ¬ (k2 : Int) < 0 := by omega
        clear hro
        unfold angE2 at hR
        have HBL2 := Lib.hid (fun W => blank_ref2 s k2 hk2 hs W)
        cases hb2 : blankE s.data.toList k2 with
        | none =>
          rw [hb2] at HBL2 hR
          simp only [endI] at HBL2 hR
          have HRN := Lib.hid hR
          clear hR hb2
          go_enter Tryz.func126, Tryz.ntmps126
          go_wp2_with fail
          refine (HBL.out _).mono ?_
          rintro e w1 ⟨rfl, hw1⟩
          rw [hw1]
          clear hw1
          go_wp2_with fail
          refine (HA.out _).mono ?_
          rintro e w2 ⟨rfl, hw2⟩
          rw [hw2]
          clear hw2
          go_wp2_with fail
          refine (HRO.out _ HO.out).mono ?_
          rintro e w8 ⟨rfl, hr8, hb8⟩
          have HX8 := Lib.hid hr8
          have HB8 := Lib.hid hb8
          clear hr8 hb8
          go_wp2_with fail
          refine (HBL2.out _).mono ?_
          rintro e w3 ⟨rfl, hw3⟩
          rw [hw3]
          clear hw3
          go_wp2
          go_ret
          rw [HRN.out]
          exact ⟨rfl, trivial, HB8.out⟩
        | some k3 =>
          have hk3 := (blankE_le (by rw [list_len]; exact hk2) hb2).2
          rw [list_len] at hk3
          rw [hb2] at HBL2 hR
          simp only [endI] at HBL2 hR
          have hn3 : ¬ (k3 : Int) < 0 := by omega
          have HWD := Lib.hid (fun W => word_ref2 s k3 hk3 hs W)
          clear hb2
          cases hwd : wordE s.data.toList k3 with
          | none =>
            rw [hwd] at HWD hR
            simp only [endI] at HWD hR
            have HRN := Lib.hid hR
            clear hR hwd
            go_enter Tryz.func126, Tryz.ntmps126
            go_wp2_with fail
            refine (HBL.out _).mono ?_
            rintro e w1 ⟨rfl, hw1⟩
            rw [hw1]
            clear hw1
            go_wp2_with fail
            refine (HA.out _).mono ?_
            rintro e w2 ⟨rfl, hw2⟩
            rw [hw2]
            clear hw2
            go_wp2_with fail
            refine (HRO.out _ HO.out).mono ?_
            rintro e w8 ⟨rfl, hr8, hb8⟩
            have HX8 := Lib.hid hr8
            have HB8 := Lib.hid hb8
            clear hr8 hb8
            go_wp2_with fail
            refine (HBL2.out _).mono ?_
            rintro e w3 ⟨rfl, hw3⟩
            rw [hw3]
            clear hw3
            go_wp2_with fail
            refine (HWD.out _).mono ?_
            rintro e w4 ⟨rfl, hw4⟩
            rw [hw4]
            clear hw4
            go_wp2
            go_ret
            rw [HRN.out]
            exact ⟨rfl, trivial, HB8.out⟩
          | some ew =>
            have hew := wordE_le (by rw [list_len]; exact hk3) hwd
            rw [list_len] at hew
            rw [hwd] at HWD hR
            simp only [endI] at HWD hR
            have hn4 : ¬ (ew : Int) < 0 := by omega
            have HAD := Lib.hid (fun W (h : RO B (sp, g2) W) => address_any B s k3 ew (sp, g2) W h hew.2 hs hst)
            clear hwd
            cases had : addrE s.data.toList k3 ew (sp, g2) with
            | none =>
              rw [had] at HAD hR
              simp only [endP, AdP] at HAD hR
              have HRN := Lib.hid hR
              clear hR had
              go_enter Tryz.func126, Tryz.ntmps126
              go_wp2_with fail
              refine (HBL.out _).mono ?_
              rintro e w1 ⟨rfl, hw1⟩
              rw [hw1]
              clear hw1
              go_wp2_with fail
              refine (HA.out _).mono ?_
              rintro e w2 ⟨rfl, hw2⟩
              rw [hw2]
              clear hw2
              go_wp2_with fail
              refine (HRO.out _ HO.out).mono ?_
              rintro e w8 ⟨rfl, hr8, hb8⟩
              have HX8 := Lib.hid hr8
              have HB8 := Lib.hid hb8
              clear hr8 hb8
              go_wp2_with fail
              refine (HBL2.out _).mono ?_
              rintro e w3 ⟨rfl, hw3⟩
              rw [hw3]
              clear hw3
              go_wp2_with fail
              refine (HWD.out _).mono ?_
              rintro e w4 ⟨rfl, hw4⟩
              rw [hw4]
              clear hw4
              go_wp2_with fail
              refine (HAD.out _ HX8.out).mono ?_
              rintro e w5 ⟨rfl, hr5, hb5⟩
              have HX5 := Lib.hid hr5
              have HB5 := Lib.hid hb5
              clear hr5 hb5
              go_wp2
              go_ret
              rw [HRN.out]
              exact ⟨rfl, trivial, (HB8.out).trans HB5.out⟩
            | some p =>
              obtain ⟨k4, st4⟩ := p
              have hk4 := addrE_le had
              rw [list_len] at hk4
              rw [had] at HAD hR
              simp only [endP, AdP] at HAD hR
              have hn5 : ¬ (k4 : Int) < 0 := by omega
              have HBL5 := Lib.hid (fun W => blank_ref2 s k4 hk4.2.2 hs W)
              unfold closE at hR
              clear had
              cases hb5 : blankE s.data.toList k4 with
              | none =>
                rw [hb5] at HBL5 hR
                simp only [endI] at HBL5 hR
                have HRN := Lib.hid hR
                clear hR hb5
                go_enter Tryz.func126, Tryz.ntmps126
                go_wp2_with fail
                refine (HBL.out _).mono ?_
                rintro e w1 ⟨rfl, hw1⟩
                rw [hw1]
                clear hw1
                go_wp2_with fail
                refine (HA.out _).mono ?_
                rintro e w2 ⟨rfl, hw2⟩
                rw [hw2]
                clear hw2
                go_wp2_with fail
                refine (HRO.out _ HO.out).mono ?_
                rintro e w8 ⟨rfl, hr8, hb8⟩
                have HX8 := Lib.hid hr8
                have HB8 := Lib.hid hb8
                clear hr8 hb8
                go_wp2_with fail
                refine (HBL2.out _).mono ?_
                rintro e w3 ⟨rfl, hw3⟩
                rw [hw3]
                clear hw3
                go_wp2_with fail
                refine (HWD.out _).mono ?_
                rintro e w4 ⟨rfl, hw4⟩
                rw [hw4]
                clear hw4
                go_wp2_with fail
                refine (HAD.out _ HX8.out).mono ?_
                rintro e w5 ⟨rfl, hr5, hb5⟩
                have HX5 := Lib.hid hr5
                have HB5 := Lib.hid hb5
                clear hr5 hb5
                go_wp2_with fail
                refine (HBL5.out _).mono ?_
                rintro e w6 ⟨rfl, hw6⟩
                rw [hw6]
                clear hw6
                go_wp2
                go_ret
                rw [HRN.out]
                exact ⟨rfl, trivial, (HB8.out).trans HB5.out⟩
              | some k5 =>
                have hk5 := (blankE_le (by rw [list_len]; exact hk4.2.2) hb5).2
                rw [list_len] at hk5
                rw [hb5] at HBL5 hR
                simp only [endI] at HBL5 hR
                have hn6 : ¬ (k5 : Int) < 0 := by omega
                have hwk : IntKind.i64.wrap ((k5 : Int) + 1) = ((k5 + 1 : Nat) : Int) := by rw [IntKind.wrap_i64]; omega
                have HA6 := Lib.hid (fun W => at_ref s k5 (by omega) (by omega) W)
                clear hb5
                by_cases h62 : s.data.toList[k5]? = some 62
                · rw [if_pos h62] at hR
                  rw [nextB_yes h62] at HA6
                  have hq6 : (((62 : UInt8).toNat : Int) != 62) = false := rfl
                  have HRN := Lib.hid hR
                  clear hR h62
                  go_enter Tryz.func126, Tryz.ntmps126
                  go_wp2_with fail
                  refine (HBL.out _).mono ?_
                  rintro e w1 ⟨rfl, hw1⟩
                  rw [hw1]
                  clear hw1
                  go_wp2_with fail
                  refine (HA.out _).mono ?_
                  rintro e w2 ⟨rfl, hw2⟩
                  rw [hw2]
                  clear hw2
                  go_wp2_with fail
                  refine (HRO.out _ HO.out).mono ?_
                  rintro e w8 ⟨rfl, hr8, hb8⟩
                  have HX8 := Lib.hid hr8
                  have HB8 := Lib.hid hb8
                  clear hr8 hb8
                  go_wp2_with fail
                  refine (HBL2.out _).mono ?_
                  rintro e w3 ⟨rfl, hw3⟩
                  rw [hw3]
                  clear hw3
                  go_wp2_with fail
                  refine (HWD.out _).mono ?_
                  rintro e w4 ⟨rfl, hw4⟩
                  rw [hw4]
                  clear hw4
                  go_wp2_with fail
                  refine (HAD.out _ HX8.out).mono ?_
                  rintro e w5 ⟨rfl, hr5, hb5⟩
                  have HX5 := Lib.hid hr5
                  have HB5 := Lib.hid hb5
                  clear hr5 hb5
                  go_wp2_with fail
                  refine (HBL5.out _).mono ?_
                  rintro e w6 ⟨rfl, hw6⟩
                  rw [hw6]
                  clear hw6
                  go_wp2_with fail
                  refine (HA6.out _).mono ?_
                  rintro e w7 ⟨rfl, hw7⟩
                  rw [hw7]
                  clear hw7
                  go_wp2
                  go_ret
                  rw [HRN.out]
                  exact ⟨rfl, HX5.out, (HB8.out).trans HB5.out⟩
                · rw [if_neg h62] at hR
                  have hq6 : ((nextB s.data.toList k5 : Int) != 62) = true := by have := int_ne (nextB_no h62 (by decide)); simpa [bne] using this
                  generalize nextB s.data.toList k5 = nb6 at HA6 hq6
                  have HRN := Lib.hid hR
                  clear hR h62
                  go_enter Tryz.func126, Tryz.ntmps126
                  go_wp2_with fail
                  refine (HBL.out _).mono ?_
                  rintro e w1 ⟨rfl, hw1⟩
                  rw [hw1]
                  clear hw1
                  go_wp2_with fail
                  refine (HA.out _).mono ?_
                  rintro e w2 ⟨rfl, hw2⟩
                  rw [hw2]
                  clear hw2
                  go_wp2_with fail
                  refine (HRO.out _ HO.out).mono ?_
                  rintro e w8 ⟨rfl, hr8, hb8⟩
                  have HX8 := Lib.hid hr8
                  have HB8 := Lib.hid hb8
                  clear hr8 hb8
                  go_wp2_with fail
                  refine (HBL2.out _).mono ?_
                  rintro e w3 ⟨rfl, hw3⟩
                  rw [hw3]
                  clear hw3
                  go_wp2_with fail
                  refine (HWD.out _).mono ?_
                  rintro e w4 ⟨rfl, hw4⟩
                  rw [hw4]
                  clear hw4
                  go_wp2_with fail
                  refine (HAD.out _ HX8.out).mono ?_
                  rintro e w5 ⟨rfl, hr5, hb5⟩
                  have HX5 := Lib.hid hr5
                  have HB5 := Lib.hid hb5
                  clear hr5 hb5
                  go_wp2_with fail
                  refine (HBL5.out _).mono ?_
                  rintro e w6 ⟨rfl, hw6⟩
                  rw [hw6]
                  clear hw6
                  go_wp2_with fail
                  refine (HA6.out _).mono ?_
                  rintro e w7 ⟨rfl, hw7⟩
                  rw [hw7]
                  clear hw7
                  go_wp2
                  go_ret
                  rw [HRN.out]
                  exact ⟨rfl, trivial, (HB8.out).trans HB5.out⟩
    · have hrou : rouE s.data.toList k1 g = some (k1, g) := by unfold rouE; rw [if_neg h64]
      have hq : ((nextB s.data.toList k1 : Int) == 64) = false := int_ne (nextB_no h64 (by decide))
      generalize nextB s.data.toList k1 = nb at HA hq
      rw [hrou] at hR
      simp only at hR
      clear h64 hrou
      unfold angE2 at hR
      have HBL2 := Lib.hid (fun W => blank_ref2 s k1 hk1 hs W)
      cases hb2 : blankE s.data.toList k1 with
      | none =>
        rw [hb2] at HBL2 hR
        simp only [endI] at HBL2 hR
        have HRN := Lib.hid hR
        clear hR hb2
        go_enter Tryz.func126, Tryz.ntmps126
        go_wp2_with fail
        refine (HBL.out _).mono ?_
        rintro e w1 ⟨rfl, hw1⟩
        rw [hw1]
        clear hw1
        go_wp2_with fail
        refine (HA.out _).mono ?_
        rintro e w2 ⟨rfl, hw2⟩
        rw [hw2]
        clear hw2
        go_wp2_with fail
        refine (HBL2.out _).mono ?_
        rintro e w3 ⟨rfl, hw3⟩
        rw [hw3]
        clear hw3
        go_wp2
        go_ret
        rw [HRN.out]
        exact ⟨rfl, trivial, (Below.refl _ _)⟩
      | some k3 =>
        have hk3 := (blankE_le (by rw [list_len]; exact hk1) hb2).2
        rw [list_len] at hk3
        rw [hb2] at HBL2 hR
        simp only [endI] at HBL2 hR
        have hn3 : ¬ (k3 : Int) < 0 := by omega
        have HWD := Lib.hid (fun W => word_ref2 s k3 hk3 hs W)
        clear hb2
        cases hwd : wordE s.data.toList k3 with
        | none =>
          rw [hwd] at HWD hR
          simp only [endI] at HWD hR
          have HRN := Lib.hid hR
          clear hR hwd
          go_enter Tryz.func126, Tryz.ntmps126
          go_wp2_with fail
          refine (HBL.out _).mono ?_
          rintro e w1 ⟨rfl, hw1⟩
          rw [hw1]
          clear hw1
          go_wp2_with fail
          refine (HA.out _).mono ?_
          rintro e w2 ⟨rfl, hw2⟩
          rw [hw2]
          clear hw2
          go_wp2_with fail
          refine (HBL2.out _).mono ?_
          rintro e w3 ⟨rfl, hw3⟩
          rw [hw3]
          clear hw3
          go_wp2_with fail
          refine (HWD.out _).mono ?_
          rintro e w4 ⟨rfl, hw4⟩
          rw [hw4]
          clear hw4
          go_wp2
          go_ret
          rw [HRN.out]
          exact ⟨rfl, trivial, (Below.refl _ _)⟩
        | some ew =>
          have hew := wordE_le (by rw [list_len]; exact hk3) hwd
          rw [list_len] at hew
          rw [hwd] at HWD hR
          simp only [endI] at HWD hR
          have hn4 : ¬ (ew : Int) < 0 := by omega
          have HAD := Lib.hid (fun W (h : RO B (sp, g) W) => address_any B s k3 ew (sp, g) W h hew.2 hs hst)
          clear hwd
          cases had : addrE s.data.toList k3 ew (sp, g) with
          | none =>
            rw [had] at HAD hR
            simp only [endP, AdP] at HAD hR
            have HRN := Lib.hid hR
            clear hR had
            go_enter Tryz.func126, Tryz.ntmps126
            go_wp2_with fail
            refine (HBL.out _).mono ?_
            rintro e w1 ⟨rfl, hw1⟩
            rw [hw1]
            clear hw1
            go_wp2_with fail
            refine (HA.out _).mono ?_
            rintro e w2 ⟨rfl, hw2⟩
            rw [hw2]
            clear hw2
            go_wp2_with fail
            refine (HBL2.out _).mono ?_
            rintro e w3 ⟨rfl, hw3⟩
            rw [hw3]
            clear hw3
            go_wp2_with fail
            refine (HWD.out _).mono ?_
            rintro e w4 ⟨rfl, hw4⟩
            rw [hw4]
            clear hw4
            go_wp2_with fail
            refine (HAD.out _ HO.out).mono ?_
            rintro e w5 ⟨rfl, hr5, hb5⟩
            have HX5 := Lib.hid hr5
            have HB5 := Lib.hid hb5
            clear hr5 hb5
            go_wp2
            go_ret
            rw [HRN.out]
            exact ⟨rfl, trivial, ((Below.refl _ _)).trans HB5.out⟩
          | some p =>
            obtain ⟨k4, st4⟩ := p
            have hk4 := addrE_le had
            rw [list_len] at hk4
            rw [had] at HAD hR
            simp only [endP, AdP] at HAD hR
            have hn5 : ¬ (k4 : Int) < 0 := by omega
            have HBL5 := Lib.hid (fun W => blank_ref2 s k4 hk4.2.2 hs W)
            unfold closE at hR
            clear had
            cases hb5 : blankE s.data.toList k4 with
            | none =>
              rw [hb5] at HBL5 hR
              simp only [endI] at HBL5 hR
              have HRN := Lib.hid hR
              clear hR hb5
              go_enter Tryz.func126, Tryz.ntmps126
              go_wp2_with fail
              refine (HBL.out _).mono ?_
              rintro e w1 ⟨rfl, hw1⟩
              rw [hw1]
              clear hw1
              go_wp2_with fail
              refine (HA.out _).mono ?_
              rintro e w2 ⟨rfl, hw2⟩
              rw [hw2]
              clear hw2
              go_wp2_with fail
              refine (HBL2.out _).mono ?_
              rintro e w3 ⟨rfl, hw3⟩
              rw [hw3]
              clear hw3
              go_wp2_with fail
              refine (HWD.out _).mono ?_
              rintro e w4 ⟨rfl, hw4⟩
              rw [hw4]
              clear hw4
              go_wp2_with fail
              refine (HAD.out _ HO.out).mono ?_
              rintro e w5 ⟨rfl, hr5, hb5⟩
              have HX5 := Lib.hid hr5
              have HB5 := Lib.hid hb5
              clear hr5 hb5
              go_wp2_with fail
              refine (HBL5.out _).mono ?_
              rintro e w6 ⟨rfl, hw6⟩
              rw [hw6]
              clear hw6
              go_wp2
              go_ret
              rw [HRN.out]
              exact ⟨rfl, trivial, ((Below.refl _ _)).trans HB5.out⟩
            | some k5 =>
              have hk5 := (blankE_le (by rw [list_len]; exact hk4.2.2) hb5).2
              rw [list_len] at hk5
              rw [hb5] at HBL5 hR
              simp only [endI] at HBL5 hR
              have hn6 : ¬ (k5 : Int) < 0 := by omega
              have hwk : IntKind.i64.wrap ((k5 : Int) + 1) = ((k5 + 1 : Nat) : Int) := by rw [IntKind.wrap_i64]; omega
              have HA6 := Lib.hid (fun W => at_ref s k5 (by omega) (by omega) W)
              clear hb5
              by_cases h62 : s.data.toList[k5]? = some 62
              · rw [if_pos h62] at hR
                rw [nextB_yes h62] at HA6
                have hq6 : (((62 : UInt8).toNat : Int) != 62) = false := rfl
                have HRN := Lib.hid hR
                clear hR h62
                go_enter Tryz.func126, Tryz.ntmps126
                go_wp2_with fail
                refine (HBL.out _).mono ?_
                rintro e w1 ⟨rfl, hw1⟩
                rw [hw1]
                clear hw1
                go_wp2_with fail
                refine (HA.out _).mono ?_
                rintro e w2 ⟨rfl, hw2⟩
                rw [hw2]
                clear hw2
                go_wp2_with fail
                refine (HBL2.out _).mono ?_
                rintro e w3 ⟨rfl, hw3⟩
                rw [hw3]
                clear hw3
                go_wp2_with fail
                refine (HWD.out _).mono ?_
                rintro e w4 ⟨rfl, hw4⟩
                rw [hw4]
                clear hw4
                go_wp2_with fail
                refine (HAD.out _ HO.out).mono ?_
                rintro e w5 ⟨rfl, hr5, hb5⟩
                have HX5 := Lib.hid hr5
                have HB5 := Lib.hid hb5
                clear hr5 hb5
                go_wp2_with fail
                refine (HBL5.out _).mono ?_
                rintro e w6 ⟨rfl, hw6⟩
                rw [hw6]
                clear hw6
                go_wp2_with fail
                refine (HA6.out _).mono ?_
                rintro e w7 ⟨rfl, hw7⟩
                rw [hw7]
                clear hw7
                go_wp2
                go_ret
                rw [HRN.out]
                exact ⟨rfl, HX5.out, ((Below.refl _ _)).trans HB5.out⟩
              · rw [if_neg h62] at hR
                have hq6 : ((nextB s.data.toList k5 : Int) != 62) = true := by have := int_ne (nextB_no h62 (by decide)); simpa [bne] using this
                generalize nextB s.data.toList k5 = nb6 at HA6 hq6
                have HRN := Lib.hid hR
                clear hR h62
                go_enter Tryz.func126, Tryz.ntmps126
                go_wp2_with fail
                refine (HBL.out _).mono ?_
                rintro e w1 ⟨rfl, hw1⟩
                rw [hw1]
                clear hw1
                go_wp2_with fail
                refine (HA.out _).mono ?_
                rintro e w2 ⟨rfl, hw2⟩
                rw [hw2]
                clear hw2
                go_wp2_with fail
                refine (HBL2.out _).mono ?_
                rintro e w3 ⟨rfl, hw3⟩
                rw [hw3]
                clear hw3
                go_wp2_with fail
                refine (HWD.out _).mono ?_
                rintro e w4 ⟨rfl, hw4⟩
                rw [hw4]
                clear hw4
                go_wp2_with fail
                refine (HAD.out _ HO.out).mono ?_
                rintro e w5 ⟨rfl, hr5, hb5⟩
                have HX5 := Lib.hid hr5
                have HB5 := Lib.hid hb5
                clear hr5 hb5
                go_wp2_with fail
                refine (HBL5.out _).mono ?_
                rintro e w6 ⟨rfl, hw6⟩
                rw [hw6]
                clear hw6
                go_wp2_with fail
                refine (HA6.out _).mono ?_
                rintro e w7 ⟨rfl, hw7⟩
                rw [hw7]
                clear hw7
                go_wp2
                go_ret
                rw [HRN.out]
                exact ⟨rfl, trivial, ((Below.refl _ _)).trans HB5.out⟩
end Go.Proofs.YtffngbjnbigipaaGreatDoor
