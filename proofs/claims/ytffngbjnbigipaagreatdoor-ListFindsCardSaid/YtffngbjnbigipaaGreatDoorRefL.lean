/- The document's lists: its functions at, blank, word, domain. -/
import Derived.Test.YtffngbjnbigipaaGreatDoorRefB
import Derived.Test.YtffngbjnbigipaaGreatDoorRWord
namespace Go.Proofs.YtffngbjnbigipaaGreatDoor
open Go.RowKit Go.Lib
set_option linter.unusedSimpArgs false
set_option linter.unusedVariables false
set_option linter.unnecessarySimpa false
set_option maxRecDepth 100000

theorem at_ref (s : ByteArray) (i : Nat) (hi : i ≤ 1000000000) (hs : s.size ≤ 1000000000) (w : World) : Calls Tryz.prog 75 #[.string s, .int .i64 (i : Int)] w fun e w' => e = .returned (.int .u8 (nextB s.data.toList i : Int)) ∧ w' = w := by
  by_cases hlt : i < s.size
  · rw [nextB_yes (get_list s i hlt)]
    have h0 : (0 : Int) ≤ (i : Int) := by omega
    have h1 : (i : Int) < (s.size : Int) := by omega
    go_enter Tryz.func75, Tryz.ntmps75
    go_wp2
    go_ret
    exact ⟨rfl, rfl⟩
  · have : nextB s.data.toList i = 0 := by unfold nextB; rw [get_none s i (by omega)]
    rw [this]
    have h1 : ¬ (i : Int) < (s.size : Int) := by omega
    go_enter Tryz.func75, Tryz.ntmps75
    go_wp2
    go_ret
    exact ⟨rfl, rfl⟩
/-- a place as the document tells it: -1 for none. -/
def endI : Option Nat → Int
  | none => -1
  | some n => (n : Int)
set_option maxHeartbeats 1000000 in
theorem blank_ref2 (s : ByteArray) (i : Nat) (hi : i ≤ s.size) (hs : s.size ≤ 900000000) (w : World) : Calls Tryz.prog 123 #[.string s, .int .i64 (i : Int)] w fun e w' => e = .returned (.int .i64 (endI (blankE s.data.toList i))) ∧ w' = w := by
  have hB := fun W => Blank_ref (s.extract i s.size) (by simp; omega) W
  have e1 : (s.extract i s.size).data.toList = s.data.toList.drop i := by rw [ext_drop]
  rw [e1] at hB
  have hm := blank_many (s.data.toList.drop i)
  rw [List.length_drop, list_len] at hm
  unfold blankE
  generalize blankL (s.data.toList.drop i) = R at hB hm ⊢
  obtain ⟨n, er⟩ := R
  simp only [comV] at hB hm ⊢
  have HB := Lib.hid hB
  have h0 : (0 : Int) ≤ (i : Int) := by omega
  have h1 : (i : Int) ≤ (s.size : Int) := by omega
  have hw : IntKind.i64.wrap ((i : Int) + (n : Int)) = ((i + n : Nat) : Int) := by rw [IntKind.wrap_i64]; omega
  clear hB e1
  by_cases he : er = 0
  · subst he
    rw [if_pos rfl]
    go_enter Tryz.func123, Tryz.ntmps123
    go_wp2_with fail
    refine (HB.out _).mono ?_
    rintro e w2 ⟨rfl, hw2⟩
    rw [hw2]
    clear hw2
    go_wp2
    go_ret
    exact ⟨rfl, rfl⟩
  · have he0 : ((er : Int) != 0) = true := by rw [bne_iff_ne]; omega
    rw [if_neg he]
    clear he
    go_enter Tryz.func123, Tryz.ntmps123
    go_wp2_with fail
    refine (HB.out _).mono ?_
    rintro e w2 ⟨rfl, hw2⟩
    rw [hw2]
    clear hw2
    go_wp2
    go_ret
    exact ⟨rfl, rfl⟩
def WdRel (s : ByteArray) (E : Nat) (w : World) (g : Nat) (v1 : Value) (W : World) : Prop :=
  ∃ j : Nat, v1 = .int .i64 (j : Int) ∧ j ≤ s.size ∧ g = s.size - j ∧ E = j + tw wordB (s.data.toList.drop j) ∧ W = w
set_option maxHeartbeats 2000000 in
theorem word_ref2 (s : ByteArray) (i : Nat) (hi : i ≤ s.size) (hs : s.size ≤ 900000000) (w : World) : Calls Tryz.prog 124 #[.string s, .int .i64 (i : Int)] w fun e w' => e = .returned (.int .i64 (endI (wordE s.data.toList i))) ∧ w' = w := by
  have HA := Lib.hid (fun W => at_ref s i (by omega) (by omega) W)
  have h0 : (0 : Int) ≤ (i : Int) := by omega
  have h1 : (i : Int) ≤ (s.size : Int) := by omega
  unfold wordE
  by_cases h34 : s.data.toList[i]? = some 34
  · rw [if_pos h34]
    rw [nextB_yes h34] at HA
    have hq : (((34 : UInt8).toNat : Int) == 34) = true := rfl
    have hQ := fun W => Quoted_ref (s.extract i s.size) (by simp; omega) W
    have e1 : (s.extract i s.size).data.toList = s.data.toList.drop i := by rw [ext_drop]
    rw [e1] at hQ
    have hm := quoted_many (s.data.toList.drop i)
    rw [List.length_drop, list_len] at hm
    generalize quoted (s.data.toList.drop i) = R at hQ hm ⊢
    obtain ⟨wd, n, er⟩ := R
    simp only [quotV] at hQ hm ⊢
    have HQ := Lib.hid hQ
    have hw : IntKind.i64.wrap ((i : Int) + (n : Int)) = ((i + n : Nat) : Int) := by rw [IntKind.wrap_i64]; omega
    clear hQ e1 h34
    by_cases he : er = 0
    · subst he
      rw [if_pos rfl]
      go_enter Tryz.func124, Tryz.ntmps124
      go_wp2_with fail
      refine (HA.out _).mono ?_
      rintro e w2 ⟨rfl, hw2⟩
      rw [hw2]
      clear hw2
      go_wp2_with fail
      refine (HQ.out _).mono ?_
      rintro e w3 ⟨rfl, hw3⟩
      rw [hw3]
      clear hw3
      go_wp2
      go_ret
      exact ⟨rfl, rfl⟩
    · have he0 : ((er : Int) != 0) = true := by rw [bne_iff_ne]; omega
      rw [if_neg he]
      clear he
      go_enter Tryz.func124, Tryz.ntmps124
      go_wp2_with fail
      refine (HA.out _).mono ?_
      rintro e w2 ⟨rfl, hw2⟩
      rw [hw2]
      clear hw2
      go_wp2_with fail
      refine (HQ.out _).mono ?_
      rintro e w3 ⟨rfl, hw3⟩
      rw [hw3]
      clear hw3
      go_wp2
      go_ret
      exact ⟨rfl, rfl⟩
  · rw [if_neg h34]
    have hq : ((nextB s.data.toList i : Int) == 34) = false := int_ne (nextB_no h34 (by decide))
    generalize nextB s.data.toList i = nb at HA hq
    obtain ⟨E, hE⟩ : ∃ E, E = i + tw wordB (s.data.toList.drop i) := ⟨_, rfl⟩
    rw [← hE]
    have HE := Lib.hid hE
    clear hE h34
    go_enter Tryz.func124, Tryz.ntmps124
    go_wp2_with fail
    refine (HA.out _).mono ?_
    rintro e w2 ⟨rfl, hw2⟩
    rw [hw2]
    clear hw2
    go_wp2_with fail
    go_loopg [1] (s.size - i) (fun g v1 W => WdRel s E w g v1 W)
    case atStart => exact ⟨i, rfl, hi, rfl, HE.out, rfl⟩
    case round =>
      obtain ⟨j, rfl, hj, hg, hE, rfl⟩ := hrel
      have HG := Lib.hid hg
      have hj0 : (0 : Int) ≤ (j : Int) := by omega
      clear hg h0 h1
      by_cases hlt : j < s.size
      · have hj1 : (j : Int) < (s.size : Int) := by omega
        have hw : IntKind.i64.wrap ((j : Int) + 1) = (j : Int) + 1 := by rw [IntKind.wrap_i64]; omega
        rw [drop_cons s j hlt] at hE
        have hL := fun W => Letter_any s[j].toNat W
        by_cases h46 : s[j] = 46
        · have hq6 : ((s[j].toNat : Int) == 46) = true := by rw [h46]; rfl
          rw [tw_yes _ _ _ (by rw [h46]; decide)] at hE
          have HE2 := Lib.hid hE
          clear hE hL h46
          go_wp2_with fail
          go_roundg (s.size - (j + 1))
          case rel => exact ⟨j + 1, by go_num, by omega, rfl, by have := HE2.out; omega, rfl⟩
          case measure => have := HG.out; omega
        · have hq6 : ((s[j].toNat : Int) == 46) = false := u8_ne h46
          have hwb : wordB s[j] = atomB s[j].toNat := by unfold wordB; simp [h46]
          cases hb : atomB s[j].toNat with
          | true =>
            rw [hb] at hL hwb
            rw [tw_yes _ _ _ hwb] at hE
            have HE2 := Lib.hid hE
            have HL := Lib.hid hL
            clear hE hL h46 hwb hb
            go_wp2_with fail
            refine (HL.out _).mono ?_
            rintro e w2 ⟨rfl, hw2⟩
            rw [hw2]
            clear hw2
            go_wp2_with fail
            go_roundg (s.size - (j + 1))
            case rel => exact ⟨j + 1, by go_num, by omega, rfl, by have := HE2.out; omega, rfl⟩
            case measure => have := HG.out; omega
          | false =>
            rw [hb] at hL hwb
            rw [tw_no _ _ _ hwb] at hE
            have hEj : E = j := by omega
            have HL := Lib.hid hL
            have HE2 := Lib.hid hEj
            clear hE hL h46 hwb hb hEj
            go_wp2_with fail
            refine (HL.out _).mono ?_
            rintro e w2 ⟨rfl, hw2⟩
            rw [hw2]
            clear hw2
            go_wp2
            go_ret
            rw [HE2.out]
            exact ⟨rfl, rfl⟩
      · have hge : ¬ (j : Int) < (s.size : Int) := by omega
        have hnil : s.data.toList.drop j = [] := List.drop_eq_nil_of_le (by simp; omega)
        rw [hnil, tw_nil] at hE
        have hEj : E = j := by omega
        have HE2 := Lib.hid hEj
        clear hE hnil hEj
        go_wp2
        go_ret
        rw [HE2.out]
        exact ⟨rfl, rfl⟩
def DmRel (s : ByteArray) (p : UInt8 → Bool) (E : Nat) (w : World) (g : Nat) (v1 : Value) (W : World) : Prop :=
  ∃ j : Nat, v1 = .int .i64 (j : Int) ∧ j ≤ s.size ∧ g = s.size - j ∧ E = j + tw p (s.data.toList.drop j) ∧ W = w
theorem host_dec (c : UInt8) : hostdotB c = decide ((97 ≤ c.toNat ∧ c.toNat ≤ 122) ∨ (65 ≤ c.toNat ∧ c.toNat ≤ 90) ∨ (48 ≤ c.toNat ∧ c.toNat ≤ 57) ∨ c.toNat = 45 ∨ c.toNat = 46) := by
  have h45 : (c == 45) = decide (c.toNat = 45) := by
    rw [Bool.eq_iff_iff]; simp [← UInt8.toNat_inj]
  have h46 : (c == 46) = decide (c.toNat = 46) := by
    rw [Bool.eq_iff_iff]; simp [← UInt8.toNat_inj]
  unfold hostdotB letterB
  rw [h45, h46, Bool.eq_iff_iff]
  simp
  omega
set_option maxHeartbeats 4000000 in
theorem domain_ref2 (s : ByteArray) (i : Nat) (hi : i ≤ s.size) (hs : s.size ≤ 900000000) (w : World) : Calls Tryz.prog 160 #[.string s, .int .i64 (i : Int)] w fun e w' => e = .returned (.int .i64 (endI (domE s.data.toList i))) ∧ w' = w := by
  have HA := Lib.hid (fun W => at_ref s i (by omega) (by omega) W)
  have h0 : (0 : Int) ≤ (i : Int) := by omega
  have h1 : (i : Int) ≤ (s.size : Int) := by omega
  unfold domE
  by_cases h91 : s.data.toList[i]? = some 91
  · rw [if_pos h91]
    rw [nextB_yes h91] at HA
    have hq : (((91 : UInt8).toNat : Int) == 91) = true := rfl
    obtain ⟨E, hE⟩ : ∃ E, E = i + tw notEnd (s.data.toList.drop i) := ⟨_, rfl⟩
    rw [← hE, list_len]
    obtain ⟨R, hR⟩ : ∃ R, R = endI (if E < s.size then some (E + 1) else none) := ⟨_, rfl⟩
    rw [← hR]
    have HE := Lib.hid hE
    have HR := Lib.hid hR
    clear hE h91 hR
    go_enter Tryz.func160, Tryz.ntmps160
    go_wp2_with fail
    refine (HA.out _).mono ?_
    rintro e w2 ⟨rfl, hw2⟩
    rw [hw2]
    clear hw2
    go_wp2_with fail
    go_loopg [1] (s.size - i) (fun g v1 W => DmRel s notEnd E w g v1 W)
    case atStart => exact ⟨i, rfl, hi, rfl, HE.out, rfl⟩
    case round =>
      obtain ⟨j, rfl, hj, hg, hE, rfl⟩ := hrel
      have HG := Lib.hid hg
      have hj0 : (0 : Int) ≤ (j : Int) := by omega
      clear hg h0 h1
      by_cases hlt : j < s.size
      · have hj1 : (j : Int) < (s.size : Int) := by omega
        have hw : IntKind.i64.wrap ((j : Int) + 1) = ((j + 1 : Nat) : Int) := by rw [IntKind.wrap_i64]; omega
        rw [drop_cons s j hlt] at hE
        by_cases h93 : s[j] = 93
        · have hq3 : ((s[j].toNat : Int) != 93) = false := by rw [h93]; rfl
          have hne : ((j : Int) == (s.size : Int)) = false := by rw [beq_eq_false_iff_ne]; omega
          rw [tw_no _ _ _ (by rw [h93]; decide)] at hE
          have hEj : E = j := by omega
          have HE2 := Lib.hid hEj
          clear hE h93 hEj
          go_wp2
          go_ret
          rw [HR.out, HE2.out, if_pos hlt]
          exact ⟨rfl, rfl⟩
        · have hq3 : ((s[j].toNat : Int) != 93) = true := by have := u8_ne h93; simpa [bne] using this
          rw [tw_yes _ _ _ (by unfold notEnd; simpa using h93)] at hE
          have HE2 := Lib.hid hE
          clear hE h93
          go_wp2_with fail
          go_roundg (s.size - (j + 1))
          case rel => exact ⟨j + 1, by go_num, by omega, rfl, by have := HE2.out; omega, rfl⟩
          case measure => have := HG.out; omega
      · have hge : ¬ (j : Int) < (s.size : Int) := by omega
        have heq : ((j : Int) == (s.size : Int)) = true := by rw [beq_iff_eq]; omega
        have hnil : s.data.toList.drop j = [] := List.drop_eq_nil_of_le (by simp; omega)
        rw [hnil, tw_nil] at hE
        have hEj : ¬ E < s.size := by omega
        have HE2 := Lib.hid hEj
        clear hE hnil hEj
        go_wp2
        go_ret
        rw [HR.out, if_neg HE2.out]
        exact ⟨rfl, rfl⟩
  · rw [if_neg h91]
    have hq : ((nextB s.data.toList i : Int) == 91) = false := int_ne (nextB_no h91 (by decide))
    generalize nextB s.data.toList i = nb at HA hq
    obtain ⟨E, hE⟩ : ∃ E, E = i + tw hostdotB (s.data.toList.drop i) := ⟨_, rfl⟩
    have hEi : (if tw hostdotB (s.data.toList.drop i) = 0 then none else some (i + tw hostdotB (s.data.toList.drop i))) = if E = i then none else some E := by
      rw [← hE]
      by_cases hz : tw hostdotB (s.data.toList.drop i) = 0
      · rw [if_pos hz, if_pos (by omega)]
      · rw [if_neg hz, if_neg (by omega)]
    rw [hEi]
    obtain ⟨R, hR⟩ : ∃ R, R = endI (if E = i then none else some E) := ⟨_, rfl⟩
    rw [← hR]
    have HE := Lib.hid hE
    have HR := Lib.hid hR
    clear hE h91 hEi hR
    go_enter Tryz.func160, Tryz.ntmps160
    go_wp2_with fail
    refine (HA.out _).mono ?_
    rintro e w2 ⟨rfl, hw2⟩
    rw [hw2]
    clear hw2
    go_wp2_with fail
    go_loopg [1, 6] (s.size - i) (fun g v1 v6 W => DmRel s hostdotB E w g v1 W)
    case atStart => exact ⟨i, rfl, hi, rfl, HE.out, rfl⟩
    case round =>
      obtain ⟨j, rfl, hj, hg, hE, rfl⟩ := hrel
      have HG := Lib.hid hg
      have hj0 : (0 : Int) ≤ (j : Int) := by omega
      clear hg h0 h1
      by_cases hlt : j < s.size
      · have hj1 : (j : Int) < (s.size : Int) := by omega
        have hw : IntKind.i64.wrap ((j : Int) + 1) = ((j + 1 : Nat) : Int) := by rw [IntKind.wrap_i64]; omega
        rw [drop_cons s j hlt] at hE
        have HE2 := Lib.hid hE
        have hHD := host_dec s[j]
        generalize hHB : hostdotB s[j] = hb at hHD
        have HD := Lib.hid hHD
        have HHB := Lib.hid hHB
        clear hE hHD hHB
        go_upto_region 10 with (fail)
        go_cut [67] from 30 to 69 (fun v67 wc => v67 = .bool (!hb) ∧ wc = wr)
        case first =>
          have HX := HD
          by_cases e5 : s[j].toNat = 45
          · have q5 : ((s[j].toNat : Int) == 45) = true := by rw [e5]; rfl
            have HV := Lib.hid (show (!hb) = false by rw [HX.out]; simp; omega)
            have a1 : ¬ (97 : Int) ≤ (s[j].toNat : Int) := by omega
            have a2 : ¬ (65 : Int) ≤ (s[j].toNat : Int) := by omega
            have a3 : ¬ (48 : Int) ≤ (s[j].toNat : Int) := by omega
            clear e5
            go_wp2_with fail
            go_meet
            case rel => exact ⟨by rw [HV.out], rfl⟩
          · have q5 : ((s[j].toNat : Int) == 45) = false := by rw [beq_eq_false_iff_ne]; omega
            by_cases e6 : s[j].toNat = 46
            · have q6 : ((s[j].toNat : Int) == 46) = true := by rw [e6]; rfl
              have HV := Lib.hid (show (!hb) = false by rw [HX.out]; simp; omega)
              have a1 : ¬ (97 : Int) ≤ (s[j].toNat : Int) := by omega
              have a2 : ¬ (65 : Int) ≤ (s[j].toNat : Int) := by omega
              have a3 : ¬ (48 : Int) ≤ (s[j].toNat : Int) := by omega
              clear e5 e6
              go_wp2_with fail
              go_meet
              case rel => exact ⟨by rw [HV.out], rfl⟩
            · have q6 : ((s[j].toNat : Int) == 46) = false := by rw [beq_eq_false_iff_ne]; omega
              have HE5 := Lib.hid e5
              have HE6 := Lib.hid e6
              clear e5 e6
              go_wp2_with fail
              all_goals
                go_meet
                case rel =>
                  have e5 := HE5.out
                  have e6 := HE6.out
                  refine ⟨congrArg Value.bool ?_, rfl⟩
                  rw [HX.out, Bool.eq_iff_iff]
                  simp only [Bool.and_eq_true, Bool.not_eq_true', decide_eq_false_iff_not, decide_eq_true_eq, Bool.not_eq_true, true_iff, false_iff, Bool.false_eq_true, Bool.not_eq_false]
                  omega
        case rest =>
          obtain ⟨rfl, hwc⟩ := hcut
          rw [hwc]
          clear hwc
          cases hb with
          | true =>
            go_wp2_with fail
            go_roundg (s.size - (j + 1))
            case rel => exact ⟨j + 1, by go_num, by omega, rfl, by have := HE2.out; rw [tw_yes _ _ _ HHB.out] at this; omega, rfl⟩
            case measure => have := HG.out; omega
          | false =>
            have hEj : E = j := by have := HE2.out; rw [tw_no _ _ _ HHB.out] at this; omega
            have HEJ := Lib.hid hEj
            clear hEj
            by_cases hji : j = i
            · have hq2 : ((j : Int) == (i : Int)) = true := by rw [hji]; simp
              have HJI := Lib.hid hji
              clear hji
              go_wp2
              go_ret
              rw [HR.out, HEJ.out, if_pos HJI.out]
              exact ⟨rfl, rfl⟩
            · have hq2 : ((j : Int) == (i : Int)) = false := by rw [beq_eq_false_iff_ne]; omega
              have HJI := Lib.hid hji
              clear hji
              go_wp2
              go_ret
              rw [HR.out, HEJ.out, if_neg HJI.out]
              exact ⟨rfl, rfl⟩
      · have hge : ¬ (j : Int) < (s.size : Int) := by omega
        have hnil : s.data.toList.drop j = [] := List.drop_eq_nil_of_le (by simp; omega)
        rw [hnil, tw_nil] at hE
        have hEj : E = j := by omega
        have HEJ := Lib.hid hEj
        clear hE hnil hEj
        by_cases hji : j = i
        · have hq2 : ((j : Int) == (i : Int)) = true := by rw [hji]; simp
          have HJI := Lib.hid hji
          clear hji
          go_wp2
          go_ret
          rw [HR.out, HEJ.out, if_pos HJI.out]
          exact ⟨rfl, rfl⟩
        · have hq2 : ((j : Int) == (i : Int)) = false := by rw [beq_eq_false_iff_ne]; omega
          have HJI := Lib.hid hji
          clear hji
          go_wp2
          go_ret
          rw [HR.out, HEJ.out, if_neg HJI.out]
          exact ⟨rfl, rfl⟩
end Go.Proofs.YtffngbjnbigipaaGreatDoor
