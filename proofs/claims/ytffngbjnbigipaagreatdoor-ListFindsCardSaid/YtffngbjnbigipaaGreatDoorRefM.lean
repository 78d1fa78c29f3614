/- The document's lists: its function member, the inner members by their contract. -/
import Derived.Test.YtffngbjnbigipaaGreatDoorRefN
import Derived.Test.YtffngbjnbigipaaGreatDoorRMember
namespace Go.Proofs.YtffngbjnbigipaaGreatDoor
open Go.RowKit Go.Lib
set_option linter.unusedSimpArgs false
set_option linter.unusedVariables false
set_option linter.unnecessarySimpa false
set_option maxRecDepth 100000

theorem last_end (l : List UInt8) (k : Nat) (st : LSt) : endP (lastE l (some (k, st))) = endI (blankE l k) := by
  cases hb : blankE l k <;> simp only [lastE, hb] <;> rfl
theorem last_ad {B : Nat} (l : List UInt8) (k : Nat) {st : LSt} {W : World} (h : RO B st W) : AdP B (lastE l (some (k, st))) W := by
  cases hb : blankE l k with
  | none => simp only [lastE, hb]; trivial
  | some n => simp only [lastE, hb]; exact h
def MeRel (s : ByteArray) (fr : Nat) (X : Option (Nat × Nat × Nat)) (w : World) (n : Nat) (v2 v10 v11 : Value) (W : World) : Prop :=
  W = w ∧ ∃ (f i many e : Nat), v2 = .int .i64 (i : Int) ∧ v10 = .int .i64 (many : Int) ∧ v11 = .int .i64 (e : Int) ∧ i ≤ s.size ∧ n = s.size + 1 - i ∧ wordsE f s.data.toList i many e = X ∧ s.size - i < f ∧ e ≤ i ∧ fr + many ≤ i
set_option maxHeartbeats 8000000 in
theorem member_ref (within : Bool) (inn : Nat → LSt → Option (Nat × LSt)) (B : Nat) (s : ByteArray) (k : Nat) (st : LSt) (w : World) (h : RO B st w) (hk : k ≤ s.size) (hs : s.size ≤ 900000000) (hst : st.1.length ≤ k)
    (hinn : within = false → inn = innerE s.data.toList)
    (hin : within = false → ∀ (W : World) (k : Nat), st.1.length ≤ k → RO B st W → k ≤ s.size → Calls Tryz.prog 37 #[.pointer (some ⟨B, 0, none⟩), .string s, .int .i64 (k : Int), .bool true] W fun e w' => e = .returned (.int .i64 (endP (memsT s.data.toList k st))) ∧ AdP B (memsT s.data.toList k st) w' ∧ Below B W w') :
    Calls Tryz.prog 74 #[.pointer (some ⟨B, 0, none⟩), .string s, .int .i64 (k : Int), .bool within] w fun e w' => e = .returned (.int .i64 (endP (memE inn within s.data.toList k st))) ∧ AdP B (memE inn within s.data.toList k st) w' ∧ Below B w w' := by
  obtain ⟨sp, g⟩ := st
  simp only at hst
  have hst2 : sp.length ≤ 1000000000000 := by omega
  have HO := Lib.hid h
  have HIN := Lib.hid hin
  have HINN := Lib.hid hinn
  clear h hin hinn
  have HBL := Lib.hid (fun W => blank_ref2 s k hk hs W)
  have hR : memE inn within s.data.toList k (sp, g) = memE inn within s.data.toList k (sp, g) := rfl
  conv at hR => rhs; unfold memE
  generalize memE inn within s.data.toList k (sp, g) = R at hR ⊢
  cases hbl0 : blankE s.data.toList k with
  | none =>
    rw [hbl0] at hR HBL
    simp only [endI] at hR HBL
    have HRN := Lib.hid hR
    clear hR hbl0
    go_enter Tryz.func74, Tryz.ntmps74
    go_wp2_with fail
    refine (HBL.out _).mono ?_
    rintro e w1 ⟨rfl, hw1⟩
    rw [hw1]
    clear hw1
    go_wp2
    go_ret
    rw [HRN.out]
    exact ⟨rfl, trivial, Below.refl _ _⟩
  | some fr =>
    have hfr := blankE_le (by rw [list_len]; exact hk) hbl0
    rw [list_len] at hfr
    rw [hbl0] at hR HBL
    simp only [endI] at hR HBL
    have hn0 : ¬ (fr : Int) < 0 := by omega
    have hWL : ∀ i m e, wordsE (s.data.toList.length + 1) s.data.toList fr 0 fr = some (i, m, e) → R = lastE s.data.toList (afterE inn within s.data.toList fr i m e (sp, g)) := by
      intro i m e he
      rw [hR, he]
    have hWN : wordsE (s.data.toList.length + 1) s.data.toList fr 0 fr = none → R = none := by
      intro he
      rw [hR, he]
    generalize hX : wordsE (s.data.toList.length + 1) s.data.toList fr 0 fr = X at hWL hWN
    have HX := Lib.hid hX
    have HWL := Lib.hid hWL
    have HWN := Lib.hid hWN
    clear hR hX hWL hWN hbl0
    go_enter Tryz.func74, Tryz.ntmps74
    go_wp2_with fail
    refine (HBL.out _).mono ?_
    rintro e w1 ⟨rfl, hw1⟩
    rw [hw1]
    clear hw1
    go_wp2_with fail
    go_loopg [2, 10, 11, 12] (s.size + 1 - fr) (fun n v2 v10 v11 v12 W => MeRel s fr X w n v2 v10 v11 W)
    case atStart => exact ⟨rfl, s.data.toList.length + 1, fr, 0, fr, rfl, rfl, rfl, hfr.2, rfl, HX.out, by rw [list_len]; omega, Nat.le_refl _, by omega⟩
    case round =>
      obtain ⟨rfl, f, i, many, e, rfl, rfl, rfl, hi, hn, hX, hf, hei, hfm⟩ := hrel
      have HN0 := Lib.hid hn
      have HF := Lib.hid hf
      obtain ⟨f, rfl⟩ : ∃ m, f = m + 1 := ⟨f - 1, by omega⟩
      rw [wordsE] at hX
      have HWD := Lib.hid (fun W => word_ref2 s i hi hs W)
      clear hn hf
      cases hwd : wordE s.data.toList i with
      | none =>
        rw [hwd] at hX HWD
        simp only [endI] at hX HWD
        have HRN := Lib.hid (HWN.out hX.symm)
        clear hX hwd
        go_wp2_with fail
        refine (HWD.out _).mono ?_
        rintro e w2 ⟨rfl, hw2⟩
        rw [hw2]
        clear hw2
        go_wp2
        go_ret
        rw [HRN.out]
        exact ⟨rfl, trivial, Below.refl _ _⟩
      | some ke =>
        have hke := wordE_le (by rw [list_len]; exact hi) hwd
        rw [list_len] at hke
        rw [hwd] at hX HWD
        simp only [endI] at hX HWD
        have hn2 : ¬ (ke : Int) < 0 := by omega
        clear hwd
        by_cases hki : ke = i
        · -- the words end
          rw [if_pos hki] at hX
          have hkq : ((ke : Int) == (i : Int)) = true := by rw [beq_iff_eq]; omega
          have hRR := HWL.out i many e hX.symm
          have HA := Lib.hid (fun W => at_ref s i (by omega) (by omega) W)
          have hwi : IntKind.i64.wrap ((i : Int) + 1) = ((i + 1 : Nat) : Int) := by rw [IntKind.wrap_i64]; omega
          clear hX hki
          by_cases h64 : s.data.toList[i]? = some 64
          · rw [afterE_64 h64] at hRR
            rw [nextB_yes h64] at HA
            have hq64 : (((64 : UInt8).toNat : Int) == 64) = true := rfl
            clear h64
            by_cases hm : many = 1
            · have hmq : ((many : Int) != 1) = false := by rw [hm]; rfl
              by_cases he : e = i
              · have heq : ((e : Int) != (i : Int)) = false := by rw [he]; simp
                rw [if_pos ⟨hm, he⟩] at hRR
                have HAD := Lib.hid (fun W (h : RO B (sp, g) W) => address_any B s fr i (sp, g) W h hi hs hst2)
                clear hm he
                cases had : addrE s.data.toList fr i (sp, g) with
                | none =>
                  rw [had] at HAD hRR
                  simp only [endP, AdP] at HAD
                  have HRN := Lib.hid (show R = none by rw [hRR]; rfl)
                  clear hRR had
                  go_wp2_with fail
                  refine (HWD.out _).mono ?_
                  rintro e w2 ⟨rfl, hw2⟩
                  rw [hw2]
                  clear hw2
                  go_wp2_with fail
                  refine (HA.out _).mono ?_
                  rintro e w3 ⟨rfl, hw3⟩
                  rw [hw3]
                  clear hw3
                  go_wp2_with fail
                  refine (HAD.out _ HO.out).mono ?_
                  rintro e w5 ⟨rfl, hr5, hb5⟩
                  have HX5 := Lib.hid hr5
                  have HB5 := Lib.hid hb5
                  clear hr5 hb5
                  go_wp2
                  go_ret
                  rw [HRN.out]
                  exact ⟨rfl, trivial, HB5.out⟩
                | some p =>
                  obtain ⟨n5, st5⟩ := p
                  have hn5 := (addrE_le had).2.2
                  rw [list_len] at hn5
                  rw [had] at HAD hRR
                  simp only [endP, AdP] at HAD
                  clear had
                  have HRN := Lib.hid hRR
                  have hnn : ¬ ((n5 : Nat) : Int) < 0 := by omega
                  have HBZ := Lib.hid (fun W => blank_ref2 s n5 hn5 hs W)
                  clear hRR
                  go_wp2_with fail
                  refine (HWD.out _).mono ?_
                  rintro e w2 ⟨rfl, hw2⟩
                  rw [hw2]
                  clear hw2
                  go_wp2_with fail
                  refine (HA.out _).mono ?_
                  rintro e w3 ⟨rfl, hw3⟩
                  rw [hw3]
                  clear hw3
                  go_wp2_with fail
                  refine (HAD.out _ HO.out).mono ?_
                  rintro e w5 ⟨rfl, hr5, hb5⟩
                  have HX5 := Lib.hid hr5
                  have HB5 := Lib.hid hb5
                  clear hr5 hb5
                  go_wp2_with fail
                  refine (HBZ.out _).mono ?_
                  rintro e w9 ⟨rfl, hw9⟩
                  rw [hw9]
                  clear hw9
                  go_wp2
                  go_ret
                  rw [HRN.out, last_end]
                  exact ⟨rfl, last_ad _ _ HX5.out, HB5.out⟩
              · have heq : ((e : Int) != (i : Int)) = true := by rw [bne_iff_ne]; omega
                rw [if_neg (fun h => he h.2)] at hRR
                have HRN := Lib.hid (show R = none by rw [hRR]; rfl)
                clear hRR hm he
                go_wp2_with fail
                refine (HWD.out _).mono ?_
                rintro e w2 ⟨rfl, hw2⟩
                rw [hw2]
                clear hw2
                go_wp2_with fail
                refine (HA.out _).mono ?_
                rintro e w3 ⟨rfl, hw3⟩
                rw [hw3]
                clear hw3
                go_wp2
                go_ret
                rw [HRN.out]
                exact ⟨rfl, trivial, Below.refl _ _⟩
            · have hmq : ((many : Int) != 1) = true := by rw [bne_iff_ne]; omega
              rw [if_neg (fun h => hm h.1)] at hRR
              have HRN := Lib.hid (show R = none by rw [hRR]; rfl)
              clear hRR hm
              go_wp2_with fail
              refine (HWD.out _).mono ?_
              rintro e w2 ⟨rfl, hw2⟩
              rw [hw2]
              clear hw2
              go_wp2_with fail
              refine (HA.out _).mono ?_
              rintro e w3 ⟨rfl, hw3⟩
              rw [hw3]
              clear hw3
              go_wp2
              go_ret
              rw [HRN.out]
              exact ⟨rfl, trivial, Below.refl _ _⟩
          · by_cases h60 : s.data.toList[i]? = some 60
            · have hq64 : (((60 : UInt8).toNat : Int) == 64) = false := rfl
              have hq60 : (((60 : UInt8).toNat : Int) == 60) = true := rfl
              rw [afterE_60 h60] at hRR
              rw [nextB_yes h60] at HA
              have hil := at_lt h60
              rw [list_len] at hil
              have HAN := Lib.hid (fun W (h : RO B (sp, g) W) => angle_ref B s (i + 1) (sp, g) W h (by omega) hs hst2)
              clear h60 h64
              cases han : angleE s.data.toList (i + 1) (sp, g) with
              | none =>
                rw [han] at HAN hRR
                simp only [endP, AdP] at HAN
                have HRN := Lib.hid (show R = none by rw [hRR]; rfl)
                clear hRR han
                go_wp2_with fail
                refine (HWD.out _).mono ?_
                rintro e w2 ⟨rfl, hw2⟩
                rw [hw2]
                clear hw2
                go_wp2_with fail
                refine (HA.out _).mono ?_
                rintro e w3 ⟨rfl, hw3⟩
                rw [hw3]
                clear hw3
                go_wp2_with fail
                refine (HA.out _).mono ?_
                rintro e w4 ⟨rfl, hw4⟩
                rw [hw4]
                clear hw4
                go_wp2_with fail
                refine (HAN.out _ HO.out).mono ?_
                rintro e w5 ⟨rfl, hr5, hb5⟩
                have HX5 := Lib.hid hr5
                have HB5 := Lib.hid hb5
                clear hr5 hb5
                go_wp2
                go_ret
                rw [HRN.out]
                exact ⟨rfl, trivial, HB5.out⟩
              | some p =>
                obtain ⟨n5, st5⟩ := p
                have hn5 := (angleE_le (by rw [list_len]; omega) han).2
                rw [list_len] at hn5
                rw [han] at HAN hRR
                simp only [endP, AdP] at HAN
                clear han
                have HRN := Lib.hid hRR
                have hnn : ¬ ((n5 : Nat) : Int) < 0 := by omega
                have HBZ := Lib.hid (fun W => blank_ref2 s n5 hn5 hs W)
                clear hRR
                go_wp2_with fail
                refine (HWD.out _).mono ?_
                rintro e w2 ⟨rfl, hw2⟩
                rw [hw2]
                clear hw2
                go_wp2_with fail
                refine (HA.out _).mono ?_
                rintro e w3 ⟨rfl, hw3⟩
                rw [hw3]
                clear hw3
                go_wp2_with fail
                refine (HA.out _).mono ?_
                rintro e w4 ⟨rfl, hw4⟩
                rw [hw4]
                clear hw4
                go_wp2_with fail
                refine (HAN.out _ HO.out).mono ?_
                rintro e w5 ⟨rfl, hr5, hb5⟩
                have HX5 := Lib.hid hr5
                have HB5 := Lib.hid hb5
                clear hr5 hb5
                go_wp2_with fail
                refine (HBZ.out _).mono ?_
                rintro e w9 ⟨rfl, hw9⟩
                rw [hw9]
                clear hw9
                go_wp2
                go_ret
                rw [HRN.out, last_end]
                exact ⟨rfl, last_ad _ _ HX5.out, HB5.out⟩
            · have hq64 : ((nextB s.data.toList i : Int) == 64) = false := int_ne (nextB_no h64 (by decide))
              have hq60 : ((nextB s.data.toList i : Int) == 60) = false := int_ne (nextB_no h60 (by decide))
              by_cases h58 : s.data.toList[i]? = some 58 ∧ 0 < many ∧ within = false
              · obtain ⟨h58, hm0, hwn⟩ := h58
                subst hwn
                rw [afterE_58 h58 hm0 rfl, HINN.out rfl] at hRR
                have hq58 : ((nextB s.data.toList i : Int) == 58) = true := by rw [nextB_yes h58]; rfl
                have hil := at_lt h58
                rw [list_len] at hil
                have hmg : (0 : Int) < (many : Int) := by omega
                have HME := Lib.hid (fun W (h : RO B (sp, g) W) => HIN.out rfl W (i + 1) (by show sp.length ≤ i + 1; omega) h hil)
                generalize nextB s.data.toList i = nb at HA hq64 hq60 hq58
                clear h58 h60 h64
                unfold innerE at hRR
                cases hme : memsT s.data.toList (i + 1) (sp, g) with
                | none =>
                  rw [hme] at HME hRR
                  simp only [endP, AdP] at HME
                  have HRN := Lib.hid (show R = none by rw [hRR]; rfl)
                  clear hRR hme
                  go_wp2_with fail
                  refine (HWD.out _).mono ?_
                  rintro e w2 ⟨rfl, hw2⟩
                  rw [hw2]
                  clear hw2
                  go_wp2_with fail
                  refine (HA.out _).mono ?_
                  rintro e w3 ⟨rfl, hw3⟩
                  rw [hw3]
                  clear hw3
                  go_wp2_with fail
                  refine (HA.out _).mono ?_
                  rintro e w4 ⟨rfl, hw4⟩
                  rw [hw4]
                  clear hw4
                  go_wp2_with fail
                  refine (HA.out _).mono ?_
                  rintro e w6 ⟨rfl, hw6⟩
                  rw [hw6]
                  clear hw6
                  go_wp2_with fail
                  refine (HME.out _ HO.out).mono ?_
                  rintro e w5 ⟨rfl, hr5, hb5⟩
                  have HX5 := Lib.hid hr5
                  have HB5 := Lib.hid hb5
                  clear hr5 hb5
                  go_wp2
                  go_ret
                  rw [HRN.out]
                  exact ⟨rfl, trivial, HB5.out⟩
                | some p =>
                  obtain ⟨n5, st5⟩ := p
                  have hn5 := (memsT_le s.data.toList _ _ _ _ (by rw [list_len]; omega) hme).2
                  rw [list_len] at hn5
                  rw [hme] at HME hRR
                  simp only [endP, AdP] at HME hRR
                  have hn5n : ¬ (n5 : Int) < 0 := by omega
                  have HA7 := Lib.hid (fun W => at_ref s n5 (by omega) (by omega) W)
                  have hw5 : IntKind.i64.wrap ((n5 : Int) + 1) = ((n5 + 1 : Nat) : Int) := by rw [IntKind.wrap_i64]; omega
                  clear hme
                  by_cases h59 : s.data.toList[n5]? = some 59
                  · rw [if_pos h59] at hRR
                    rw [nextB_yes h59] at HA7
                    have hq59 : (((59 : UInt8).toNat : Int) != 59) = false := rfl
                    have hl5 := at_lt h59
                    rw [list_len] at hl5
                    clear h59
                    have HRN := Lib.hid hRR
                    have hnn : ¬ (((n5 + 1) : Nat) : Int) < 0 := by omega
                    have HBZ := Lib.hid (fun W => blank_ref2 s (n5 + 1) hl5 hs W)
                    clear hRR
                    go_wp2_with fail
                    refine (HWD.out _).mono ?_
                    rintro e w2 ⟨rfl, hw2⟩
                    rw [hw2]
                    clear hw2
                    go_wp2_with fail
                    refine (HA.out _).mono ?_
                    rintro e w3 ⟨rfl, hw3⟩
                    rw [hw3]
                    clear hw3
                    go_wp2_with fail
                    refine (HA.out _).mono ?_
                    rintro e w4 ⟨rfl, hw4⟩
                    rw [hw4]
                    clear hw4
                    go_wp2_with fail
                    refine (HA.out _).mono ?_
                    rintro e w6 ⟨rfl, hw6⟩
                    rw [hw6]
                    clear hw6
                    go_wp2_with fail
                    refine (HME.out _ HO.out).mono ?_
                    rintro e w5 ⟨rfl, hr5, hb5⟩
                    have HX5 := Lib.hid hr5
                    have HB5 := Lib.hid hb5
                    clear hr5 hb5
                    go_wp2_with fail
                    refine (HA7.out _).mono ?_
                    rintro e w7 ⟨rfl, hw7⟩
                    rw [hw7]
                    clear hw7
                    go_wp2_with fail
                    refine (HBZ.out _).mono ?_
                    rintro e w9 ⟨rfl, hw9⟩
                    rw [hw9]
                    clear hw9
                    go_wp2
                    go_ret
                    rw [HRN.out, last_end]
                    exact ⟨rfl, last_ad _ _ HX5.out, HB5.out⟩
                  · rw [if_neg h59] at hRR
                    have hq59 : ((nextB s.data.toList n5 : Int) != 59) = true := by have := int_ne (nextB_no h59 (by decide)); simpa [bne] using this
                    generalize nextB s.data.toList n5 = nb7 at HA7 hq59
                    have HRN := Lib.hid (show R = none by rw [hRR]; rfl)
                    clear hRR h59
                    go_wp2_with fail
                    refine (HWD.out _).mono ?_
                    rintro e w2 ⟨rfl, hw2⟩
                    rw [hw2]
                    clear hw2
                    go_wp2_with fail
                    refine (HA.out _).mono ?_
                    rintro e w3 ⟨rfl, hw3⟩
                    rw [hw3]
                    clear hw3
                    go_wp2_with fail
                    refine (HA.out _).mono ?_
                    rintro e w4 ⟨rfl, hw4⟩
                    rw [hw4]
                    clear hw4
                    go_wp2_with fail
                    refine (HA.out _).mono ?_
                    rintro e w6 ⟨rfl, hw6⟩
                    rw [hw6]
                    clear hw6
                    go_wp2_with fail
                    refine (HME.out _ HO.out).mono ?_
                    rintro e w5 ⟨rfl, hr5, hb5⟩
                    have HX5 := Lib.hid hr5
                    have HB5 := Lib.hid hb5
                    clear hr5 hb5
                    go_wp2_with fail
                    refine (HA7.out _).mono ?_
                    rintro e w7 ⟨rfl, hw7⟩
                    rw [hw7]
                    clear hw7
                    go_wp2
                    go_ret
                    rw [HRN.out]
                    exact ⟨rfl, trivial, HB5.out⟩
              · rw [afterE_no h64 h60 h58] at hRR
                have hgd : s.data.toList[i]? = some 58 → 0 < many → within = true := fun a b => by
                  cases hw : within with
                  | true => rfl
                  | false => exact absurd ⟨a, b, hw⟩ h58
                clear h58
                have key : ((nextB s.data.toList i : Int) == 58) = false ∨ (((nextB s.data.toList i : Int) == 58) = true ∧ (¬ 0 < many ∨ (0 < many ∧ within = true))) := by
                  by_cases hc : s.data.toList[i]? = some 58
                  · refine .inr ⟨by rw [nextB_yes hc]; rfl, ?_⟩
                    by_cases hm : 0 < many
                    · exact .inr ⟨hm, hgd hc hm⟩
                    · exact .inl hm
                  · exact .inl (int_ne (nextB_no hc (by decide)))
                clear hgd
                generalize nextB s.data.toList i = nb at HA hq64 hq60 key
                clear h60 h64
                rcases key with hq58 | ⟨hq58, hm | ⟨hm, hwt⟩⟩
                · by_cases hm : 0 < many
                  · skip
                    have hmg : (0 : Int) < (many : Int) := by omega
                    rw [if_pos hm] at hRR
                    have HRN := Lib.hid (show R = none by rw [hRR]; rfl)
                    clear hRR hm
                    go_wp2_with fail
                    refine (HWD.out _).mono ?_
                    rintro e w2 ⟨rfl, hw2⟩
                    rw [hw2]
                    clear hw2
                    go_wp2_with fail
                    refine (HA.out _).mono ?_
                    rintro e w3 ⟨rfl, hw3⟩
                    rw [hw3]
                    clear hw3
                    go_wp2_with fail
                    refine (HA.out _).mono ?_
                    rintro e w4 ⟨rfl, hw4⟩
                    rw [hw4]
                    clear hw4
                    go_wp2_with fail
                    refine (HA.out _).mono ?_
                    rintro e w6 ⟨rfl, hw6⟩
                    rw [hw6]
                    clear hw6
                    go_wp2
                    go_ret
                    rw [HRN.out]
                    exact ⟨rfl, trivial, Below.refl _ _⟩
                  · skip
                    have hmg : ¬ (0 : Int) < (many : Int) := by omega
                    rw [if_neg hm] at hRR
                    have hi2 := hi
                    clear hm
                    have HRN := Lib.hid hRR
                    have hnn : ¬ ((i : Nat) : Int) < 0 := by omega
                    have HBZ := Lib.hid (fun W => blank_ref2 s i hi hs W)
                    clear hRR
                    go_wp2_with fail
                    refine (HWD.out _).mono ?_
                    rintro e w2 ⟨rfl, hw2⟩
                    rw [hw2]
                    clear hw2
                    go_wp2_with fail
                    refine (HA.out _).mono ?_
                    rintro e w3 ⟨rfl, hw3⟩
                    rw [hw3]
                    clear hw3
                    go_wp2_with fail
                    refine (HA.out _).mono ?_
                    rintro e w4 ⟨rfl, hw4⟩
                    rw [hw4]
                    clear hw4
                    go_wp2_with fail
                    refine (HA.out _).mono ?_
                    rintro e w6 ⟨rfl, hw6⟩
                    rw [hw6]
                    clear hw6
                    go_wp2_with fail
                    refine (HBZ.out _).mono ?_
                    rintro e w9 ⟨rfl, hw9⟩
                    rw [hw9]
                    clear hw9
                    go_wp2
                    go_ret
                    rw [HRN.out, last_end]
                    exact ⟨rfl, last_ad _ _ HO.out, (Below.refl _ _)⟩
                · skip
                  have hmg : ¬ (0 : Int) < (many : Int) := by omega
                  rw [if_neg hm] at hRR
                  have hi2 := hi
                  clear hm
                  have HRN := Lib.hid hRR
                  have hnn : ¬ ((i : Nat) : Int) < 0 := by omega
                  have HBZ := Lib.hid (fun W => blank_ref2 s i hi hs W)
                  clear hRR
                  go_wp2_with fail
                  refine (HWD.out _).mono ?_
                  rintro e w2 ⟨rfl, hw2⟩
                  rw [hw2]
                  clear hw2
                  go_wp2_with fail
                  refine (HA.out _).mono ?_
                  rintro e w3 ⟨rfl, hw3⟩
                  rw [hw3]
                  clear hw3
                  go_wp2_with fail
                  refine (HA.out _).mono ?_
                  rintro e w4 ⟨rfl, hw4⟩
                  rw [hw4]
                  clear hw4
                  go_wp2_with fail
                  refine (HA.out _).mono ?_
                  rintro e w6 ⟨rfl, hw6⟩
                  rw [hw6]
                  clear hw6
                  go_wp2_with fail
                  refine (HBZ.out _).mono ?_
                  rintro e w9 ⟨rfl, hw9⟩
                  rw [hw9]
                  clear hw9
                  go_wp2
                  go_ret
                  rw [HRN.out, last_end]
                  exact ⟨rfl, last_ad _ _ HO.out, (Below.refl _ _)⟩
                · subst hwt
                  have hmg : (0 : Int) < (many : Int) := by omega
                  rw [if_pos hm] at hRR
                  have HRN := Lib.hid (show R = none by rw [hRR]; rfl)
                  clear hRR hm
                  go_wp2_with fail
                  refine (HWD.out _).mono ?_
                  rintro e w2 ⟨rfl, hw2⟩
                  rw [hw2]
                  clear hw2
                  go_wp2_with fail
                  refine (HA.out _).mono ?_
                  rintro e w3 ⟨rfl, hw3⟩
                  rw [hw3]
                  clear hw3
                  go_wp2_with fail
                  refine (HA.out _).mono ?_
                  rintro e w4 ⟨rfl, hw4⟩
                  rw [hw4]
                  clear hw4
                  go_wp2_with fail
                  refine (HA.out _).mono ?_
                  rintro e w6 ⟨rfl, hw6⟩
                  rw [hw6]
                  clear hw6
                  go_wp2
                  go_ret
                  rw [HRN.out]
                  exact ⟨rfl, trivial, Below.refl _ _⟩
        · rw [if_neg hki] at hX
          have hkq : ((ke : Int) == (i : Int)) = false := by rw [beq_eq_false_iff_ne]; omega
          have hwm : IntKind.i64.wrap ((many : Int) + 1) = ((many + 1 : Nat) : Int) := by rw [IntKind.wrap_i64]; omega
          have HBK := Lib.hid (fun W => blank_ref2 s ke hke.2 hs W)
          cases hbk : blankE s.data.toList ke with
          | none =>
            rw [hbk] at hX HBK
            simp only [endI] at hX HBK
            have HRN := Lib.hid (HWN.out hX.symm)
            clear hX hbk hki
            go_wp2_with fail
            refine (HWD.out _).mono ?_
            rintro e w2 ⟨rfl, hw2⟩
            rw [hw2]
            clear hw2
            go_wp2_with fail
            refine (HBK.out _).mono ?_
            rintro e w3 ⟨rfl, hw3⟩
            rw [hw3]
            clear hw3
            go_wp2
            go_ret
            rw [HRN.out]
            exact ⟨rfl, trivial, Below.refl _ _⟩
          | some i2 =>
            have hi2 := blankE_le (by rw [list_len]; exact hke.2) hbk
            rw [list_len] at hi2
            rw [hbk] at hX HBK
            simp only [endI] at hX HBK
            have hn3 : ¬ (i2 : Int) < 0 := by omega
            have HXX := Lib.hid hX
            clear hX hbk
            go_wp2_with fail
            refine (HWD.out _).mono ?_
            rintro e w2 ⟨rfl, hw2⟩
            rw [hw2]
            clear hw2
            go_wp2_with fail
            refine (HBK.out _).mono ?_
            rintro e w3 ⟨rfl, hw3⟩
            rw [hw3]
            clear hw3
            go_wp2_with fail
            go_roundg (s.size + 1 - i2)
            case rel => exact ⟨rfl, f, i2, many + 1, ke, rfl, rfl, rfl, hi2.2, rfl, HXX.out, by have := HF.out; omega, hi2.1, by omega⟩
            case measure => have := HN0.out; omega
end Go.Proofs.YtffngbjnbigipaaGreatDoor
