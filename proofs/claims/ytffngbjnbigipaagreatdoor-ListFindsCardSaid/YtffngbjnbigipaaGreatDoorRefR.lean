/- The document's lists: its function route. -/
import Derived.Test.YtffngbjnbigipaaGreatDoorRefA
namespace Go.Proofs.YtffngbjnbigipaaGreatDoor
open Go.RowKit Go.Lib
set_option linter.unusedSimpArgs false
set_option linter.unusedVariables false
set_option linter.unnecessarySimpa false
set_option maxRecDepth 100000

/-- a route's end as an address' end. -/
def rouP (sp : List Sp) : Option (Nat × Bool) → Option (Nat × LSt)
  | none => none
  | some (n, g) => some (n, (sp, g))
def RoRel (B : Nat) (s : ByteArray) (sp : List Sp) (R : Option (Nat × Bool)) (w : World) (n : Nat) (v2 : Value) (W : World) : Prop :=
  Below B w W ∧ ∃ (f i : Nat) (g : Bool), v2 = .int .i64 (i : Int) ∧ i ≤ s.size ∧ n = s.size + 1 - i ∧ routeE f s.data.toList i g = R ∧ RO B (sp, g) W ∧ s.size - i < f
set_option maxHeartbeats 4000000 in
theorem route_ref (B : Nat) (s : ByteArray) (k : Nat) (sp : List Sp) (g : Bool) (w : World) (h : RO B (sp, g) w) (hk : k ≤ s.size) (hs : s.size ≤ 900000000) :
    Calls Tryz.prog 162 #[.pointer (some ⟨B, 0, none⟩), .string s, .int .i64 (k : Int)] w fun e w' => e = .returned (.int .i64 (endP (rouP sp (routeE (s.data.toList.length + 1) s.data.toList k g)))) ∧ AdP B (rouP sp (routeE (s.data.toList.length + 1) s.data.toList k g)) w' ∧ Below B w w' := by
  generalize hRR : routeE (s.data.toList.length + 1) s.data.toList k g = R
  have HR := Lib.hid hRR
  have HH := Lib.hid h
  clear hRR h
  go_enter Tryz.func162, Tryz.ntmps162
  go_wp2_with fail
  go_loopg [2, 7, 8, 9] (s.size + 1 - k) (fun n v2 v7 v8 v9 W => RoRel B s sp R w n v2 W)
  case atStart => exact ⟨Below.refl _ _, s.data.toList.length + 1, k, g, rfl, hk, rfl, HR.out, HH.out, by rw [list_len]; omega⟩
  case round =>
    obtain ⟨hb, f, i, g, rfl, hi, hn, hR, hr, hf⟩ := hrel
    have HB := Lib.hid hb
    have HN0 := Lib.hid hn
    have HR0 := Lib.hid hr
    obtain ⟨f, rfl⟩ : ∃ m, f = m + 1 := ⟨f - 1, by omega⟩
    have HF := Lib.hid hf
    rw [routeE] at hR
    have HA := Lib.hid (fun W => at_ref s i (by omega) (by omega) W)
    clear hn hf hb hr
    by_cases h64 : s.data.toList[i]? = some 64
    · rw [if_neg (by simp [h64])] at hR
      rw [nextB_yes h64] at HA
      have hq : (((64 : UInt8).toNat : Int) != 64) = false := rfl
      have hil := at_lt h64
      rw [list_len] at hil
      have hwb : IntKind.i64.wrap ((i : Int) + 1) = ((i + 1 : Nat) : Int) := by rw [IntKind.wrap_i64]; omega
      have HD := Lib.hid (fun W => domain_ref2 s (i + 1) (by omega) hs W)
      cases hdom : domE s.data.toList (i + 1) with
      | none =>
        rw [hdom] at hR HD
        simp only [endI] at HD hR
        have HRN := Lib.hid hR
        clear hR hdom h64
        go_wp2_with fail
        refine (HA.out _).mono ?_
        rintro e w2 ⟨rfl, hw2⟩
        rw [hw2]
        clear hw2
        go_wp2_with fail
        refine (HD.out _).mono ?_
        rintro e w3 ⟨rfl, hw3⟩
        rw [hw3]
        clear hw3
        go_wp2
        go_ret
        rw [← HRN.out]
        exact ⟨rfl, trivial, HB.out⟩
      | some t =>
        have hdl := domE_le (l := s.data.toList) (k := i + 1) (by rw [list_len]; omega) hdom
        rw [list_len] at hdl
        rw [hdom] at hR HD
        simp only [endI] at HD hR
        have hi0 : (0 : Int) ≤ (i : Int) := by omega
        have hit : (i : Int) ≤ (t : Int) := by omega
        have hts : (t : Int) ≤ (s.size : Int) := by omega
        have ht0 : ¬ (t : Int) < 0 := by omega
        have hwt : IntKind.i64.wrap ((t : Int) + 1) = ((t + 1 : Nat) : Int) := by rw [IntKind.wrap_i64]; omega
        have hxz : (⟨#[120]⟩ ++ s.extract i t : ByteArray).size ≤ 1000000000 := by
          have h1 : (⟨#[120]⟩ : ByteArray).size = 1 := rfl
          have h2 : (s.extract i t).size ≤ s.size := by simp; omega
          rw [ByteArray.size_append]; omega
        have hadd : ∀ w, (Op.stringOp .add ⟨#[120]⟩ (s.extract i t)).run Tryz.prog w = .ok (.string (⟨#[120]⟩ ++ s.extract i t)) w := fun w => run_string_add_sum w _ _ (by have h1 : (⟨#[120]⟩ : ByteArray).size = 1 := rfl; have h2 : (s.extract i t).size ≤ s.size := (by simp; omega); omega)
        have HP := Lib.hid (fun W => Parse_ref (⟨#[120]⟩ ++ s.extract i t) hxz W)
        have hxs : (⟨#[120]⟩ ++ s.extract i t : ByteArray).data.toList = 120 :: slc s.data.toList i t := by
          rw [ByteArray.data_append, Array.toList_append, slc_ext]; rfl
        rw [hxs] at HP
        clear hxz hxs
        have her := parse_errs (120 :: slc s.data.toList i t)
        generalize parseL (120 :: slc s.data.toList i t) = X at HP hR her
        obtain ⟨x, y, er⟩ := X
        simp only [parV, addrV] at HP hR her
        have HA2 := Lib.hid (fun W => at_ref s t (by omega) (by omega) W)
        rcases her with rfl | rfl | rfl
        · rw [if_neg (by decide)] at hR
          simp only [bne_self_eq_false, Bool.or_false] at hR
          by_cases h58 : s.data.toList[t]? = some 58
          · rw [if_pos h58] at hR
            have HRN := Lib.hid hR
            rw [nextB_yes h58] at HA2
            have hq2 : (((58 : UInt8).toNat : Int) == 58) = true := rfl
            clear hR hdom h64 h58
            go_wp2_with fail
            refine (HA.out _).mono ?_
            rintro e w2 ⟨rfl, hw2⟩
            rw [hw2]
            clear hw2
            go_wp2_with fail
            refine (HD.out _).mono ?_
            rintro e w3 ⟨rfl, hw3⟩
            rw [hw3]
            clear hw3
            go_wp2_with fail
            refine (HP.out _).mono ?_
            rintro e w4 ⟨rfl, hb4⟩
            have hbA := alloc_below w4 (.cells #[.string ⟨x.toArray⟩, .string ⟨y.toArray⟩] 33)
            obtain ⟨v, hRv, hOv⟩ := HR0.out
            simp only at hRv hOv
            have hR4 := hRv.below hb4
            have hO4 := own_but hOv (But.of_below (B := B) hb4)
            have hRA := hR4.below hbA
            have hOA := own_but hO4 (But.of_below (B := B) hbA)
            have hlA := HB.out.trans ((hb4.mono (Nat.le_of_lt hRv.lt)).trans (hbA.mono (Nat.le_of_lt hR4.lt)))
            have HRX := Lib.hid (show RO B (sp, g) (w4.alloc (.cells #[.string ⟨x.toArray⟩, .string ⟨y.toArray⟩] 33)) from ⟨v, hRA, hOA⟩)
            have HLX := Lib.hid hlA
            clear hRv hOv hR4 hO4 hOA hlA
            go_wp2_with fail
            refine (HA2.out _).mono ?_
            rintro e w5 ⟨rfl, hw5⟩
            rw [hw5]
            clear hw5
            go_wp2
            go_ret
            rw [← HRN.out]
            exact ⟨rfl, HRX.out, HLX.out⟩
          · rw [if_neg h58] at hR
            have hq2 : ((nextB s.data.toList t : Int) == 58) = false := int_ne (nextB_no h58 (by decide))
            by_cases h44 : s.data.toList[t]? = some 44
            · rw [if_pos h44] at hR
              have HRN := Lib.hid hR
              have htl := at_lt h44
              rw [list_len] at htl
              have hq3 : ((nextB s.data.toList t : Int) != 44) = false := by rw [nextB_yes h44]; rfl
              generalize nextB s.data.toList t = nb at HA2 hq2 hq3
              clear hR hdom h64 h58 h44
              go_wp2_with fail
              refine (HA.out _).mono ?_
              rintro e w2 ⟨rfl, hw2⟩
              rw [hw2]
              clear hw2
              go_wp2_with fail
              refine (HD.out _).mono ?_
              rintro e w3 ⟨rfl, hw3⟩
              rw [hw3]
              clear hw3
              go_wp2_with fail
              refine (HP.out _).mono ?_
              rintro e w4 ⟨rfl, hb4⟩
              have hbA := alloc_below w4 (.cells #[.string ⟨x.toArray⟩, .string ⟨y.toArray⟩] 33)
              obtain ⟨v, hRv, hOv⟩ := HR0.out
              simp only at hRv hOv
              have hR4 := hRv.below hb4
              have hO4 := own_but hOv (But.of_below (B := B) hb4)
              have hRA := hR4.below hbA
              have hOA := own_but hO4 (But.of_below (B := B) hbA)
              have hlA := HB.out.trans ((hb4.mono (Nat.le_of_lt hRv.lt)).trans (hbA.mono (Nat.le_of_lt hR4.lt)))
              have HRX := Lib.hid (show RO B (sp, g) (w4.alloc (.cells #[.string ⟨x.toArray⟩, .string ⟨y.toArray⟩] 33)) from ⟨v, hRA, hOA⟩)
              have HLX := Lib.hid hlA
              clear hRv hOv hR4 hO4 hOA hlA
              go_wp2_with fail
              refine (HA2.out _).mono ?_
              rintro e w5 ⟨rfl, hw5⟩
              rw [hw5]
              clear hw5
              go_wp2_with fail
              refine (HA2.out _).mono ?_
              rintro e w6 ⟨rfl, hw6⟩
              rw [hw6]
              clear hw6
              go_wp2_with fail
              go_roundg (s.size + 1 - (t + 1))
              case rel => exact ⟨HLX.out, f, t + 1, _, rfl, by omega, rfl, HRN.out, HRX.out, by have := HF.out; omega⟩
              case measure => have := HN0.out; omega
            · rw [if_neg h44] at hR
              have HRN := Lib.hid hR
              have hq3 : ((nextB s.data.toList t : Int) != 44) = true := by have := int_ne (nextB_no h44 (by decide)); simpa [bne] using this
              generalize nextB s.data.toList t = nb at HA2 hq2 hq3
              clear hR hdom h64 h58 h44
              go_wp2_with fail
              refine (HA.out _).mono ?_
              rintro e w2 ⟨rfl, hw2⟩
              rw [hw2]
              clear hw2
              go_wp2_with fail
              refine (HD.out _).mono ?_
              rintro e w3 ⟨rfl, hw3⟩
              rw [hw3]
              clear hw3
              go_wp2_with fail
              refine (HP.out _).mono ?_
              rintro e w4 ⟨rfl, hb4⟩
              have hbA := alloc_below w4 (.cells #[.string ⟨x.toArray⟩, .string ⟨y.toArray⟩] 33)
              obtain ⟨v, hRv, hOv⟩ := HR0.out
              simp only at hRv hOv
              have hR4 := hRv.below hb4
              have hO4 := own_but hOv (But.of_below (B := B) hb4)
              have hRA := hR4.below hbA
              have hOA := own_but hO4 (But.of_below (B := B) hbA)
              have hlA := HB.out.trans ((hb4.mono (Nat.le_of_lt hRv.lt)).trans (hbA.mono (Nat.le_of_lt hR4.lt)))
              have HRX := Lib.hid (show RO B (sp, g) (w4.alloc (.cells #[.string ⟨x.toArray⟩, .string ⟨y.toArray⟩] 33)) from ⟨v, hRA, hOA⟩)
              have HLX := Lib.hid hlA
              clear hRv hOv hR4 hO4 hOA hlA
              go_wp2_with fail
              refine (HA2.out _).mono ?_
              rintro e w5 ⟨rfl, hw5⟩
              rw [hw5]
              clear hw5
              go_wp2_with fail
              refine (HA2.out _).mono ?_
              rintro e w6 ⟨rfl, hw6⟩
              rw [hw6]
              clear hw6
              go_wp2
              go_ret
              rw [← HRN.out]
              exact ⟨rfl, trivial, HLX.out⟩
        · rw [if_neg (by decide), show (g || ((3 : Nat) != 0)) = true by cases g <;> rfl] at hR
          by_cases h58 : s.data.toList[t]? = some 58
          · rw [if_pos h58] at hR
            have HRN := Lib.hid hR
            rw [nextB_yes h58] at HA2
            have hq2 : (((58 : UInt8).toNat : Int) == 58) = true := rfl
            clear hR hdom h64 h58
            go_wp2_with fail
            refine (HA.out _).mono ?_
            rintro e w2 ⟨rfl, hw2⟩
            rw [hw2]
            clear hw2
            go_wp2_with fail
            refine (HD.out _).mono ?_
            rintro e w3 ⟨rfl, hw3⟩
            rw [hw3]
            clear hw3
            go_wp2_with fail
            refine (HP.out _).mono ?_
            rintro e w4 ⟨rfl, hb4⟩
            have hbA := alloc_below w4 (.cells #[.string ⟨x.toArray⟩, .string ⟨y.toArray⟩] 33)
            obtain ⟨v, hRv, hOv⟩ := HR0.out
            simp only at hRv hOv
            have hR4 := hRv.below hb4
            have hO4 := own_but hOv (But.of_below (B := B) hb4)
            have hRA := hR4.below hbA
            have hOA := own_but hO4 (But.of_below (B := B) hbA)
            have hlA := HB.out.trans ((hb4.mono (Nat.le_of_lt hRv.lt)).trans (hbA.mono (Nat.le_of_lt hR4.lt)))
            have c1 := hRA.c1
            have f1 := hRA.fr 1 (by decide)
            have HRX := Lib.hid (show RO B (sp, true) ((w4.alloc (.cells #[.string ⟨x.toArray⟩, .string ⟨y.toArray⟩] 33)).setCell ⟨B, 1, none⟩ (.bool true)) from ⟨v, hRA.long_ true, own_set (o := 1) (u := .bool true) hOA⟩)
            have HLX := Lib.hid (hlA.setCell (p := ⟨B, 1, none⟩) (Nat.le_refl _) (.bool true))
            clear hRv hOv hR4 hO4 hOA hlA
            go_wp2_with fail
            refine (HA2.out _).mono ?_
            rintro e w5 ⟨rfl, hw5⟩
            rw [hw5]
            clear hw5
            go_wp2
            go_ret
            rw [← HRN.out]
            exact ⟨rfl, HRX.out, HLX.out⟩
          · rw [if_neg h58] at hR
            have hq2 : ((nextB s.data.toList t : Int) == 58) = false := int_ne (nextB_no h58 (by decide))
            by_cases h44 : s.data.toList[t]? = some 44
            · rw [if_pos h44] at hR
              have HRN := Lib.hid hR
              have htl := at_lt h44
              rw [list_len] at htl
              have hq3 : ((nextB s.data.toList t : Int) != 44) = false := by rw [nextB_yes h44]; rfl
              generalize nextB s.data.toList t = nb at HA2 hq2 hq3
              clear hR hdom h64 h58 h44
              go_wp2_with fail
              refine (HA.out _).mono ?_
              rintro e w2 ⟨rfl, hw2⟩
              rw [hw2]
              clear hw2
              go_wp2_with fail
              refine (HD.out _).mono ?_
              rintro e w3 ⟨rfl, hw3⟩
              rw [hw3]
              clear hw3
              go_wp2_with fail
              refine (HP.out _).mono ?_
              rintro e w4 ⟨rfl, hb4⟩
              have hbA := alloc_below w4 (.cells #[.string ⟨x.toArray⟩, .string ⟨y.toArray⟩] 33)
              obtain ⟨v, hRv, hOv⟩ := HR0.out
              simp only at hRv hOv
              have hR4 := hRv.below hb4
              have hO4 := own_but hOv (But.of_below (B := B) hb4)
              have hRA := hR4.below hbA
              have hOA := own_but hO4 (But.of_below (B := B) hbA)
              have hlA := HB.out.trans ((hb4.mono (Nat.le_of_lt hRv.lt)).trans (hbA.mono (Nat.le_of_lt hR4.lt)))
              have c1 := hRA.c1
              have f1 := hRA.fr 1 (by decide)
              have HRX := Lib.hid (show RO B (sp, true) ((w4.alloc (.cells #[.string ⟨x.toArray⟩, .string ⟨y.toArray⟩] 33)).setCell ⟨B, 1, none⟩ (.bool true)) from ⟨v, hRA.long_ true, own_set (o := 1) (u := .bool true) hOA⟩)
              have HLX := Lib.hid (hlA.setCell (p := ⟨B, 1, none⟩) (Nat.le_refl _) (.bool true))
              clear hRv hOv hR4 hO4 hOA hlA
              go_wp2_with fail
              refine (HA2.out _).mono ?_
              rintro e w5 ⟨rfl, hw5⟩
              rw [hw5]
              clear hw5
              go_wp2_with fail
              refine (HA2.out _).mono ?_
              rintro e w6 ⟨rfl, hw6⟩
              rw [hw6]
              clear hw6
              go_wp2_with fail
              go_roundg (s.size + 1 - (t + 1))
              case rel => exact ⟨HLX.out, f, t + 1, _, rfl, by omega, rfl, HRN.out, HRX.out, by have := HF.out; omega⟩
              case measure => have := HN0.out; omega
            · rw [if_neg h44] at hR
              have HRN := Lib.hid hR
              have hq3 : ((nextB s.data.toList t : Int) != 44) = true := by have := int_ne (nextB_no h44 (by decide)); simpa [bne] using this
              generalize nextB s.data.toList t = nb at HA2 hq2 hq3
              clear hR hdom h64 h58 h44
              go_wp2_with fail
              refine (HA.out _).mono ?_
              rintro e w2 ⟨rfl, hw2⟩
              rw [hw2]
              clear hw2
              go_wp2_with fail
              refine (HD.out _).mono ?_
              rintro e w3 ⟨rfl, hw3⟩
              rw [hw3]
              clear hw3
              go_wp2_with fail
              refine (HP.out _).mono ?_
              rintro e w4 ⟨rfl, hb4⟩
              have hbA := alloc_below w4 (.cells #[.string ⟨x.toArray⟩, .string ⟨y.toArray⟩] 33)
              obtain ⟨v, hRv, hOv⟩ := HR0.out
              simp only at hRv hOv
              have hR4 := hRv.below hb4
              have hO4 := own_but hOv (But.of_below (B := B) hb4)
              have hRA := hR4.below hbA
              have hOA := own_but hO4 (But.of_below (B := B) hbA)
              have hlA := HB.out.trans ((hb4.mono (Nat.le_of_lt hRv.lt)).trans (hbA.mono (Nat.le_of_lt hR4.lt)))
              have c1 := hRA.c1
              have f1 := hRA.fr 1 (by decide)
              have HRX := Lib.hid (show RO B (sp, true) ((w4.alloc (.cells #[.string ⟨x.toArray⟩, .string ⟨y.toArray⟩] 33)).setCell ⟨B, 1, none⟩ (.bool true)) from ⟨v, hRA.long_ true, own_set (o := 1) (u := .bool true) hOA⟩)
              have HLX := Lib.hid (hlA.setCell (p := ⟨B, 1, none⟩) (Nat.le_refl _) (.bool true))
              clear hRv hOv hR4 hO4 hOA hlA
              go_wp2_with fail
              refine (HA2.out _).mono ?_
              rintro e w5 ⟨rfl, hw5⟩
              rw [hw5]
              clear hw5
              go_wp2_with fail
              refine (HA2.out _).mono ?_
              rintro e w6 ⟨rfl, hw6⟩
              rw [hw6]
              clear hw6
              go_wp2
              go_ret
              rw [← HRN.out]
              exact ⟨rfl, trivial, HLX.out⟩
        · rw [if_pos rfl] at hR
          have HRN := Lib.hid hR
          clear hR hdom h64
          go_wp2_with fail
          refine (HA.out _).mono ?_
          rintro e w2 ⟨rfl, hw2⟩
          rw [hw2]
          clear hw2
          go_wp2_with fail
          refine (HD.out _).mono ?_
          rintro e w3 ⟨rfl, hw3⟩
          rw [hw3]
          clear hw3
          go_wp2_with fail
          refine (HP.out _).mono ?_
          rintro e w4 ⟨rfl, hb4⟩
          have hbA := alloc_below w4 (.cells #[.string ⟨x.toArray⟩, .string ⟨y.toArray⟩] 33)
          have HL := Lib.hid (HB.out.trans ((hb4.mono (Nat.le_of_lt HR0.out.lt)).trans (hbA.mono (Nat.le_of_lt (Nat.lt_of_lt_of_le HR0.out.lt hb4.size)))))
          go_wp2
          go_ret
          rw [← HRN.out]
          exact ⟨rfl, trivial, HL.out⟩
    · rw [if_pos (by simpa using h64)] at hR
      have hq : ((nextB s.data.toList i : Int) != 64) = true := by have := int_ne (nextB_no h64 (by decide)); simpa [bne] using this
      generalize nextB s.data.toList i = nb at HA hq
      have HRN := Lib.hid hR
      clear hR h64
      go_wp2_with fail
      refine (HA.out _).mono ?_
      rintro e w2 ⟨rfl, hw2⟩
      rw [hw2]
      clear hw2
      go_wp2
      go_ret
      rw [← HRN.out]
      exact ⟨rfl, trivial, HB.out⟩
end Go.Proofs.YtffngbjnbigipaaGreatDoor
