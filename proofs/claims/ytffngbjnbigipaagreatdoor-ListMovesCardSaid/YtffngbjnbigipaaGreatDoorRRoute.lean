/- list's reader: its method route. -/
import Derived.Test.YtffngbjnbigipaaGreatDoorRSpot
namespace Go.Proofs.YtffngbjnbigipaaGreatDoor
open Go.RowKit Go.Lib
set_option linter.unusedSimpArgs false
set_option linter.unusedVariables false
set_option linter.unnecessarySimpa false
set_option maxRecDepth 100000

/-- what a route comes to from a place on, as the loop's head has it. -/
def RouRel (B : Nat) (s : ByteArray) (v : Value) (R : Option (Nat × Bool)) (w : World) (n : Nat) (v2 v3 : Value) (W : World) : Prop :=
  But B w W ∧
  ((∃ f k g, v2 = .bool true ∧ k ≤ s.size ∧ n = s.size + 1 - k ∧ routeE f s.data.toList k g = R ∧ RS B s k v false g W ∧ s.size - k < f) ∨
   (∃ k g, v2 = .bool false ∧ n = 0 ∧ k ≤ s.size ∧ RS B s k v false g W ∧ R = if s.data.toList[k]? = some 58 then some (k + 1, g) else none) ∨
   (v2 = .bool false ∧ n = 0 ∧ R = none ∧ RW B s W))
def RouP (B : Nat) (s : ByteArray) (v : Value) (R : Option (Nat × Bool)) (W : World) : Prop := match R with
  | none => RW B s W
  | some (n, g) => RS B s n v false g W
set_option maxHeartbeats 1000000 in
theorem route_wrong (B : Nat) (s : ByteArray) (w : World) (h : RW B s w) :
    Calls Tryz.prog 157 #[.pointer (some ⟨B, 0, none⟩)] w fun e w' => e = .returned (.tuple #[]) ∧ RW B s w' ∧ But B w w' := by
  have HN := Lib.hid (next_wrong' B s w h)
  clear h
  go_enter Tryz.func157, Tryz.ntmps157
  go_wp2_with fail
  refine HN.out.mono ?_
  rintro e w1 ⟨rfl, hr1, hb1⟩
  have H1 := Lib.hid hr1
  clear hr1
  go_wp2
  refine bodyPost_ret (v := .tuple #[]) (by simp [results, Tryz.results157, go_sem]) rfl ⟨rfl, H1.out, hb1⟩
set_option maxHeartbeats 4000000 in
theorem route_any (B : Nat) (s : ByteArray) (k : Nat) (v : Value) (g : Bool) (w : World) (h : RS B s k v false g w) (hk : k ≤ s.size) (hs : s.size ≤ 900000000) (hE : Env w) (hB : 8 ≤ B) :
    Calls Tryz.prog 157 #[.pointer (some ⟨B, 0, none⟩)] w fun e w' => e = .returned (.tuple #[]) ∧ RouP B s v (rouE s.data.toList k g) w' ∧ But B w w' := by
  have HN := Lib.hid (next_any B s k v g w h hk (by omega))
  have HH := Lib.hid h
  by_cases h64 : s.data.toList[k]? = some 64
  · have hR : rouE s.data.toList k g = routeE (s.data.toList.length + 1) s.data.toList k g := by unfold rouE; rw [if_pos h64]
    rw [nextB_yes h64] at HN
    have hq : (((64 : UInt8).toNat : Int) != 64) = false := rfl
    rw [hR]
    generalize hRR : routeE (s.data.toList.length + 1) s.data.toList k g = R
    have HR := Lib.hid hRR
    clear hR hRR h h64
    have HE := Lib.hid hE
    clear hE
    go_enter Tryz.func157, Tryz.ntmps157
    go_wp2_with fail
    refine HN.out.mono ?_
    rintro e w1 ⟨rfl, hb1⟩
    have HB1 := Lib.hid hb1
    clear hb1
    go_wp2_with fail
    go_loopg [2, 3] (s.size + 1 - k) (fun n v2 v3 W => RouRel B s v R w n v2 v3 W)
    case atStart => exact ⟨But.of_below HB1.out, Or.inl ⟨_, k, g, rfl, hk, rfl, HR.out, HH.out.below HB1.out, by rw [list_len]; omega⟩⟩
    case round =>
      obtain ⟨hb, ⟨f, k, g, rfl, hk, hn, hR, hr, hf⟩ | ⟨k, g, rfl, hn, hk, hr, hR⟩ | ⟨rfl, hn, hR, hr⟩⟩ := hrel
      · have HB := Lib.hid hb
        have HN0 := Lib.hid hn
        obtain ⟨f, rfl⟩ : ∃ m, f = m + 1 := ⟨f - 1, by omega⟩
        have HF := Lib.hid hf
        have c1 := hr.c1
        have c3 := hr.c3
        rw [routeE] at hR
        split at hR
        · rename_i h64
          have HRN := Lib.hid hR.symm
          have HM := Lib.hid (must_not B s k v g 64 wr hr hk (by omega) h64)
          have HD := Lib.hid (fun W (h : RW B s W) => domain_wrong B s W h (by omega))
          clear hr hR hb h64 hn hf
          go_wp2_with fail
          refine HM.out.mono ?_
          rintro e w2 ⟨rfl, hr2, hb2⟩
          have H2 := Lib.hid hr2
          clear hr2
          go_wp2_with fail
          refine (HD.out _ H2.out).mono ?_
          rintro e w3 ⟨rfl, hr3, hb3⟩
          have H3 := Lib.hid hr3
          obtain ⟨k', v', long', hk', hr3⟩ := hr3
          have c3' := hr3.c3
          clear hr3
          have HI := Lib.hid (is_wrong' B s 44 _ H3.out)
          go_wp2_with fail
          refine HI.out.mono ?_
          rintro e w9 ⟨rfl, hr9, hb9⟩
          have H9 := Lib.hid hr9
          clear hr9
          go_wp2_with fail
          go_roundg 0
          case rel => exact ⟨((HB.out.trans hb2).trans hb3).trans hb9, Or.inr (Or.inr ⟨rfl, rfl, HRN.out, H9.out⟩)⟩
          case measure => have := HN0.out; omega
        · rename_i h64
          have h64 := Classical.not_not.1 h64
          have hlt := at_lt h64
          rw [list_len] at hlt
          have HM := Lib.hid (must_at B s k v g 64 wr hr (by omega) h64)
          split at hR
          · rename_i hdom
            have HRN := Lib.hid hR.symm
            have HD := Lib.hid (fun W (h : RS B s (k + 1) v false g W) => domain_none B s (k + 1) v g W h (by omega) (by omega) hdom)
            clear hr hR hb h64 hn hf hdom
            go_wp2_with fail
            refine HM.out.mono ?_
            rintro e w2 ⟨rfl, hr2, hb2⟩
            have H2 := Lib.hid hr2
            clear hr2
            go_wp2_with fail
            refine (HD.out _ H2.out).mono ?_
            rintro e w3 ⟨rfl, hr3, hb3⟩
            have H3 := Lib.hid hr3
            obtain ⟨k', v', long', hk', hr3⟩ := hr3
            have c3' := hr3.c3
            clear hr3
            have HI := Lib.hid (is_wrong' B s 44 _ H3.out)
            go_wp2_with fail
            refine HI.out.mono ?_
            rintro e w9 ⟨rfl, hr9, hb9⟩
            have H9 := Lib.hid hr9
            clear hr9
            go_wp2_with fail
            go_roundg 0
            case rel => exact ⟨((HB.out.trans hb2).trans hb3).trans hb9, Or.inr (Or.inr ⟨rfl, rfl, HRN.out, H9.out⟩)⟩
            case measure => have := HN0.out; omega
          · rename_i t hdom
            have hdl := domE_le (l := s.data.toList) (k := k + 1) (by rw [list_len]; omega) hdom
            rw [list_len] at hdl
            have HD := Lib.hid (fun W (h : RS B s (k + 1) v false g W) => domain_some B s (k + 1) t v g W h (by omega) (by omega) hdom)
            have HRR := Lib.hid (fun W (h : RS B s t v false g W) (hE : Env W) => read_any B s t v g W h (⟨#[120]⟩ ++ s.extract k t) (by have h1 : (⟨#[120]⟩ : ByteArray).size = 1 := rfl; have h2 : (s.extract k t).size ≤ s.size := (by simp; omega); rw [ByteArray.size_append]; omega) hE hB)
            have hxs : (⟨#[120]⟩ ++ s.extract k t : ByteArray).data.toList = 120 :: slc s.data.toList k t := by
              rw [ByteArray.data_append, Array.toList_append, slc_ext]; rfl
            rw [hxs] at HRR
            have her := parse_errs (120 :: slc s.data.toList k t)
            generalize parseL (120 :: slc s.data.toList k t) = X at HRR hR her
            obtain ⟨xa, xb, er⟩ := X
            simp only [addrV] at HRR hR her
            have hk0 : (0 : Int) ≤ (k : Int) := by omega
            have hkt : (k : Int) ≤ (t : Int) := by omega
            have hts : (t : Int) ≤ (s.size : Int) := by omega
            have hBlt := hr.lt
            have hadd : ∀ w, (Op.stringOp .add ⟨#[120]⟩ (s.extract k t)).run Tryz.prog w = .ok (.string (⟨#[120]⟩ ++ s.extract k t)) w := fun w => run_string_add_sum w _ _ (by have h1 : (⟨#[120]⟩ : ByteArray).size = 1 := rfl; have h2 : (s.extract k t).size ≤ s.size := (by simp; omega); omega)
            by_cases h5 : er = 5
            · rw [if_pos h5] at hR
              have HRN := Lib.hid hR.symm
              rw [show decide (er = 5) = true by simpa using h5] at HRR
              generalize decide (er = 3) = long at HRR
              clear hr hR hb h64 hn hf hdom hxs her h5
              go_wp2_with fail
              refine HM.out.mono ?_
              rintro e w2 ⟨rfl, hr2, hb2⟩
              have H2 := Lib.hid hr2
              clear hr2
              go_wp2_with fail
              refine (HD.out _ H2.out).mono ?_
              rintro e w3 ⟨rfl, hr3, hb3⟩
              have H3 := Lib.hid hr3
              have hbb := (HB.out.trans hb2).trans hb3
              have HE3 := Lib.hid (HE.out.but hbb hB)
              have HX := Lib.hid (HRR.out w3.drew (H3.out.below (drew_below w3)) (HE3.out.below (drew_below w3)))
              obtain ⟨-, d0, d1, d2, d3, d4, -⟩ := hr3
              have hS : w3.drew.cell? ⟨B, 0, none⟩ = some (.string s) ∧ w3.drew.cell? ⟨B, 1, none⟩ = some (.int .i64 (t : Int)) := ⟨d0, d1⟩
              go_wp2_with fail
              go_region_held3 (fun W => W.cell? ⟨B, 0, none⟩ = some (.string s) ∧ W.cell? ⟨B, 1, none⟩ = some (.int .i64 (t : Int)))
                (first | go_keep | exact hS5)
                (first | ((with_reducible refine HX.out.mono ?_); rintro e w5 ⟨rfl, hr5, hb5⟩; have H5 := Lib.hid hr5; have hS5 : w5.cell? ⟨B, 0, none⟩ = some (.string s) ∧ w5.cell? ⟨B, 1, none⟩ = some (.int .i64 (t : Int)) := ⟨hr5.c0, hr5.c1⟩; clear hr5))
              have hbx := (hbb.trans (But.of_below (drew_below w3))).trans hb5
              have HI := Lib.hid (is_wrong' B s 44 _ (.of hdl.2 H5.out))
              go_wp2_with fail
              refine HI.out.mono ?_
              rintro e w9 ⟨rfl, hr9, hb9⟩
              have H9 := Lib.hid hr9
              clear hr9
              go_wp2_with fail
              go_roundg 0
              case rel => exact ⟨hbx.trans hb9, Or.inr (Or.inr ⟨rfl, rfl, HRN.out, H9.out⟩)⟩
              case measure => have := HN0.out; omega
            · rw [if_neg h5] at hR
              rw [show decide (er = 5) = false by simpa using h5] at HRR
              have hd3 : (er != 0) = decide (er = 3) := by rcases her with rfl | rfl | rfl <;> first | rfl | exact absurd rfl h5
              rw [hd3] at hR
              generalize decide (er = 3) = long at HRR hR
              by_cases h44 : s.data.toList[t]? = some 44
              · rw [if_neg (by rw [h44]; decide), if_pos h44] at hR
                have HRN := Lib.hid hR
                have hlt2 := at_lt h44
                rw [list_len] at hlt2
                have HI := Lib.hid (fun W (h : RS B s t v false (g || long) W) => is_at B s t v (g || long) 44 W h (by omega) h44)
                clear hr hR hb h64 hn hf hdom hxs her h5 h44 hd3
                go_wp2_with fail
                refine HM.out.mono ?_
                rintro e w2 ⟨rfl, hr2, hb2⟩
                have H2 := Lib.hid hr2
                clear hr2
                go_wp2_with fail
                refine (HD.out _ H2.out).mono ?_
                rintro e w3 ⟨rfl, hr3, hb3⟩
                have H3 := Lib.hid hr3
                have hbb := (HB.out.trans hb2).trans hb3
                have HE3 := Lib.hid (HE.out.but hbb hB)
                have HX := Lib.hid (HRR.out w3.drew (H3.out.below (drew_below w3)) (HE3.out.below (drew_below w3)))
                obtain ⟨-, d0, d1, d2, d3, d4, -⟩ := hr3
                have hS : w3.drew.cell? ⟨B, 0, none⟩ = some (.string s) ∧ w3.drew.cell? ⟨B, 1, none⟩ = some (.int .i64 (t : Int)) := ⟨d0, d1⟩
                go_wp2_with fail
                go_region_held3 (fun W => W.cell? ⟨B, 0, none⟩ = some (.string s) ∧ W.cell? ⟨B, 1, none⟩ = some (.int .i64 (t : Int)))
                  (first | go_keep | exact hS5)
                  (first | ((with_reducible refine HX.out.mono ?_); rintro e w5 ⟨rfl, hr5, hb5⟩; have H5 := Lib.hid hr5; have hS5 : w5.cell? ⟨B, 0, none⟩ = some (.string s) ∧ w5.cell? ⟨B, 1, none⟩ = some (.int .i64 (t : Int)) := ⟨hr5.c0, hr5.c1⟩; clear hr5))
                have hbx := (hbb.trans (But.of_below (drew_below w3))).trans hb5
                go_wp2_with fail
                refine (HI.out _ H5.out).mono ?_
                rintro e w9 ⟨rfl, hr9, hb9⟩
                have H9 := Lib.hid hr9
                clear hr9
                go_wp2_with fail
                go_roundg (s.size + 1 - (t + 1))
                case rel => exact ⟨hbx.trans hb9, Or.inl ⟨f, t + 1, g || long, rfl, by omega, rfl, HRN.out, H9.out, by have := HF.out; omega⟩⟩
                case measure => have := HN0.out; omega
              · have hR2 : R = if s.data.toList[t]? = some 58 then some (t + 1, g || long) else none := by rw [← hR, if_neg h44]
                have HRN := Lib.hid hR2
                have HI := Lib.hid (fun W (h : RS B s t v false (g || long) W) => is_not B s t v (g || long) 44 W h hdl.2 (by omega) h44)
                clear hr hR hb h64 hn hf hdom hxs her h5 h44 hd3 hR2
                go_wp2_with fail
                refine HM.out.mono ?_
                rintro e w2 ⟨rfl, hr2, hb2⟩
                have H2 := Lib.hid hr2
                clear hr2
                go_wp2_with fail
                refine (HD.out _ H2.out).mono ?_
                rintro e w3 ⟨rfl, hr3, hb3⟩
                have H3 := Lib.hid hr3
                have hbb := (HB.out.trans hb2).trans hb3
                have HE3 := Lib.hid (HE.out.but hbb hB)
                have HX := Lib.hid (HRR.out w3.drew (H3.out.below (drew_below w3)) (HE3.out.below (drew_below w3)))
                obtain ⟨-, d0, d1, d2, d3, d4, -⟩ := hr3
                have hS : w3.drew.cell? ⟨B, 0, none⟩ = some (.string s) ∧ w3.drew.cell? ⟨B, 1, none⟩ = some (.int .i64 (t : Int)) := ⟨d0, d1⟩
                go_wp2_with fail
                go_region_held3 (fun W => W.cell? ⟨B, 0, none⟩ = some (.string s) ∧ W.cell? ⟨B, 1, none⟩ = some (.int .i64 (t : Int)))
                  (first | go_keep | exact hS5)
                  (first | ((with_reducible refine HX.out.mono ?_); rintro e w5 ⟨rfl, hr5, hb5⟩; have H5 := Lib.hid hr5; have hS5 : w5.cell? ⟨B, 0, none⟩ = some (.string s) ∧ w5.cell? ⟨B, 1, none⟩ = some (.int .i64 (t : Int)) := ⟨hr5.c0, hr5.c1⟩; clear hr5))
                have hbx := (hbb.trans (But.of_below (drew_below w3))).trans hb5
                go_wp2_with fail
                refine (HI.out _ H5.out).mono ?_
                rintro e w9 ⟨rfl, hb9⟩
                go_wp2_with fail
                go_roundg 0
                case rel => exact ⟨hbx.trans (But.of_below hb9), Or.inr (Or.inl ⟨t, g || long, rfl, rfl, hdl.2, H5.out.below hb9, HRN.out⟩)⟩
                case measure => have := HN0.out; omega
      · have HRR := Lib.hid hR
        have HB := Lib.hid hb
        by_cases h58 : s.data.toList[k]? = some 58
        · have HM := Lib.hid (must_at B s k v g 58 wr hr (by omega) h58)
          clear hr hR hb
          go_wp2_with fail
          refine HM.out.mono ?_
          rintro e w2 ⟨rfl, hr2, hb2⟩
          have H2 := Lib.hid hr2
          clear hr2
          go_wp2
          go_end0
          have hR := HRR.out
          rw [if_pos h58] at hR
          subst hR
          exact ⟨rfl, H2.out, HB.out.trans hb2⟩
        · have HM := Lib.hid (must_not B s k v g 58 wr hr hk (by omega) h58)
          clear hr hR hb
          go_wp2_with fail
          refine HM.out.mono ?_
          rintro e w2 ⟨rfl, hr2, hb2⟩
          have H2 := Lib.hid hr2
          clear hr2
          go_wp2
          go_end0
          have hR := HRR.out
          rw [if_neg h58] at hR
          subst hR
          exact ⟨rfl, H2.out, HB.out.trans hb2⟩
      · subst hR
        have HB := Lib.hid hb
        have HM := Lib.hid (must_wrong B s 58 wr hr)
        clear hr hb
        go_wp2_with fail
        refine HM.out.mono ?_
        rintro e w2 ⟨rfl, hr2, hb2⟩
        have H2 := Lib.hid hr2
        clear hr2
        go_wp2
        go_end0
        exact ⟨rfl, H2.out, HB.out.trans hb2⟩
  · have hq : ((nextB s.data.toList k : Int) != 64) = true := by have := int_ne (nextB_no h64 (by decide)); simpa [bne] using this
    have hR : rouE s.data.toList k g = some (k, g) := by unfold rouE; rw [if_neg h64]
    rw [hR]
    generalize nextB s.data.toList k = nb at HN hq
    clear h h64 hR
    go_enter Tryz.func157, Tryz.ntmps157
    go_wp2_with fail
    refine HN.out.mono ?_
    rintro e w1 ⟨rfl, hb1⟩
    go_wp2
    refine bodyPost_ret (v := .tuple #[]) (by simp [results, Tryz.results157, go_sem]) rfl ⟨rfl, HH.out.below hb1, But.of_below hb1⟩
end Go.Proofs.YtffngbjnbigipaaGreatDoor
