/- The examples that wake the laws of addr: true, where the package-level variables read as their texts lay them. -/
import Derived.Test.YtffngbjnbigipaaGreatDoorTxt
namespace Go.Proofs.YtffngbjnbigipaaGreatDoor
open Go.RowKit Go.Lib
set_option linter.unusedSimpArgs false
set_option linter.unusedVariables false
set_option linter.unnecessarySimpa false
set_option maxRecDepth 100000

theorem par1 : parseL (⟨#[34, 97, 32, 98, 34, 64, 68, 46, 111, 114, 103]⟩ : ByteArray).data.toList = ([97, 32, 98], [68, 46, 111, 114, 103], 0) := by decide +kernel
theorem par2 : parseL (⟨#[80, 111, 115, 116, 77, 97, 115, 116, 101, 114, 64, 120]⟩ : ByteArray).data.toList = ([80, 111, 115, 116, 77, 97, 115, 116, 101, 114], [120], 0) := by decide +kernel
theorem sub1 : subL (⟨#[117, 43, 120, 43, 121]⟩ : ByteArray).data.toList = ([117], [120, 43, 121], true) := by decide +kernel
theorem sub2 : subL (⟨#[43, 117]⟩ : ByteArray).data.toList = ([43, 117], [], false) := by decide +kernel
theorem nor1 : normL ([97, 32, 98], [68, 46, 111, 114, 103]) = ([97, 32, 98], [100, 46, 111, 114, 103]) := by decide +kernel
theorem nor2 : normL ([80, 111, 115, 116, 77, 97, 115, 116, 101, 114], [120]) = (pmL, [120]) := by decide +kernel
theorem may2 : mayL (pmL, [120]) = true ∧ dotGo pmL true = true := by decide +kernel
theorem fld1 (A B : ByteArray) (w : World) : (Instr.field 30 (.agg #[.string A, .string B]) 1).run Tryz.prog w = .ok (.string B) w := by kernel_rfl
set_option maxHeartbeats 8000000 in
theorem wakes_any (w : World) (hE : Env w) : Calls Tryz.prog 22 #[] w fun e w' => e = .returned (.bool true) ∧ Below w.heap.size w w' := by
  have H1 := Lib.hid (fun W (hE : Env W) => Parse_any ⟨#[34, 97, 32, 98, 34, 64, 68, 46, 111, 114, 103]⟩ (by decide) W hE)
  have H2 := Lib.hid (fun W (hE : Env W) => Parse_any ⟨#[80, 111, 115, 116, 77, 97, 115, 116, 101, 114, 64, 120]⟩ (by decide) W hE)
  have H3 := Lib.hid (fun W (hE : Env W) => Sub_any ⟨#[117, 43, 120, 43, 121]⟩ (by decide) W hE)
  have H4 := Lib.hid (fun W (hE : Env W) => Sub_any ⟨#[43, 117]⟩ (by decide) W hE)
  have H5 := Lib.hid (fun W => Normal_any ([97, 32, 98], [68, 46, 111, 114, 103]) (by decide) (by decide) W)
  have H6 := Lib.hid (fun W => Normal_any ([80, 111, 115, 116, 77, 97, 115, 116, 101, 114], [120]) (by decide) (by decide) W)
  have H7 := Lib.hid (fun W (hE : Env W) => Text_dot (pmL, [120]) (by decide) (by decide) may2.1 may2.2 W hE)
  rw [par1] at H1
  rw [par2] at H2
  rw [sub1] at H3
  rw [sub2] at H4
  rw [nor1] at H5
  rw [nor2] at H6
  go_enter Tryz.func22, Tryz.ntmps22
  go_wp2_with fail
  refine (H1.out w hE).mono ?_
  rintro e w1 ⟨rfl, hb1⟩
  simp only [parV, addrV]
  have T1 := Two.made w1 (.string ⟨#[97, 32, 98]⟩) (.string ⟨#[68, 46, 111, 114, 103]⟩) 30
  have hbA := hb1.trans ((alloc_below w1 (.cells #[.string ⟨#[97, 32, 98]⟩, .string ⟨#[68, 46, 111, 114, 103]⟩] 30)).mono hb1.size)
  generalize hwA : w1.alloc (.cells #[.string ⟨#[97, 32, 98]⟩, .string ⟨#[68, 46, 111, 114, 103]⟩] 30) = wA at T1 hbA
  go_wp2_with fail
  refine (H2.out wA (hE.below hbA)).mono ?_
  rintro e w2 ⟨rfl, hb2⟩
  simp only [parV, addrV]
  have hbw2 := hbA.trans (hb2.mono hbA.size)
  have T2 := Two.made w2 (.string ⟨#[80, 111, 115, 116, 77, 97, 115, 116, 101, 114]⟩) (.string ⟨#[120]⟩) 30
  have hbB0 := alloc_below w2 (.cells #[.string ⟨#[80, 111, 115, 116, 77, 97, 115, 116, 101, 114]⟩, .string ⟨#[120]⟩] 30)
  have hbB := hbw2.trans (hbB0.mono hbw2.size)
  have T1 := (T1.below hb2).below hbB0
  clear hwA
  generalize hwB : w2.alloc (.cells #[.string ⟨#[80, 111, 115, 116, 77, 97, 115, 116, 101, 114]⟩, .string ⟨#[120]⟩] 30) = wB at T1 T2 hbB hbB0
  go_wp2_with fail
  refine (H3.out wB (hE.below hbB)).mono ?_
  rintro e w3 ⟨rfl, hb3⟩
  simp only [subV]
  have hbw3 := hbB.trans (hb3.mono hbB.size)
  have T1 := T1.below hb3
  have T2 := T2.below hb3
  clear hwB hbB0
  go_wp2_with fail
  refine (H4.out w3 (hE.below hbw3)).mono ?_
  rintro e w4 ⟨rfl, hb4⟩
  simp only [subV]
  have hbw4 := hbw3.trans (hb4.mono hbw3.size)
  have T1 := T1.below hb4
  have T2 := Lib.hid (T2.below hb4)
  obtain ⟨-, c0, c1, f0, f1⟩ := T1
  go_wp2_with fail
  refine (H5.out w4).mono ?_
  rintro e w5 ⟨rfl, hb5⟩
  simp only [addrV]
  have hbw5 := hbw4.trans (hb5.mono hbw4.size)
  clear c0 c1 f0 f1
  obtain ⟨-, c0, c1, f0, f1⟩ := T2.out.below hb5
  have hfl := fld1 ⟨#[97, 32, 98]⟩ ⟨#[100, 46, 111, 114, 103]⟩ w5
  go_wp2_with fail
  refine (H6.out w5).mono ?_
  rintro e w6 ⟨rfl, hb6⟩
  simp only [addrV, pmL]
  have hbw6 := hbw5.trans (hb6.mono hbw5.size)
  clear c0 c1 f0 f1
  have h7 : Calls Tryz.prog 17 #[.agg #[.string ⟨#[112, 111, 115, 116, 109, 97, 115, 116, 101, 114]⟩, .string ⟨#[120]⟩]] w6 fun e w' => e = .returned (.string ⟨#[112, 111, 115, 116, 109, 97, 115, 116, 101, 114, 64, 120]⟩) ∧ Below w6.heap.size w6 w' := H7.out w6 (hE.below hbw6)
  have H7b := Lib.hid h7
  clear h7
  go_wp2_with fail
  refine H7b.out.mono ?_
  rintro e w7 ⟨rfl, hb7⟩
  have hbw7 := hbw6.trans (hb7.mono hbw6.size)
  go_wp2
  go_ret
  exact ⟨rfl, hbw7⟩
end Go.Proofs.YtffngbjnbigipaaGreatDoor
