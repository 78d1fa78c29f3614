/- Plain law: what the rows of CodingKnown answer; no program in sight. -/
import Derived.Test.YthnohioamefbmaaDoorPureD
import Derived.KernelRfl
namespace Go.Proofs.YthnohioamefbmaaDoor
open Go.RowKit Go.Lib
set_option maxRecDepth 100000
theorem kt0a : tellL L32 5 1 [] = [] := by decide
theorem kt0b : tellL L64 6 4 [] = [] := by decide
theorem kt1a : tellL L32 5 1 [102, 111] = [77, 90, 88, 81] := by decide
theorem kt1b : tellL L64 6 4 [102, 111] = [90, 109, 56, 61] := by decide
theorem kt2a : tellL L32 5 1 [102, 111, 111] = [77, 90, 88, 87, 54] := by decide
theorem kt2b : tellL L64 6 4 [102, 111, 111] = [90, 109, 57, 118] := by decide
theorem kt3a : tellL L32 5 1 [102, 111, 111, 98] = [77, 90, 88, 87, 54, 89, 81] := by decide
theorem kt3b : tellL L64 6 4 [102, 111, 111, 98] = [90, 109, 57, 118, 89, 103, 61, 61] := by decide
theorem kt4a : tellL L32 5 1 [102, 111, 111, 98, 97] = [77, 90, 88, 87, 54, 89, 84, 66] := by decide
theorem kt4b : tellL L64 6 4 [102, 111, 111, 98, 97] = [90, 109, 57, 118, 89, 109, 69, 61] := by decide
theorem k32_0 : readL L32 5 1 (Lib.mapD greatF [77]) = none := by kernel_rfl
theorem k32_1 : readL L32 5 1 (Lib.mapD greatF [77, 90, 88]) = none := by kernel_rfl
theorem k32_2 : readL L32 5 1 (Lib.mapD greatF [77, 90]) = none := by kernel_rfl
theorem k32_3 : readL L32 5 1 (Lib.mapD greatF [77, 49]) = none := by kernel_rfl
theorem k32_4 : readL L32 5 1 (Lib.mapD greatF [77, 90, 88, 87, 54, 89]) = none := by kernel_rfl
theorem k32_5 : readL L32 5 1 (Lib.mapD greatF [77, 89, 61, 61, 61, 61, 61, 61]) = none := by kernel_rfl
theorem k32_6 : readL L32 5 1 (Lib.mapD greatF [77, 32]) = none := by kernel_rfl
theorem k32_7 : readL L32 5 1 (Lib.mapD greatF [77, 90, 88, 87, 54, 89, 84, 66, 79]) = none := by kernel_rfl
theorem k32_8 : readL L32 5 1 (Lib.mapD greatF [197, 191, 197, 191]) = none := by kernel_rfl
theorem k64_0 : readL L64 6 4 [90] = none := by kernel_rfl
theorem k64_1 : readL L64 6 4 [90, 103] = none := by kernel_rfl
theorem k64_2 : readL L64 6 4 [90, 103, 61] = none := by kernel_rfl
theorem k64_3 : readL L64 6 4 [90, 104, 61, 61] = none := by kernel_rfl
theorem k64_4 : readL L64 6 4 [90, 109, 57, 61] = none := by kernel_rfl
theorem k64_5 : readL L64 6 4 [61] = none := by kernel_rfl
theorem k64_6 : readL L64 6 4 [61, 61, 61, 61] = none := by kernel_rfl
theorem k64_7 : readL L64 6 4 [90, 103, 61, 61, 90, 103, 61, 61] = none := by kernel_rfl
theorem k64_8 : readL L64 6 4 [90, 109, 57, 118, 61] = none := by kernel_rfl
theorem k64_9 : readL L64 6 4 [90, 109, 57, 118, 61, 61, 61, 61] = none := by kernel_rfl
theorem k64_10 : readL L64 6 4 [90, 109, 45, 118] = none := by kernel_rfl
theorem k64_11 : readL L64 6 4 [90, 103, 32, 61] = none := by kernel_rfl
theorem k64_12 : readL L64 6 4 [90, 61, 61, 61] = none := by kernel_rfl
theorem k16_0 : readL L16 4 1 (Lib.mapD smallF [54]) = none := by kernel_rfl
theorem k16_1 : readL L16 4 1 (Lib.mapD smallF [54, 103]) = none := by kernel_rfl
theorem k16_2 : readL L16 4 1 (Lib.mapD smallF [48, 120]) = none := by kernel_rfl
theorem k16_3 : readL L16 4 1 (Lib.mapD smallF [32, 54]) = none := by kernel_rfl
theorem k16_4 : readL L16 4 1 (Lib.mapD smallF [54, 54, 54]) = none := by kernel_rfl
theorem kf1 : readL L32 5 1 (Lib.mapD greatF [109, 122, 120, 119, 54, 121, 116, 98, 111, 105]) = some [102, 111, 111, 98, 97, 114] := by kernel_rfl
theorem kf2 : readL L16 4 1 (Lib.mapD smallF [70, 70, 48, 97]) = some [255, 10] := by kernel_rfl
theorem kf3 : tellL L64 6 4 [255, 239, 190] = [47, 43, 43, 43] := by decide
theorem kf4 : tellL L16 4 1 [0] = [48, 48] := by decide
theorem km32_0 : (Lib.mapD greatF [77]).length ≤ 30000 := by decide +kernel
theorem km32_1 : (Lib.mapD greatF [77, 90, 88]).length ≤ 30000 := by decide +kernel
theorem km32_2 : (Lib.mapD greatF [77, 90]).length ≤ 30000 := by decide +kernel
theorem km32_3 : (Lib.mapD greatF [77, 49]).length ≤ 30000 := by decide +kernel
theorem km32_4 : (Lib.mapD greatF [77, 90, 88, 87, 54, 89]).length ≤ 30000 := by decide +kernel
theorem km32_5 : (Lib.mapD greatF [77, 89, 61, 61, 61, 61, 61, 61]).length ≤ 30000 := by decide +kernel
theorem km32_6 : (Lib.mapD greatF [77, 32]).length ≤ 30000 := by decide +kernel
theorem km32_7 : (Lib.mapD greatF [77, 90, 88, 87, 54, 89, 84, 66, 79]).length ≤ 30000 := by decide +kernel
theorem km32_8 : (Lib.mapD greatF [197, 191, 197, 191]).length ≤ 30000 := by decide +kernel
end Go.Proofs.YthnohioamefbmaaDoor
