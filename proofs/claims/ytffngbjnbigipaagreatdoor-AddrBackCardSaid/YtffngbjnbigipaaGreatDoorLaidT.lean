/- The listed variables of AddrBack, three of unicode among them: a world that meets the condition; what the condition gives the walk. -/
import Derived.Test.YtffngbjnbigipaaGreatDoorLaid
import Derived.Great.CaseRows
import Derived.Lib.LaidIn
namespace Go.Proofs.YtffngbjnbigipaaGreatDoor
open Go.ChangeShapes Go.WideShapes Go.ChangeAt Go.RowKit Go.Lib Go.Great
set_option maxRecDepth 100000

theorem caseTypes : CTypes Tryz.prog 140 168 166 56 21 := ⟨Tryz.underlying140, Tryz.underlying168, Tryz.underlying166, Tryz.underlying56, Tryz.underlying21, by kernel_rfl, by kernel_rfl, by kernel_rfl, by kernel_rfl⟩
noncomputable abbrev blocks0 : Nat := (World.settled Tryz.prog default).heap.size
def orbM : List Int := [75, 107, 83, 115, 107, 8490, 115, 383, 181, 924, 197, 229, 223, 7838, 229, 8491, 304, 304, 305, 305, 383, 83, 452, 453, 453, 454, 454, 452, 455, 456, 456, 457, 457, 455, 458, 459, 459, 460, 460, 458, 497, 498, 498, 499, 499, 497, 837, 921, 912, 8147, 914, 946, 917, 949, 920, 952, 921, 953, 922, 954, 924, 956, 928, 960, 929, 961, 931, 962, 934, 966, 937, 969, 944, 8163, 946, 976, 949, 1013, 952, 977, 953, 8126, 954, 1008, 956, 181, 960, 982, 961, 1009, 962, 963, 963, 931, 966, 981, 969, 8486, 976, 914, 977, 1012, 981, 934, 982, 928, 1008, 922, 1009, 929, 1012, 920, 1013, 917, 1042, 1074, 1044, 1076, 1054, 1086, 1057, 1089, 1058, 1090, 1066, 1098, 1074, 7296, 1076, 7297, 1086, 7298, 1089, 7299, 1090, 7300, 1098, 7302, 1122, 1123, 1123, 7303, 7296, 1042, 7297, 1044, 7298, 1054, 7299, 1057, 7300, 7301, 7301, 1058, 7302, 1066, 7303, 1122, 7304, 42570, 7776, 7777, 7777, 7835, 7835, 7776, 7838, 223, 8126, 837, 8147, 912, 8163, 944, 8486, 937, 8490, 75, 8491, 197, 42570, 42571, 42571, 7304, 64261, 64262, 64262, 64261]
/-- THE WITNESS: the settled world, a block more for the rows of unicode.CaseRanges, the listed variables as they read. -/
noncomputable def laidWorldT (os : Os) : World :=
  let N := (World.settled Tryz.prog os).heap.size
  let w0 := World.holding Tryz.prog os ⟨#[.cells (caseT.flatMap Go.Lib.cells5).toArray 168, .cells (orbM.map fun z => Value.int .u16 z).toArray 137], #[], []⟩
  let put (h : Array Obj) (g : Nat) (cs : Array Value) : Array Obj := h.modify g fun
    | .cells _ t frozen => .cells cs t frozen
    | o => o
  let h1 := put w0.heap 6 #[.int .u32 0, .int .u32 2751442170, .int .u32 3355443198, .int .u32 2147483647]
  let h2 := put h1 4 (Lib.firstTab.map fun z => Value.int .u8 z).toArray
  let h3 := put h2 5 ((List.range 16).flatMap fun i => [Value.int .u8 (Lib.accLo i), Value.int .u8 (Lib.accHi i)]).toArray
  let h4 := put h3 7 (Lib.pow10Tab.map fun z => Value.int .u64 z).toArray
  let h5 := put h4 8 (([0, 1, 28, 2, 29, 14, 24, 3, 30, 22, 20, 15, 25, 17, 4, 8, 31, 27, 13, 23, 21, 19, 16, 7, 26, 12, 18, 6, 11, 5, 10, 9] : List Int).map fun z => Value.int .u8 z).toArray
  let h6 := put h5 9 (([0, 1, 56, 2, 57, 49, 28, 3, 61, 58, 42, 50, 38, 29, 17, 4, 62, 47, 59, 36, 45, 43, 51, 22, 53, 39, 33, 30, 24, 18, 12, 5, 63, 55, 48, 27, 60, 41, 37, 16, 46, 35, 44, 21, 52, 32, 23, 11, 54, 26, 40, 15, 34, 20, 31, 10, 25, 14, 19, 9, 13, 8, 7, 6] : List Int).map fun z => Value.int .u8 z).toArray
  let h7 := put h6 2 #[.slice (some ⟨N, 0, none⟩) caseT.length caseT.length]
  let h8 := put h7 0 (([0, 1, 2, 3, 4, 5, 6, 7, 8, 9, 10, 11, 12, 13, 14, 15, 16, 17, 18, 19, 20, 21, 22, 23, 24, 25, 26, 27, 28, 29, 30, 31, 32, 33, 34, 35, 36, 37, 38, 39, 40, 41, 42, 43, 44, 45, 46, 47, 48, 49, 50, 51, 52, 53, 54, 55, 56, 57, 58, 59, 60, 61, 62, 63, 64, 97, 98, 99, 100, 101, 102, 103, 104, 105, 106, 107, 108, 109, 110, 111, 112, 113, 114, 115, 116, 117, 118, 119, 120, 121, 122, 91, 92, 93, 94, 95, 96, 65, 66, 67, 68, 69, 70, 71, 72, 73, 74, 8490, 76, 77, 78, 79, 80, 81, 82, 383, 84, 85, 86, 87, 88, 89, 90, 123, 124, 125, 126, 127] : List Int).map fun z => Value.int .u16 z).toArray
  let h9 := put h8 1 #[.slice (some ⟨N + 1, 0, none⟩) 94 94]
  { w0 with heap := h9 }
theorem pieceA (os : Os) (args : Array Value) : LaidIn Tryz.prog ((laidWorldT os).forCall (fun _ _ => 0) ⟨#[], args, []⟩).memory [("math/bits.deBruijn32tab", Rows.laid_math_bits_deBruijn32tab), ("math/bits.deBruijn64tab", Rows.laid_math_bits_deBruijn64tab), ("internal/strconv.uint64pow10", Rows.laid_internal_strconv_uint64pow10), ("unicode/utf8.acceptRanges", Rows.laid_unicode_utf8_acceptRanges)] [8, 9, 7, 5] :=
  LaidIn.of_run [8, 9, 7, 5] 8 (by kernel_rfl) (by kernel_rfl) (by kernel_rfl) (by kernel_rfl)
theorem pieceF (os : Os) (args : Array Value) : LaidIn Tryz.prog ((laidWorldT os).forCall (fun _ _ => 0) ⟨#[], args, []⟩).memory [("unicode.asciiFold", Rows.laid_unicode_asciiFold)] [0] :=
  LaidIn.of_run [0] 8 (by kernel_rfl) (by kernel_rfl) (by kernel_rfl) (by kernel_rfl)
theorem pieceO (os : Os) (args : Array Value) : LaidIn Tryz.prog ((laidWorldT os).forCall (fun _ _ => 0) ⟨#[], args, []⟩).memory [("unicode.caseOrbit", Rows.laid_unicode_caseOrbit)] [1, blocks0 + 1] :=
  LaidIn.of_run [1, blocks0 + 1] 8 (by kernel_rfl) (by kernel_rfl) (by kernel_rfl) (by kernel_rfl)
theorem pieceX (os : Os) (args : Array Value) : LaidIn Tryz.prog ((laidWorldT os).forCall (fun _ _ => 0) ⟨#[], args, []⟩).memory [("postrider/text.atext", Rows.laid_postrider_text_atext)] [6] :=
  LaidIn.of_run [6] 8 (by kernel_rfl) (by kernel_rfl) (by kernel_rfl) (by kernel_rfl)
theorem pieceC (os : Os) (args : Array Value) : LaidIn Tryz.prog ((laidWorldT os).forCall (fun _ _ => 0) ⟨#[], args, []⟩).memory [("unicode/utf8.first", Rows.laid_unicode_utf8_first)] [4] :=
  LaidIn.of_run [4] 8 (by kernel_rfl) (by kernel_rfl) (by kernel_rfl) (by kernel_rfl)
theorem pieceB (os : Os) (args : Array Value) : LaidIn Tryz.prog ((laidWorldT os).forCall (fun _ _ => 0) ⟨#[], args, []⟩).memory [("unicode.CaseRanges", .slice (caseT.map rowData) [])] [2, blocks0] :=
  laidIn_case caseTypes (name := "unicode.CaseRanges") (g := 2) (B := blocks0) (tg := 140) (tb := 168) caseT (by kernel_rfl) (by kernel_rfl) (Nat.le_of_ble_eq_true (by kernel_rfl)) (by kernel_rfl) (by kernel_rfl) (by kernel_rfl) (of_decide_eq_true (by kernel_rfl))
theorem case_datum : Rows.laid_unicode_CaseRanges = .slice (caseT.map rowData) [] := by kernel_rfl
theorem laid_metT (os : Os) (args : Array Value) : laidMetH Tryz.prog [("math/bits.deBruijn32tab", Rows.laid_math_bits_deBruijn32tab), ("math/bits.deBruijn64tab", Rows.laid_math_bits_deBruijn64tab), ("internal/strconv.uint64pow10", Rows.laid_internal_strconv_uint64pow10), ("unicode/utf8.acceptRanges", Rows.laid_unicode_utf8_acceptRanges), ("unicode.asciiFold", Rows.laid_unicode_asciiFold), ("unicode.caseOrbit", Rows.laid_unicode_caseOrbit), ("postrider/text.atext", Rows.laid_postrider_text_atext), ("unicode.CaseRanges", Rows.laid_unicode_CaseRanges), ("unicode/utf8.first", Rows.laid_unicode_utf8_first)] ((laidWorldT os).forCall (fun _ _ => 0) ⟨#[], args, []⟩).memory := by
  rw [MakeChecks.laidMetH_plain _ _ _ (by kernel_rfl), case_datum]
  exact ((pieceA os args).append ((pieceF os args).append ((pieceO os args).append ((pieceX os args).append ((pieceB os args).append (pieceC os args) (by kernel_rfl)) (by kernel_rfl)) (by kernel_rfl)) (by kernel_rfl)) (by kernel_rfl)).met
theorem env_ofT {W : World} (hL : laidMetH Tryz.prog [("math/bits.deBruijn32tab", Rows.laid_math_bits_deBruijn32tab), ("math/bits.deBruijn64tab", Rows.laid_math_bits_deBruijn64tab), ("internal/strconv.uint64pow10", Rows.laid_internal_strconv_uint64pow10), ("unicode/utf8.acceptRanges", Rows.laid_unicode_utf8_acceptRanges), ("unicode.asciiFold", Rows.laid_unicode_asciiFold), ("unicode.caseOrbit", Rows.laid_unicode_caseOrbit), ("postrider/text.atext", Rows.laid_postrider_text_atext), ("unicode.CaseRanges", Rows.laid_unicode_CaseRanges), ("unicode/utf8.first", Rows.laid_unicode_utf8_first)] W) (hsh : W.ShapedOpen Tryz.prog) : Env W := by
  rw [MakeChecks.laidMetH_plain _ _ _ (by kernel_rfl)] at hL
  have h1 := laidMet.reads hL (.tail _ (.tail _ (.head _)))
  have h2 := laidMet.reads hL (.tail _ (.tail _ (.tail _ (.tail _ (.tail _ (.tail _ (.head _)))))))
  rw [pow_data] at h1
  rw [atext_data] at h2
  have t1 := tab_reads (g := 7) (t := 200) (e := 113) (n := 20) (by kernel_rfl) (by kernel_rfl) Tryz.underlying200 Tryz.underlying113 (by kernel_rfl) (by kernel_rfl) h1
  have t2 := tab_reads (g := 6) (t := 187) (e := 56) (n := 4) (by kernel_rfl) (by kernel_rfl) Tryz.underlying187 Tryz.underlying56 (by kernel_rfl) (by kernel_rfl) h2
  have hn : Tryz.prog.globalNamed "postrider/text.atext" = some 6 := by kernel_rfl
  exact ⟨⟨TabIs.cell t2 hn 0 (by decide), TabIs.cell t2 hn 1 (by decide), TabIs.cell t2 hn 2 (by decide), TabIs.cell t2 hn 3 (by decide)⟩,
    Go.Proofs.cell_of_shapedOpen_int (zero := #[.int .i64 0]) (t := 3) hsh (of_decide_eq_true (by kernel_rfl)) (by kernel_rfl) rfl (by kernel_rfl) (by kernel_rfl) Tryz.underlying3, t1⟩
end Go.Proofs.YtffngbjnbigipaaGreatDoor
