/- The listed variables of CodingBack, unicode.CaseRanges among them: a world that meets the condition; what the condition gives the walk. -/
import Derived.Test.YthnohioamefbmaaDoorLaid
import Derived.Great.CaseRows
import Derived.Lib.LaidIn
namespace Go.Proofs.YthnohioamefbmaaDoor
open Go.ChangeShapes Go.WideShapes Go.ChangeAt Go.RowKit Go.Lib Go.Great
set_option maxRecDepth 100000

theorem caseTypes : CTypes Tryd.prog 91 107 105 99 21 := ⟨Tryd.underlying91, Tryd.underlying107, Tryd.underlying105, Tryd.underlying99, Tryd.underlying21, by kernel_rfl, by kernel_rfl, by kernel_rfl, by kernel_rfl⟩
noncomputable abbrev blocks0 : Nat := (World.settled Tryd.prog default).heap.size
/-- THE WITNESS: the settled world, a block more for the rows of unicode.CaseRanges, the listed variables as they read. -/
noncomputable def laidWorld4 (os : Os) : World :=
  let N := (World.settled Tryd.prog os).heap.size
  let w0 := World.holding Tryd.prog os ⟨#[.cells (caseT.flatMap Go.Lib.cells5).toArray 107], #[], []⟩
  let put (h : Array Obj) (g : Nat) (cs : Array Value) : Array Obj := h.modify g fun
    | .cells _ t frozen => .cells cs t frozen
    | o => o
  let h1 := put w0.heap 0 #[.string L32, .int .i64 5, .int .i64 1, .string L64, .int .i64 6, .int .i64 4, .string L16, .int .i64 4, .int .i64 1]
  let h2 := put h1 1 #[.slice (some ⟨N, 0, none⟩) caseT.length caseT.length]
  let h3 := put h2 2 (Lib.firstTab.map fun z => Value.int .u8 z).toArray
  let h4 := put h3 3 ((List.range 16).flatMap fun i => [Value.int .u8 (Lib.accLo i), Value.int .u8 (Lib.accHi i)]).toArray
  { w0 with heap := h4 }
theorem pieceA (os : Os) (args : Array Value) : LaidIn Tryd.prog ((laidWorld4 os).forCall (fun _ _ => 0) ⟨#[], args, []⟩).memory [("unicode/utf8.acceptRanges", Rows.laid_unicode_utf8_acceptRanges), ("postrider/coding.kinds", Rows.laid_postrider_coding_kinds)] [0, 3] :=
  LaidIn.of_run [0, 3] 8 (by kernel_rfl) (by kernel_rfl) (by kernel_rfl) (by kernel_rfl)
theorem pieceC (os : Os) (args : Array Value) : LaidIn Tryd.prog ((laidWorld4 os).forCall (fun _ _ => 0) ⟨#[], args, []⟩).memory [("unicode/utf8.first", Rows.laid_unicode_utf8_first)] [2] :=
  LaidIn.of_run [2] 8 (by kernel_rfl) (by kernel_rfl) (by kernel_rfl) (by kernel_rfl)
theorem pieceB (os : Os) (args : Array Value) : LaidIn Tryd.prog ((laidWorld4 os).forCall (fun _ _ => 0) ⟨#[], args, []⟩).memory [("unicode.CaseRanges", .slice (caseT.map rowData) [])] [1, blocks0] :=
  laidIn_case caseTypes (name := "unicode.CaseRanges") (g := 1) (B := blocks0) (tg := 91) (tb := 107) caseT (by kernel_rfl) (by kernel_rfl) (Nat.le_of_ble_eq_true (by kernel_rfl)) (by kernel_rfl) (by kernel_rfl) (by kernel_rfl) (of_decide_eq_true (by kernel_rfl))
theorem case_datum : Rows.laid_unicode_CaseRanges = .slice (caseT.map rowData) [] := by kernel_rfl
theorem laid_met4 (os : Os) (args : Array Value) : laidMetH Tryd.prog [("unicode/utf8.acceptRanges", Rows.laid_unicode_utf8_acceptRanges), ("postrider/coding.kinds", Rows.laid_postrider_coding_kinds), ("unicode.CaseRanges", Rows.laid_unicode_CaseRanges), ("unicode/utf8.first", Rows.laid_unicode_utf8_first)] ((laidWorld4 os).forCall (fun _ _ => 0) ⟨#[], args, []⟩).memory := by
  rw [MakeChecks.laidMetH_plain _ _ _ (by kernel_rfl), case_datum]
  exact ((pieceA os args).append ((pieceB os args).append (pieceC os args) (by kernel_rfl)) (by kernel_rfl)).met
theorem tabs_of4 {W : World} (hL : laidMetH Tryd.prog [("unicode/utf8.acceptRanges", Rows.laid_unicode_utf8_acceptRanges), ("postrider/coding.kinds", Rows.laid_postrider_coding_kinds), ("unicode.CaseRanges", Rows.laid_unicode_CaseRanges), ("unicode/utf8.first", Rows.laid_unicode_utf8_first)] W) : Tabs W := by
  rw [MakeChecks.laidMetH_plain _ _ _ (by kernel_rfl)] at hL
  have h2 := laidMet.reads hL (.head _)
  have h3 := laidMet.reads hL (.tail _ (.tail _ (.tail _ (.head _))))
  exact tabs_of_laid hL (.tail _ (.head _)) (.tail _ (.tail _ (.tail _ (.head _)))) (.head _) (heap_four ((utf8Tabs_of_reads Tryd.lays260 ⟨by kernel_rfl, by kernel_rfl, by kernel_rfl, by kernel_rfl, by kernel_rfl, by kernel_rfl, by kernel_rfl⟩ h3 h2).2 0 (by omega)).1)
end Go.Proofs.YthnohioamefbmaaDoor
