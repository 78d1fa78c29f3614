/-
  NARROWER THAN 'FOR EVERY INPUT', by the rows' own cells (each row's printed sentence says how): CodingTells: laid · CodingKnown: laid · CodingJoins: laid · CodingBack: laid.
  DERIVED. THE GIVEN ROWS OF THIS SEAT. 4 by the template 'for every input the law returns true; each argument reads behind the call as it read before'; 0 by the template 'total and deterministic' (their statements: YthnohioamefbmaaDoorTotals.lean).
  GIVEN WITH THE SEED: the statements are not yours to turn. If you find one false, say at which input.
  Laid BY PROGRAM, IN A SANDBOX (cutbox-rows.mjs): the forced cells as the released guide's own fill.sh prints them over the translation cefa335258c99129… (all of the seat's roots in one cut). By AI agents, Wed Nov 11 2026. No macro, syntax, notation, axiom, sorry.
-/
import Derived.Test.YthnohioamefbmaaDoorChecked
import GoSem.PinnedTables
import GoSem.Claim
import GoSem.ClaimJoined
import GoSem.ClaimMapViews
import Derived.JoinedTies
import Derived.KernelRfl
namespace Go.Proofs.YthnohioamefbmaaDoor
/- THE CELL 'sum', in the pinned program and in every row, IS THE sha256 OF THE DUMP (.gsa) THAT YthnohioamefbmaaDoorProg.lean LOADS. Nothing in Lean hashes anything: it is a label: what it is worth is what the hold of that sum in a sandbox is worth. -/
noncomputable def Tryd.pinned : Pinned := { name := "ythnohioamefbmaadoor", sum := "cefa335258c99129b632499b82ebd6a57ef73604de4c478c6083818b6a27b708", checked := Tryd.checked }
namespace Rows
def none {H : Type} : Left H := { results := [], args := [] }

/- WHAT THE LISTED PACKAGE-LEVEL VARIABLES READ AS WHEN THE CALL BEGINS. Each datum BY PROGRAM (the guide's laid-datum.mjs) off the statement by which the dump's own 'gosem.cut.vars' lays the variable. In a bare row this is a premise. The card (YthnohioamefbmaaDoorCards.lean) ties it to the program's text. -/
def laid_unicode_utf8_acceptRanges {H : Type} : DataW H := .agg [.agg [.lit (.int .u8 128), .lit (.int .u8 191)], .agg [.lit (.int .u8 160), .lit (.int .u8 191)], .agg [.lit (.int .u8 128), .lit (.int .u8 159)], .agg [.lit (.int .u8 144), .lit (.int .u8 191)], .agg [.lit (.int .u8 128), .lit (.int .u8 143)], .agg [.lit (.int .u8 0), .lit (.int .u8 0)], .agg [.lit (.int .u8 0), .lit (.int .u8 0)], .agg [.lit (.int .u8 0), .lit (.int .u8 0)], .agg [.lit (.int .u8 0), .lit (.int .u8 0)], .agg [.lit (.int .u8 0), .lit (.int .u8 0)], .agg [.lit (.int .u8 0), .lit (.int .u8 0)], .agg [.lit (.int .u8 0), .lit (.int .u8 0)], .agg [.lit (.int .u8 0), .lit (.int .u8 0)], .agg [.lit (.int .u8 0), .lit (.int .u8 0)], .agg [.lit (.int .u8 0), .lit (.int .u8 0)], .agg [.lit (.int .u8 0), .lit (.int .u8 0)]]
def laid_postrider_coding_kinds {H : Type} : DataW H := .agg [.agg [.lit (.string [65, 66, 67, 68, 69, 70, 71, 72, 73, 74, 75, 76, 77, 78, 79, 80, 81, 82, 83, 84, 85, 86, 87, 88, 89, 90, 50, 51, 52, 53, 54, 55]), .lit (.int .i64 5), .lit (.int .i64 1)], .agg [.lit (.string [65, 66, 67, 68, 69, 70, 71, 72, 73, 74, 75, 76, 77, 78, 79, 80, 81, 82, 83, 84, 85, 86, 87, 88, 89, 90, 97, 98, 99, 100, 101, 102, 103, 104, 105, 106, 107, 108, 109, 110, 111, 112, 113, 114, 115, 116, 117, 118, 119, 120, 121, 122, 48, 49, 50, 51, 52, 53, 54, 55, 56, 57, 43, 47]), .lit (.int .i64 6), .lit (.int .i64 4)], .agg [.lit (.string [48, 49, 50, 51, 52, 53, 54, 55, 56, 57, 97, 98, 99, 100, 101, 102]), .lit (.int .i64 4), .lit (.int .i64 1)]]
/-- One of Go's own tables, pinned by name: the form's constant. -/
def laid_unicode_utf8_first : DataW Unit := Go.Pinned.utf8First
/-- One of Go's own tables, pinned by name: the form's constant. -/
def laid_unicode_CaseRanges : DataW Unit := Go.Pinned.caseRanges

/-- 'postriderlaw11.CodingTells': WHATEVER THE INPUT: true; the input reads as it did. -/
def codingTellsSpec : ChangeSpec := { name := "codingTells", fn := fun _ => fun
  | [d1, d2] => { results := [.lit (.bool true)], args := [d1, d2] }
  | _ => none }
def codingTellsRow : OpenClaim := { program := "ythnohioamefbmaadoor", sum := "cefa335258c99129b632499b82ebd6a57ef73604de4c478c6083818b6a27b708", func := "postrider/postriderlaw11.CodingTells", spec := "codingTells", inPlace := ["internal/abi.NoEscape", "internal/bytealg.MakeNoZero", "internal/bytealg.IndexByteString", "internal/bytealg.IndexString"], unfollowed := true, recurses := true, named := ["postrider/coding.kinds", "unicode/utf8.first", "unicode/utf8.acceptRanges", "internal/bytealg.MaxLen"], apart := false, laid := [("unicode/utf8.acceptRanges", laid_unicode_utf8_acceptRanges), ("postrider/coding.kinds", laid_postrider_coding_kinds), ("unicode/utf8.first", laid_unicode_utf8_first)] }
def CodingTellsSaid : Prop := codingTellsRow.holds Tryd.pinned (OpenSpec.ofChange codingTellsSpec)

/-- ITS FALSE NEIGHBOUR: 'it returns false'. Refute it at one input. -/
def codingTellsWrong : ChangeSpec := { name := "codingTells", fn := fun _ => fun
  | [d1, d2] => { results := [.lit (.bool false)], args := [d1, d2] }
  | _ => none }
def CodingTellsWrongFalsely : Prop := codingTellsRow.holds Tryd.pinned (OpenSpec.ofChange codingTellsWrong)

/-- 'postriderlaw11.CodingKnown': WHATEVER THE INPUT: true; the input reads as it did. -/
def codingKnownSpec : ChangeSpec := { name := "codingKnown", fn := fun _ => fun
  | [] => { results := [.lit (.bool true)], args := [] }
  | _ => none }
def codingKnownRow : OpenClaim := { program := "ythnohioamefbmaadoor", sum := "cefa335258c99129b632499b82ebd6a57ef73604de4c478c6083818b6a27b708", func := "postrider/postriderlaw11.CodingKnown", spec := "codingKnown", inPlace := ["internal/abi.NoEscape", "internal/bytealg.MakeNoZero", "internal/bytealg.IndexByteString", "internal/bytealg.IndexString"], unfollowed := true, recurses := true, named := ["postrider/coding.kinds", "unicode/utf8.first", "unicode/utf8.acceptRanges", "internal/bytealg.MaxLen"], apart := false, laid := [("unicode/utf8.acceptRanges", laid_unicode_utf8_acceptRanges), ("postrider/coding.kinds", laid_postrider_coding_kinds), ("unicode/utf8.first", laid_unicode_utf8_first)] }
def CodingKnownSaid : Prop := codingKnownRow.holds Tryd.pinned (OpenSpec.ofChange codingKnownSpec)

/-- ITS FALSE NEIGHBOUR: 'it returns false'. Refute it at one input. -/
def codingKnownWrong : ChangeSpec := { name := "codingKnown", fn := fun _ => fun
  | [] => { results := [.lit (.bool false)], args := [] }
  | _ => none }
def CodingKnownWrongFalsely : Prop := codingKnownRow.holds Tryd.pinned (OpenSpec.ofChange codingKnownWrong)

/-- 'postriderlaw11.CodingJoins': WHATEVER THE INPUT: true; the input reads as it did. -/
def codingJoinsSpec : ChangeSpec := { name := "codingJoins", fn := fun _ => fun
  | [d1, d2, d3] => { results := [.lit (.bool true)], args := [d1, d2, d3] }
  | _ => none }
def codingJoinsRow : OpenClaim := { program := "ythnohioamefbmaadoor", sum := "cefa335258c99129b632499b82ebd6a57ef73604de4c478c6083818b6a27b708", func := "postrider/postriderlaw11.CodingJoins", spec := "codingJoins", inPlace := ["internal/abi.NoEscape", "internal/bytealg.MakeNoZero", "internal/bytealg.IndexByteString", "internal/bytealg.IndexString"], unfollowed := true, recurses := true, named := ["postrider/coding.kinds", "unicode/utf8.first", "unicode/utf8.acceptRanges", "internal/bytealg.MaxLen"], apart := false, laid := [("unicode/utf8.acceptRanges", laid_unicode_utf8_acceptRanges), ("postrider/coding.kinds", laid_postrider_coding_kinds), ("unicode/utf8.first", laid_unicode_utf8_first)] }
def CodingJoinsSaid : Prop := codingJoinsRow.holds Tryd.pinned (OpenSpec.ofChange codingJoinsSpec)

/-- ITS FALSE NEIGHBOUR: 'it returns false'. Refute it at one input. -/
def codingJoinsWrong : ChangeSpec := { name := "codingJoins", fn := fun _ => fun
  | [d1, d2, d3] => { results := [.lit (.bool false)], args := [d1, d2, d3] }
  | _ => none }
def CodingJoinsWrongFalsely : Prop := codingJoinsRow.holds Tryd.pinned (OpenSpec.ofChange codingJoinsWrong)

/-- 'postriderlaw11.CodingBack': WHATEVER THE INPUT: true; the input reads as it did. -/
def codingBackSpec : ChangeSpec := { name := "codingBack", fn := fun _ => fun
  | [d1, d2] => { results := [.lit (.bool true)], args := [d1, d2] }
  | _ => none }
def codingBackRow : OpenClaim := { program := "ythnohioamefbmaadoor", sum := "cefa335258c99129b632499b82ebd6a57ef73604de4c478c6083818b6a27b708", func := "postrider/postriderlaw11.CodingBack", spec := "codingBack", inPlace := ["internal/abi.NoEscape", "internal/bytealg.MakeNoZero", "internal/bytealg.IndexByteString", "internal/bytealg.IndexString"], unfollowed := true, recurses := true, named := ["postrider/coding.kinds", "unicode/utf8.first", "unicode/utf8.acceptRanges", "unicode.CaseRanges", "internal/bytealg.MaxLen"], apart := false, laid := [("unicode/utf8.acceptRanges", laid_unicode_utf8_acceptRanges), ("postrider/coding.kinds", laid_postrider_coding_kinds), ("unicode.CaseRanges", laid_unicode_CaseRanges), ("unicode/utf8.first", laid_unicode_utf8_first)] }
def CodingBackSaid : Prop := codingBackRow.holds Tryd.pinned (OpenSpec.ofChange codingBackSpec)

/-- ITS FALSE NEIGHBOUR: 'it returns false'. Refute it at one input. -/
def codingBackWrong : ChangeSpec := { name := "codingBack", fn := fun _ => fun
  | [d1, d2] => { results := [.lit (.bool false)], args := [d1, d2] }
  | _ => none }
def CodingBackWrongFalsely : Prop := codingBackRow.holds Tryd.pinned (OpenSpec.ofChange codingBackWrong)

/- THE SECOND FORM. 'bulk': how many values and letters a reading holds, each counted each time it is reached (what is shared counts as often as it is met; a slice's spare places count too). A statement '..UptoSaid' is the law's where the arguments, and the package variables that the reading takes, are together of bulk at most 1048576: NARROWER than '..Said'. Prove '..Said' where nothing that the law and all that it calls make is longer than what came in: it says more and counts as full. Else prove '..UptoSaid'. A law counts once. -/
mutual
def uptoBulk {H : Type} : DataW H → Nat
  | .lit (.string bytes) => bytes.length + 1
  | .lit _ => 1
  | .nil => 1
  | .ptr d => uptoBulk d + 1
  | .slice elems spare => uptoBulkAll elems + uptoBulkAll spare + 1
  | .agg parts => uptoBulkAll parts + 1
  | .iface _ d => uptoBulk d + 1
  | .map entries => uptoBulkEntries entries + 1
  | .held _ => 1
def uptoBulkAll {H : Type} : List (DataW H) → Nat
  | [] => 0
  | d :: r => uptoBulk d + uptoBulkAll r
def uptoBulkEntries {H : Type} : List (Lit × DataW H) → Nat
  | [] => 0
  | x :: r => uptoBulkEntry x + uptoBulkEntries r
def uptoBulkEntry {H : Type} : Lit × DataW H → Nat
  | (.string bytes, d) => bytes.length + uptoBulk d + 1
  | (_, d) => uptoBulk d + 1
 end
def uptoSmall : (H : Type) → List (DataW H) → Bool := fun _ ds => decide (uptoBulkAll ds ≤ 1048576)
def OpenSpec.upto (s : _root_.Go.ChangeSpec) : _root_.Go.OpenSpec := { _root_.Go.OpenSpec.ofChange s with cond := some uptoSmall }

/-- 'postriderlaw11.CodingTells', WHERE WHAT IT READS IS OF BULK AT MOST 1048576: true; the input reads as it did. -/
def codingTellsUptoRow : OpenClaim := { program := "ythnohioamefbmaadoor", sum := "cefa335258c99129b632499b82ebd6a57ef73604de4c478c6083818b6a27b708", func := "postrider/postriderlaw11.CodingTells", spec := "codingTells", inPlace := ["internal/abi.NoEscape", "internal/bytealg.MakeNoZero", "internal/bytealg.IndexByteString", "internal/bytealg.IndexString"], unfollowed := true, recurses := true, named := ["postrider/coding.kinds", "unicode/utf8.first", "unicode/utf8.acceptRanges", "internal/bytealg.MaxLen"], apart := false, laid := [("unicode/utf8.acceptRanges", laid_unicode_utf8_acceptRanges), ("postrider/coding.kinds", laid_postrider_coding_kinds), ("unicode/utf8.first", laid_unicode_utf8_first)], narrowed := true }
def CodingTellsUptoSaid : Prop := codingTellsUptoRow.holds Tryd.pinned (OpenSpec.upto codingTellsSpec)

/-- 'postriderlaw11.CodingKnown', WHERE WHAT IT READS IS OF BULK AT MOST 1048576: true; the input reads as it did. -/
def codingKnownUptoRow : OpenClaim := { program := "ythnohioamefbmaadoor", sum := "cefa335258c99129b632499b82ebd6a57ef73604de4c478c6083818b6a27b708", func := "postrider/postriderlaw11.CodingKnown", spec := "codingKnown", inPlace := ["internal/abi.NoEscape", "internal/bytealg.MakeNoZero", "internal/bytealg.IndexByteString", "internal/bytealg.IndexString"], unfollowed := true, recurses := true, named := ["postrider/coding.kinds", "unicode/utf8.first", "unicode/utf8.acceptRanges", "internal/bytealg.MaxLen"], apart := false, laid := [("unicode/utf8.acceptRanges", laid_unicode_utf8_acceptRanges), ("postrider/coding.kinds", laid_postrider_coding_kinds), ("unicode/utf8.first", laid_unicode_utf8_first)], narrowed := true }
def CodingKnownUptoSaid : Prop := codingKnownUptoRow.holds Tryd.pinned (OpenSpec.upto codingKnownSpec)

/-- 'postriderlaw11.CodingJoins', WHERE WHAT IT READS IS OF BULK AT MOST 1048576: true; the input reads as it did. -/
def codingJoinsUptoRow : OpenClaim := { program := "ythnohioamefbmaadoor", sum := "cefa335258c99129b632499b82ebd6a57ef73604de4c478c6083818b6a27b708", func := "postrider/postriderlaw11.CodingJoins", spec := "codingJoins", inPlace := ["internal/abi.NoEscape", "internal/bytealg.MakeNoZero", "internal/bytealg.IndexByteString", "internal/bytealg.IndexString"], unfollowed := true, recurses := true, named := ["postrider/coding.kinds", "unicode/utf8.first", "unicode/utf8.acceptRanges", "internal/bytealg.MaxLen"], apart := false, laid := [("unicode/utf8.acceptRanges", laid_unicode_utf8_acceptRanges), ("postrider/coding.kinds", laid_postrider_coding_kinds), ("unicode/utf8.first", laid_unicode_utf8_first)], narrowed := true }
def CodingJoinsUptoSaid : Prop := codingJoinsUptoRow.holds Tryd.pinned (OpenSpec.upto codingJoinsSpec)

/-- 'postriderlaw11.CodingBack', WHERE WHAT IT READS IS OF BULK AT MOST 1048576: true; the input reads as it did. -/
def codingBackUptoRow : OpenClaim := { program := "ythnohioamefbmaadoor", sum := "cefa335258c99129b632499b82ebd6a57ef73604de4c478c6083818b6a27b708", func := "postrider/postriderlaw11.CodingBack", spec := "codingBack", inPlace := ["internal/abi.NoEscape", "internal/bytealg.MakeNoZero", "internal/bytealg.IndexByteString", "internal/bytealg.IndexString"], unfollowed := true, recurses := true, named := ["postrider/coding.kinds", "unicode/utf8.first", "unicode/utf8.acceptRanges", "unicode.CaseRanges", "internal/bytealg.MaxLen"], apart := false, laid := [("unicode/utf8.acceptRanges", laid_unicode_utf8_acceptRanges), ("postrider/coding.kinds", laid_postrider_coding_kinds), ("unicode.CaseRanges", laid_unicode_CaseRanges), ("unicode/utf8.first", laid_unicode_utf8_first)], narrowed := true }
def CodingBackUptoSaid : Prop := codingBackUptoRow.holds Tryd.pinned (OpenSpec.upto codingBackSpec)

end Rows
end Go.Proofs.YthnohioamefbmaaDoor
