/-
  DERIVED. GIVEN WITH THE SEED: THE CARDS: each row of YtffngbjnbigipaaGreatDoorRows.lean that lists a variable, with what it lists TIED to the program's text (the seventh form; the later family's looks); each row that meets fmt, with fmt's text TOLD by the authors' own Lean function (tested against real Go, not proved from fmt's source: count such statements apart). THE CARD IS WHAT COUNTS. Prove the row's statement (the work); the ties are given (YtffngbjnbigipaaGreatDoorTie.lean); close each card by the builder's one call (the guide's Derived/Test/ToyasCard.lean, 'card_holds'). Laid BY PROGRAM, IN A SANDBOX (cutbox-door.mjs). By AI agents, Wed Nov 11 2026. No macro, syntax, notation, axiom, sorry.
-/
import Derived.Test.YtffngbjnbigipaaGreatDoorRows
import GoSem.ClaimSeven
namespace Go.Proofs.YtffngbjnbigipaaGreatDoor
namespace Rows

/-- THE TIED CARD OF 'postriderlaw08.ListFinds'. -/
def listFindsCard : Claim7 := { stood := { row := listFindsRow, standIns := [], harness := (true, "336dd88d317992637c557e8348d3e7ed0396774635fc71b6e363a451789e8b68"), looks := false }, kinds := [], alts := [], laidByText := true, laidKinds := [.data, .data, .data, .data, .data, .pinned], laidTests := true, laidLooks := .later }
def ListFindsCardSaid : Prop := Claim7.holds Tryz.pinned (.plain (OpenSpec.ofChange listFindsSpec)) listFindsCard

/-- THE TIED CARD OF 'postriderlaw05.AddrKnown'. -/
def addrKnownCard : Claim7 := { stood := { row := addrKnownRow, standIns := [], harness := (true, "336dd88d317992637c557e8348d3e7ed0396774635fc71b6e363a451789e8b68"), looks := false }, kinds := [], alts := [], laidByText := true, laidKinds := [.data, .data, .data, .data, .data, .pinned], laidTests := true, laidLooks := .later }
def AddrKnownCardSaid : Prop := Claim7.holds Tryz.pinned (.plain (OpenSpec.ofChange addrKnownSpec)) addrKnownCard

/-- THE TIED CARD OF 'postriderlaw08.ListPuts'. -/
def listPutsCard : Claim7 := { stood := { row := listPutsRow, standIns := [], harness := (true, "336dd88d317992637c557e8348d3e7ed0396774635fc71b6e363a451789e8b68"), looks := false }, kinds := [], alts := [], laidByText := true, laidKinds := [.data, .data, .data, .data, .data, .pinned], laidTests := true, laidLooks := .later }
def ListPutsCardSaid : Prop := Claim7.holds Tryz.pinned (.plain (OpenSpec.ofChange listPutsSpec)) listPutsCard

/-- THE TIED CARD OF 'postriderlaw08.ListForms'. -/
def listFormsCard : Claim7 := { stood := { row := listFormsRow, standIns := [], harness := (true, "336dd88d317992637c557e8348d3e7ed0396774635fc71b6e363a451789e8b68"), looks := false }, kinds := [], alts := [], laidByText := true, laidKinds := [.data, .data, .data, .data, .data, .pinned], laidTests := true, laidLooks := .later }
def ListFormsCardSaid : Prop := Claim7.holds Tryz.pinned (.plain (OpenSpec.ofChange listFormsSpec)) listFormsCard

/-- THE TIED CARD OF 'postriderlaw08.ListKnown'. -/
def listKnownCard : Claim7 := { stood := { row := listKnownRow, standIns := [], harness := (true, "336dd88d317992637c557e8348d3e7ed0396774635fc71b6e363a451789e8b68"), looks := false }, kinds := [], alts := [], laidByText := true, laidKinds := [.data, .data, .data, .data, .data, .pinned], laidTests := true, laidLooks := .later }
def ListKnownCardSaid : Prop := Claim7.holds Tryz.pinned (.plain (OpenSpec.ofChange listKnownSpec)) listKnownCard

/-- THE TIED CARD OF 'postriderlaw08.ListMoves'. -/
def listMovesCard : Claim7 := { stood := { row := listMovesRow, standIns := [], harness := (true, "336dd88d317992637c557e8348d3e7ed0396774635fc71b6e363a451789e8b68"), looks := false }, kinds := [], alts := [], laidByText := true, laidKinds := [.data, .data, .data, .data, .data, .pinned], laidTests := true, laidLooks := .later }
def ListMovesCardSaid : Prop := Claim7.holds Tryz.pinned (.plain (OpenSpec.ofChange listMovesSpec)) listMovesCard

/-- THE TIED CARD OF 'postriderlaw05.AddrSplits'. -/
def addrSplitsCard : Claim7 := { stood := { row := addrSplitsRow, standIns := [], harness := (true, "336dd88d317992637c557e8348d3e7ed0396774635fc71b6e363a451789e8b68"), looks := false }, kinds := [], alts := [], laidByText := true, laidKinds := [.data, .data, .data, .data, .data, .pinned, .pinned], laidTests := true, laidLooks := .later }
def AddrSplitsCardSaid : Prop := Claim7.holds Tryz.pinned (.plain (OpenSpec.ofChange addrSplitsSpec)) addrSplitsCard

/-- THE TIED CARD OF 'postriderlaw05.AddrBack'. -/
def addrBackCard : Claim7 := { stood := { row := addrBackRow, standIns := [], harness := (true, "336dd88d317992637c557e8348d3e7ed0396774635fc71b6e363a451789e8b68"), looks := false }, kinds := [], alts := [], laidByText := true, laidKinds := [.data, .data, .data, .data, .data, .data, .data, .pinned, .pinned], laidTests := true, laidLooks := .later }
def AddrBackCardSaid : Prop := Claim7.holds Tryz.pinned (.plain (OpenSpec.ofChange addrBackSpec)) addrBackCard

/-- THE SECOND FORM's CARD OF 'postriderlaw08.ListFinds'. -/
def listFindsUptoCard : Claim7 := { stood := { row := listFindsUptoRow, standIns := [], harness := (true, "336dd88d317992637c557e8348d3e7ed0396774635fc71b6e363a451789e8b68"), looks := false }, kinds := [], alts := [], laidByText := true, laidKinds := [.data, .data, .data, .data, .data, .pinned], laidTests := true, laidLooks := .later }
def ListFindsUptoCardSaid : Prop := Claim7.holds Tryz.pinned (.plain (OpenSpec.upto listFindsSpec)) listFindsUptoCard

/-- THE SECOND FORM's CARD OF 'postriderlaw05.AddrKnown'. -/
def addrKnownUptoCard : Claim7 := { stood := { row := addrKnownUptoRow, standIns := [], harness := (true, "336dd88d317992637c557e8348d3e7ed0396774635fc71b6e363a451789e8b68"), looks := false }, kinds := [], alts := [], laidByText := true, laidKinds := [.data, .data, .data, .data, .data, .pinned], laidTests := true, laidLooks := .later }
def AddrKnownUptoCardSaid : Prop := Claim7.holds Tryz.pinned (.plain (OpenSpec.upto addrKnownSpec)) addrKnownUptoCard

/-- THE SECOND FORM's CARD OF 'postriderlaw08.ListPuts'. -/
def listPutsUptoCard : Claim7 := { stood := { row := listPutsUptoRow, standIns := [], harness := (true, "336dd88d317992637c557e8348d3e7ed0396774635fc71b6e363a451789e8b68"), looks := false }, kinds := [], alts := [], laidByText := true, laidKinds := [.data, .data, .data, .data, .data, .pinned], laidTests := true, laidLooks := .later }
def ListPutsUptoCardSaid : Prop := Claim7.holds Tryz.pinned (.plain (OpenSpec.upto listPutsSpec)) listPutsUptoCard

/-- THE SECOND FORM's CARD OF 'postriderlaw08.ListForms'. -/
def listFormsUptoCard : Claim7 := { stood := { row := listFormsUptoRow, standIns := [], harness := (true, "336dd88d317992637c557e8348d3e7ed0396774635fc71b6e363a451789e8b68"), looks := false }, kinds := [], alts := [], laidByText := true, laidKinds := [.data, .data, .data, .data, .data, .pinned], laidTests := true, laidLooks := .later }
def ListFormsUptoCardSaid : Prop := Claim7.holds Tryz.pinned (.plain (OpenSpec.upto listFormsSpec)) listFormsUptoCard

/-- THE SECOND FORM's CARD OF 'postriderlaw08.ListKnown'. -/
def listKnownUptoCard : Claim7 := { stood := { row := listKnownUptoRow, standIns := [], harness := (true, "336dd88d317992637c557e8348d3e7ed0396774635fc71b6e363a451789e8b68"), looks := false }, kinds := [], alts := [], laidByText := true, laidKinds := [.data, .data, .data, .data, .data, .pinned], laidTests := true, laidLooks := .later }
def ListKnownUptoCardSaid : Prop := Claim7.holds Tryz.pinned (.plain (OpenSpec.upto listKnownSpec)) listKnownUptoCard

/-- THE SECOND FORM's CARD OF 'postriderlaw08.ListMoves'. -/
def listMovesUptoCard : Claim7 := { stood := { row := listMovesUptoRow, standIns := [], harness := (true, "336dd88d317992637c557e8348d3e7ed0396774635fc71b6e363a451789e8b68"), looks := false }, kinds := [], alts := [], laidByText := true, laidKinds := [.data, .data, .data, .data, .data, .pinned], laidTests := true, laidLooks := .later }
def ListMovesUptoCardSaid : Prop := Claim7.holds Tryz.pinned (.plain (OpenSpec.upto listMovesSpec)) listMovesUptoCard

/-- THE SECOND FORM's CARD OF 'postriderlaw05.AddrSplits'. -/
def addrSplitsUptoCard : Claim7 := { stood := { row := addrSplitsUptoRow, standIns := [], harness := (true, "336dd88d317992637c557e8348d3e7ed0396774635fc71b6e363a451789e8b68"), looks := false }, kinds := [], alts := [], laidByText := true, laidKinds := [.data, .data, .data, .data, .data, .pinned, .pinned], laidTests := true, laidLooks := .later }
def AddrSplitsUptoCardSaid : Prop := Claim7.holds Tryz.pinned (.plain (OpenSpec.upto addrSplitsSpec)) addrSplitsUptoCard

/-- THE SECOND FORM's CARD OF 'postriderlaw05.AddrBack'. -/
def addrBackUptoCard : Claim7 := { stood := { row := addrBackUptoRow, standIns := [], harness := (true, "336dd88d317992637c557e8348d3e7ed0396774635fc71b6e363a451789e8b68"), looks := false }, kinds := [], alts := [], laidByText := true, laidKinds := [.data, .data, .data, .data, .data, .data, .data, .pinned, .pinned], laidTests := true, laidLooks := .later }
def AddrBackUptoCardSaid : Prop := Claim7.holds Tryz.pinned (.plain (OpenSpec.upto addrBackSpec)) addrBackUptoCard
end Rows
end Go.Proofs.YtffngbjnbigipaaGreatDoor
