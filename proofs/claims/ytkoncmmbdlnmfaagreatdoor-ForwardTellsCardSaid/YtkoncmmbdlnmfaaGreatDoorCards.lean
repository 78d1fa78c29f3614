/-
  DERIVED. GIVEN WITH THE SEED: THE CARDS: each row of YtkoncmmbdlnmfaaGreatDoorRows.lean that lists a variable, with what it lists TIED to the program's text (the seventh form; the later family's looks); each row that meets fmt, with fmt's text TOLD by the authors' own Lean function (tested against real Go, not proved from fmt's source: count such statements apart). THE CARD IS WHAT COUNTS. Prove the row's statement (the work); the ties are given (YtkoncmmbdlnmfaaGreatDoorTie.lean); close each card by the builder's one call (the guide's Derived/Test/ToyasCard.lean, 'card_holds'). Laid BY PROGRAM, IN A SANDBOX (cutbox-door.mjs). By AI agents, Wed Nov 11 2026. No macro, syntax, notation, axiom, sorry.
-/
import Derived.Test.YtkoncmmbdlnmfaaGreatDoorRows
import GoSem.ClaimSeven
namespace Go.Proofs.YtkoncmmbdlnmfaaGreatDoor
namespace Rows

/-- THE TIED CARD OF 'postriderlaw16.ForwardOwn'. -/
def forwardOwnCard : Claim7 := { stood := { row := forwardOwnRow, standIns := [], harness := (true, "3956fe898f352c580e658605e068fe1b622b229b143f2754cb9f018496599cf6"), looks := false }, kinds := [], alts := [], laidByText := true, laidKinds := [.data, .data, .data, .data, .data, .data, .pinned, .pinned], laidTests := true, laidLooks := .later }
def ForwardOwnCardSaid : Prop := Claim7.holds Tryz.pinned (.plain (OpenSpec.ofChange forwardOwnSpec)) forwardOwnCard

/-- THE TIED CARD OF 'postriderlaw16.ForwardTells'. -/
def forwardTellsCard : Claim7 := { stood := { row := forwardTellsRow, standIns := [], harness := (true, "3956fe898f352c580e658605e068fe1b622b229b143f2754cb9f018496599cf6"), looks := false }, kinds := [], alts := [], laidByText := true, laidKinds := [.data, .data, .data, .data, .data, .data, .pinned, .pinned], laidTests := true, laidLooks := .later }
def ForwardTellsCardSaid : Prop := Claim7.holds Tryz.pinned (.plain (OpenSpec.ofChange forwardTellsSpec)) forwardTellsCard

/-- THE TIED CARD OF 'postriderlaw16.ForwardKnown'. -/
def forwardKnownCard : Claim7 := { stood := { row := forwardKnownRow, standIns := [], harness := (true, "3956fe898f352c580e658605e068fe1b622b229b143f2754cb9f018496599cf6"), looks := false }, kinds := [], alts := [], laidByText := true, laidKinds := [.data, .data, .data, .data, .data, .data, .pinned, .pinned], laidTests := true, laidLooks := .later }
def ForwardKnownCardSaid : Prop := Claim7.holds Tryz.pinned (.plain (OpenSpec.ofChange forwardKnownSpec)) forwardKnownCard

/-- THE TIED CARD OF 'postriderlaw16.ForwardBack'. -/
def forwardBackCard : Claim7 := { stood := { row := forwardBackRow, standIns := [], harness := (true, "3956fe898f352c580e658605e068fe1b622b229b143f2754cb9f018496599cf6"), looks := false }, kinds := [], alts := [], laidByText := true, laidKinds := [.data, .data, .data, .data, .data, .data, .pinned, .pinned], laidTests := true, laidLooks := .later }
def ForwardBackCardSaid : Prop := Claim7.holds Tryz.pinned (.plain (OpenSpec.ofChange forwardBackSpec)) forwardBackCard

/-- THE TIED CARD OF 'postriderlaw16.ForwardLines'. -/
def forwardLinesCard : Claim7 := { stood := { row := forwardLinesRow, standIns := [], harness := (true, "3956fe898f352c580e658605e068fe1b622b229b143f2754cb9f018496599cf6"), looks := false }, kinds := [], alts := [], laidByText := true, laidKinds := [.data, .data, .data, .data, .data, .data, .pinned, .pinned], laidTests := true, laidLooks := .later }
def ForwardLinesCardSaid : Prop := Claim7.holds Tryz.pinned (.plain (OpenSpec.ofChange forwardLinesSpec)) forwardLinesCard

/-- THE TIED CARD OF 'postriderlaw14.AliasLists'. -/
def aliasListsCard : Claim7 := { stood := { row := aliasListsRow, standIns := [], harness := (true, "3956fe898f352c580e658605e068fe1b622b229b143f2754cb9f018496599cf6"), looks := false }, kinds := [], alts := [], laidByText := true, laidKinds := [.data, .data, .data, .data, .data, .data, .pinned, .pinned], laidTests := true, laidLooks := .later }
def AliasListsCardSaid : Prop := Claim7.holds Tryz.pinned (.plain (OpenSpec.ofChange aliasListsSpec)) aliasListsCard

/-- THE TIED CARD OF 'postriderlaw14.AliasLines'. -/
def aliasLinesCard : Claim7 := { stood := { row := aliasLinesRow, standIns := [], harness := (true, "3956fe898f352c580e658605e068fe1b622b229b143f2754cb9f018496599cf6"), looks := false }, kinds := [], alts := [], laidByText := true, laidKinds := [.data, .data, .data, .data, .data, .data, .pinned, .pinned], laidTests := true, laidLooks := .later }
def AliasLinesCardSaid : Prop := Claim7.holds Tryz.pinned (.plain (OpenSpec.ofChange aliasLinesSpec)) aliasLinesCard

/-- THE SECOND FORM's CARD OF 'postriderlaw16.ForwardOwn'. -/
def forwardOwnUptoCard : Claim7 := { stood := { row := forwardOwnUptoRow, standIns := [], harness := (true, "3956fe898f352c580e658605e068fe1b622b229b143f2754cb9f018496599cf6"), looks := false }, kinds := [], alts := [], laidByText := true, laidKinds := [.data, .data, .data, .data, .data, .data, .pinned, .pinned], laidTests := true, laidLooks := .later }
def ForwardOwnUptoCardSaid : Prop := Claim7.holds Tryz.pinned (.plain (OpenSpec.upto forwardOwnSpec)) forwardOwnUptoCard

/-- THE SECOND FORM's CARD OF 'postriderlaw16.ForwardTells'. -/
def forwardTellsUptoCard : Claim7 := { stood := { row := forwardTellsUptoRow, standIns := [], harness := (true, "3956fe898f352c580e658605e068fe1b622b229b143f2754cb9f018496599cf6"), looks := false }, kinds := [], alts := [], laidByText := true, laidKinds := [.data, .data, .data, .data, .data, .data, .pinned, .pinned], laidTests := true, laidLooks := .later }
def ForwardTellsUptoCardSaid : Prop := Claim7.holds Tryz.pinned (.plain (OpenSpec.upto forwardTellsSpec)) forwardTellsUptoCard

/-- THE SECOND FORM's CARD OF 'postriderlaw16.ForwardKnown'. -/
def forwardKnownUptoCard : Claim7 := { stood := { row := forwardKnownUptoRow, standIns := [], harness := (true, "3956fe898f352c580e658605e068fe1b622b229b143f2754cb9f018496599cf6"), looks := false }, kinds := [], alts := [], laidByText := true, laidKinds := [.data, .data, .data, .data, .data, .data, .pinned, .pinned], laidTests := true, laidLooks := .later }
def ForwardKnownUptoCardSaid : Prop := Claim7.holds Tryz.pinned (.plain (OpenSpec.upto forwardKnownSpec)) forwardKnownUptoCard

/-- THE SECOND FORM's CARD OF 'postriderlaw16.ForwardBack'. -/
def forwardBackUptoCard : Claim7 := { stood := { row := forwardBackUptoRow, standIns := [], harness := (true, "3956fe898f352c580e658605e068fe1b622b229b143f2754cb9f018496599cf6"), looks := false }, kinds := [], alts := [], laidByText := true, laidKinds := [.data, .data, .data, .data, .data, .data, .pinned, .pinned], laidTests := true, laidLooks := .later }
def ForwardBackUptoCardSaid : Prop := Claim7.holds Tryz.pinned (.plain (OpenSpec.upto forwardBackSpec)) forwardBackUptoCard

/-- THE SECOND FORM's CARD OF 'postriderlaw16.ForwardLines'. -/
def forwardLinesUptoCard : Claim7 := { stood := { row := forwardLinesUptoRow, standIns := [], harness := (true, "3956fe898f352c580e658605e068fe1b622b229b143f2754cb9f018496599cf6"), looks := false }, kinds := [], alts := [], laidByText := true, laidKinds := [.data, .data, .data, .data, .data, .data, .pinned, .pinned], laidTests := true, laidLooks := .later }
def ForwardLinesUptoCardSaid : Prop := Claim7.holds Tryz.pinned (.plain (OpenSpec.upto forwardLinesSpec)) forwardLinesUptoCard

/-- THE SECOND FORM's CARD OF 'postriderlaw14.AliasLists'. -/
def aliasListsUptoCard : Claim7 := { stood := { row := aliasListsUptoRow, standIns := [], harness := (true, "3956fe898f352c580e658605e068fe1b622b229b143f2754cb9f018496599cf6"), looks := false }, kinds := [], alts := [], laidByText := true, laidKinds := [.data, .data, .data, .data, .data, .data, .pinned, .pinned], laidTests := true, laidLooks := .later }
def AliasListsUptoCardSaid : Prop := Claim7.holds Tryz.pinned (.plain (OpenSpec.upto aliasListsSpec)) aliasListsUptoCard

/-- THE SECOND FORM's CARD OF 'postriderlaw14.AliasLines'. -/
def aliasLinesUptoCard : Claim7 := { stood := { row := aliasLinesUptoRow, standIns := [], harness := (true, "3956fe898f352c580e658605e068fe1b622b229b143f2754cb9f018496599cf6"), looks := false }, kinds := [], alts := [], laidByText := true, laidKinds := [.data, .data, .data, .data, .data, .data, .pinned, .pinned], laidTests := true, laidLooks := .later }
def AliasLinesUptoCardSaid : Prop := Claim7.holds Tryz.pinned (.plain (OpenSpec.upto aliasLinesSpec)) aliasLinesUptoCard
end Rows
end Go.Proofs.YtkoncmmbdlnmfaaGreatDoor
