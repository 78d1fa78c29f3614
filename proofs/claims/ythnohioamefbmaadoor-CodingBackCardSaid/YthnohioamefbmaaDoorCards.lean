/-
  DERIVED. GIVEN WITH THE SEED: THE CARDS: each row of YthnohioamefbmaaDoorRows.lean that lists a variable, with what it lists TIED to the program's text (the seventh form; the later family's looks); each row that meets fmt, with fmt's text TOLD by the authors' own Lean function (tested against real Go, not proved from fmt's source: count such statements apart). THE CARD IS WHAT COUNTS. Prove the row's statement (the work); the ties are given (YthnohioamefbmaaDoorTie.lean); close each card by the builder's one call (the guide's Derived/Test/ToyasCard.lean, 'card_holds'). Laid BY PROGRAM, IN A SANDBOX (cutbox-door.mjs). By AI agents, Wed Nov 11 2026. No macro, syntax, notation, axiom, sorry.
-/
import Derived.Test.YthnohioamefbmaaDoorRows
import GoSem.ClaimSeven
namespace Go.Proofs.YthnohioamefbmaaDoor
namespace Rows

/-- THE TIED CARD OF 'postriderlaw11.CodingTells'. -/
def codingTellsCard : Claim7 := { stood := { row := codingTellsRow, standIns := [], harness := (true, "acbca4278cc8b370bb75927a1f881a2edc661bb6b874d6f47f5efb5c78d18825"), looks := false }, kinds := [], alts := [], laidByText := true, laidKinds := [.data, .wider, .pinned], laidTests := true, laidLooks := .later }
def CodingTellsCardSaid : Prop := Claim7.holds Tryd.pinned (.plain (OpenSpec.ofChange codingTellsSpec)) codingTellsCard

/-- THE TIED CARD OF 'postriderlaw11.CodingKnown'. -/
def codingKnownCard : Claim7 := { stood := { row := codingKnownRow, standIns := [], harness := (true, "acbca4278cc8b370bb75927a1f881a2edc661bb6b874d6f47f5efb5c78d18825"), looks := false }, kinds := [], alts := [], laidByText := true, laidKinds := [.data, .wider, .pinned], laidTests := true, laidLooks := .later }
def CodingKnownCardSaid : Prop := Claim7.holds Tryd.pinned (.plain (OpenSpec.ofChange codingKnownSpec)) codingKnownCard

/-- THE TIED CARD OF 'postriderlaw11.CodingJoins'. -/
def codingJoinsCard : Claim7 := { stood := { row := codingJoinsRow, standIns := [], harness := (true, "acbca4278cc8b370bb75927a1f881a2edc661bb6b874d6f47f5efb5c78d18825"), looks := false }, kinds := [], alts := [], laidByText := true, laidKinds := [.data, .wider, .pinned], laidTests := true, laidLooks := .later }
def CodingJoinsCardSaid : Prop := Claim7.holds Tryd.pinned (.plain (OpenSpec.ofChange codingJoinsSpec)) codingJoinsCard

/-- THE TIED CARD OF 'postriderlaw11.CodingBack'. -/
def codingBackCard : Claim7 := { stood := { row := codingBackRow, standIns := [], harness := (true, "acbca4278cc8b370bb75927a1f881a2edc661bb6b874d6f47f5efb5c78d18825"), looks := false }, kinds := [], alts := [], laidByText := true, laidKinds := [.data, .wider, .pinned, .pinned], laidTests := true, laidLooks := .later }
def CodingBackCardSaid : Prop := Claim7.holds Tryd.pinned (.plain (OpenSpec.ofChange codingBackSpec)) codingBackCard

/-- THE SECOND FORM's CARD OF 'postriderlaw11.CodingTells'. -/
def codingTellsUptoCard : Claim7 := { stood := { row := codingTellsUptoRow, standIns := [], harness := (true, "acbca4278cc8b370bb75927a1f881a2edc661bb6b874d6f47f5efb5c78d18825"), looks := false }, kinds := [], alts := [], laidByText := true, laidKinds := [.data, .wider, .pinned], laidTests := true, laidLooks := .later }
def CodingTellsUptoCardSaid : Prop := Claim7.holds Tryd.pinned (.plain (OpenSpec.upto codingTellsSpec)) codingTellsUptoCard

/-- THE SECOND FORM's CARD OF 'postriderlaw11.CodingKnown'. -/
def codingKnownUptoCard : Claim7 := { stood := { row := codingKnownUptoRow, standIns := [], harness := (true, "acbca4278cc8b370bb75927a1f881a2edc661bb6b874d6f47f5efb5c78d18825"), looks := false }, kinds := [], alts := [], laidByText := true, laidKinds := [.data, .wider, .pinned], laidTests := true, laidLooks := .later }
def CodingKnownUptoCardSaid : Prop := Claim7.holds Tryd.pinned (.plain (OpenSpec.upto codingKnownSpec)) codingKnownUptoCard

/-- THE SECOND FORM's CARD OF 'postriderlaw11.CodingJoins'. -/
def codingJoinsUptoCard : Claim7 := { stood := { row := codingJoinsUptoRow, standIns := [], harness := (true, "acbca4278cc8b370bb75927a1f881a2edc661bb6b874d6f47f5efb5c78d18825"), looks := false }, kinds := [], alts := [], laidByText := true, laidKinds := [.data, .wider, .pinned], laidTests := true, laidLooks := .later }
def CodingJoinsUptoCardSaid : Prop := Claim7.holds Tryd.pinned (.plain (OpenSpec.upto codingJoinsSpec)) codingJoinsUptoCard

/-- THE SECOND FORM's CARD OF 'postriderlaw11.CodingBack'. -/
def codingBackUptoCard : Claim7 := { stood := { row := codingBackUptoRow, standIns := [], harness := (true, "acbca4278cc8b370bb75927a1f881a2edc661bb6b874d6f47f5efb5c78d18825"), looks := false }, kinds := [], alts := [], laidByText := true, laidKinds := [.data, .wider, .pinned, .pinned], laidTests := true, laidLooks := .later }
def CodingBackUptoCardSaid : Prop := Claim7.holds Tryd.pinned (.plain (OpenSpec.upto codingBackSpec)) codingBackUptoCard
end Rows
end Go.Proofs.YthnohioamefbmaaDoor
