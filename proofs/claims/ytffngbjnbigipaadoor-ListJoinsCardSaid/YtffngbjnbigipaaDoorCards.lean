/-
  DERIVED. GIVEN WITH THE SEED: THE CARDS: each row of YtffngbjnbigipaaDoorRows.lean that lists a variable, with what it lists TIED to the program's text (the seventh form; the later family's looks); each row that meets fmt, with fmt's text TOLD by the authors' own Lean function (tested against real Go, not proved from fmt's source: count such statements apart). THE CARD IS WHAT COUNTS. Prove the row's statement (the work); the ties are given (YtffngbjnbigipaaDoorTie.lean); close each card by the builder's one call (the guide's Derived/Test/ToyasCard.lean, 'card_holds'). Laid BY PROGRAM, IN A SANDBOX (cutbox-door.mjs). By AI agents, Wed Nov 11 2026. No macro, syntax, notation, axiom, sorry.
-/
import Derived.Test.YtffngbjnbigipaaDoorRows
import GoSem.ClaimSeven
namespace Go.Proofs.YtffngbjnbigipaaDoor
namespace Rows

/-- THE TIED CARD OF 'postriderlaw05.AddrReads'. -/
def addrReadsCard : Claim7 := { stood := { row := addrReadsRow, standIns := [], harness := (true, "9a97f6ce9ace6f467325ff305d530a68d7c4b3563974800b2e6ee84e2ac5bb7a"), looks := false }, kinds := [], alts := [], laidByText := true, laidKinds := [.data, .data, .data, .data, .data, .pinned], laidTests := true, laidLooks := .later }
def AddrReadsCardSaid : Prop := Claim7.holds Tryd.pinned (.plain (OpenSpec.ofChange addrReadsSpec)) addrReadsCard

/-- THE TIED CARD OF 'postriderlaw05.AddrOrder'. -/
def addrOrderCard : Claim7 := { stood := { row := addrOrderRow, standIns := [], harness := (true, "9a97f6ce9ace6f467325ff305d530a68d7c4b3563974800b2e6ee84e2ac5bb7a"), looks := false }, kinds := [], alts := [], laidByText := true, laidKinds := [.data, .data, .data, .data, .data, .pinned], laidTests := true, laidLooks := .later }
def AddrOrderCardSaid : Prop := Claim7.holds Tryd.pinned (.plain (OpenSpec.ofChange addrOrderSpec)) addrOrderCard

/-- THE TIED CARD OF 'postriderlaw08.ListJoins'. -/
def listJoinsCard : Claim7 := { stood := { row := listJoinsRow, standIns := [], harness := (true, "9a97f6ce9ace6f467325ff305d530a68d7c4b3563974800b2e6ee84e2ac5bb7a"), looks := false }, kinds := [], alts := [], laidByText := true, laidKinds := [.data, .data, .data, .data, .data, .pinned], laidTests := true, laidLooks := .later }
def ListJoinsCardSaid : Prop := Claim7.holds Tryd.pinned (.plain (OpenSpec.ofChange listJoinsSpec)) listJoinsCard

/-- THE SECOND FORM's CARD OF 'postriderlaw05.AddrReads'. -/
def addrReadsUptoCard : Claim7 := { stood := { row := addrReadsUptoRow, standIns := [], harness := (true, "9a97f6ce9ace6f467325ff305d530a68d7c4b3563974800b2e6ee84e2ac5bb7a"), looks := false }, kinds := [], alts := [], laidByText := true, laidKinds := [.data, .data, .data, .data, .data, .pinned], laidTests := true, laidLooks := .later }
def AddrReadsUptoCardSaid : Prop := Claim7.holds Tryd.pinned (.plain (OpenSpec.upto addrReadsSpec)) addrReadsUptoCard

/-- THE SECOND FORM's CARD OF 'postriderlaw05.AddrOrder'. -/
def addrOrderUptoCard : Claim7 := { stood := { row := addrOrderUptoRow, standIns := [], harness := (true, "9a97f6ce9ace6f467325ff305d530a68d7c4b3563974800b2e6ee84e2ac5bb7a"), looks := false }, kinds := [], alts := [], laidByText := true, laidKinds := [.data, .data, .data, .data, .data, .pinned], laidTests := true, laidLooks := .later }
def AddrOrderUptoCardSaid : Prop := Claim7.holds Tryd.pinned (.plain (OpenSpec.upto addrOrderSpec)) addrOrderUptoCard

/-- THE SECOND FORM's CARD OF 'postriderlaw08.ListJoins'. -/
def listJoinsUptoCard : Claim7 := { stood := { row := listJoinsUptoRow, standIns := [], harness := (true, "9a97f6ce9ace6f467325ff305d530a68d7c4b3563974800b2e6ee84e2ac5bb7a"), looks := false }, kinds := [], alts := [], laidByText := true, laidKinds := [.data, .data, .data, .data, .data, .pinned], laidTests := true, laidLooks := .later }
def ListJoinsUptoCardSaid : Prop := Claim7.holds Tryd.pinned (.plain (OpenSpec.upto listJoinsSpec)) listJoinsUptoCard
end Rows
end Go.Proofs.YtffngbjnbigipaaDoor
