/-
  DERIVED. GIVEN WITH THE SEED: THE CARDS: each row of YtlllhbmbnjnoiaaGreatDoorRows.lean that lists a variable, with what it lists TIED to the program's text (the seventh form; the later family's looks); each row that meets fmt, with fmt's text TOLD by the authors' own Lean function (tested against real Go, not proved from fmt's source: count such statements apart). THE CARD IS WHAT COUNTS. Prove the row's statement (the work); the ties are given (YtlllhbmbnjnoiaaGreatDoorTie.lean); close each card by the builder's one call (the guide's Derived/Test/ToyasCard.lean, 'card_holds'). Laid BY PROGRAM, IN A SANDBOX (cutbox-door.mjs). By AI agents, Wed Nov 11 2026. No macro, syntax, notation, axiom, sorry.
-/
import Derived.Test.YtlllhbmbnjnoiaaGreatDoorRows
import GoSem.ClaimSeven
namespace Go.Proofs.YtlllhbmbnjnoiaaGreatDoor
namespace Rows

/-- THE TIED CARD OF 'tensilelaw12.BookPlays'. -/
def bookPlaysCard : Claim7 := { stood := { row := bookPlaysRow, standIns := [], harness := (true, "fcce57d82b88c4b3015b95ddefccdbf550aa66b3a632443fa05c47b6881cad25"), looks := true }, kinds := [], alts := [], laidByText := true, laidKinds := [.data, .data, .data, .data, .sentinel, .sentinel, .pinned], laidTests := true, laidLooks := .later }
def BookPlaysCardSaid : Prop := Claim7.holds Tryz.pinned (.plain (OpenSpec.ofChange bookPlaysSpec)) bookPlaysCard

/-- THE TIED CARD OF 'tensilelaw12.BookWithdraws'. -/
def bookWithdrawsCard : Claim7 := { stood := { row := bookWithdrawsRow, standIns := [], harness := (true, "fcce57d82b88c4b3015b95ddefccdbf550aa66b3a632443fa05c47b6881cad25"), looks := true }, kinds := [], alts := [], laidByText := true, laidKinds := [.data, .data, .data, .data, .sentinel, .sentinel, .pinned], laidTests := true, laidLooks := .later }
def BookWithdrawsCardSaid : Prop := Claim7.holds Tryz.pinned (.plain (OpenSpec.ofChange bookWithdrawsSpec)) bookWithdrawsCard

/-- THE TIED CARD OF 'tensilelaw12.BookReports'. -/
def bookReportsCard : Claim7 := { stood := { row := bookReportsRow, standIns := [], harness := (true, "fcce57d82b88c4b3015b95ddefccdbf550aa66b3a632443fa05c47b6881cad25"), looks := true }, kinds := [], alts := [], laidByText := true, laidKinds := [.data, .data, .data, .data, .sentinel, .sentinel, .pinned], laidTests := true, laidLooks := .later }
def BookReportsCardSaid : Prop := Claim7.holds Tryz.pinned (.plain (OpenSpec.ofChange bookReportsSpec)) bookReportsCard

/-- THE TIED CARD OF 'tensilelaw12.BookRecalls'. -/
def bookRecallsCard : Claim7 := { stood := { row := bookRecallsRow, standIns := [], harness := (true, "fcce57d82b88c4b3015b95ddefccdbf550aa66b3a632443fa05c47b6881cad25"), looks := true }, kinds := [], alts := [], laidByText := true, laidKinds := [.data, .data, .data, .data, .sentinel, .sentinel, .pinned], laidTests := true, laidLooks := .later }
def BookRecallsCardSaid : Prop := Claim7.holds Tryz.pinned (.plain (OpenSpec.ofChange bookRecallsSpec)) bookRecallsCard

/-- THE TIED CARD OF 'tensilelaw12.BookResumes'. -/
def bookResumesCard : Claim7 := { stood := { row := bookResumesRow, standIns := [], harness := (true, "fcce57d82b88c4b3015b95ddefccdbf550aa66b3a632443fa05c47b6881cad25"), looks := true }, kinds := [], alts := [], laidByText := true, laidKinds := [.data, .data, .data, .data, .sentinel, .sentinel, .pinned], laidTests := true, laidLooks := .later }
def BookResumesCardSaid : Prop := Claim7.holds Tryz.pinned (.plain (OpenSpec.ofChange bookResumesSpec)) bookResumesCard

/-- THE SECOND FORM's CARD OF 'tensilelaw12.BookPlays'. -/
def bookPlaysUptoCard : Claim7 := { stood := { row := bookPlaysUptoRow, standIns := [], harness := (true, "fcce57d82b88c4b3015b95ddefccdbf550aa66b3a632443fa05c47b6881cad25"), looks := true }, kinds := [], alts := [], laidByText := true, laidKinds := [.data, .data, .data, .data, .sentinel, .sentinel, .pinned], laidTests := true, laidLooks := .later }
def BookPlaysUptoCardSaid : Prop := Claim7.holds Tryz.pinned (.plain (OpenSpec.upto bookPlaysSpec)) bookPlaysUptoCard

/-- THE SECOND FORM's CARD OF 'tensilelaw12.BookWithdraws'. -/
def bookWithdrawsUptoCard : Claim7 := { stood := { row := bookWithdrawsUptoRow, standIns := [], harness := (true, "fcce57d82b88c4b3015b95ddefccdbf550aa66b3a632443fa05c47b6881cad25"), looks := true }, kinds := [], alts := [], laidByText := true, laidKinds := [.data, .data, .data, .data, .sentinel, .sentinel, .pinned], laidTests := true, laidLooks := .later }
def BookWithdrawsUptoCardSaid : Prop := Claim7.holds Tryz.pinned (.plain (OpenSpec.upto bookWithdrawsSpec)) bookWithdrawsUptoCard

/-- THE SECOND FORM's CARD OF 'tensilelaw12.BookReports'. -/
def bookReportsUptoCard : Claim7 := { stood := { row := bookReportsUptoRow, standIns := [], harness := (true, "fcce57d82b88c4b3015b95ddefccdbf550aa66b3a632443fa05c47b6881cad25"), looks := true }, kinds := [], alts := [], laidByText := true, laidKinds := [.data, .data, .data, .data, .sentinel, .sentinel, .pinned], laidTests := true, laidLooks := .later }
def BookReportsUptoCardSaid : Prop := Claim7.holds Tryz.pinned (.plain (OpenSpec.upto bookReportsSpec)) bookReportsUptoCard

/-- THE SECOND FORM's CARD OF 'tensilelaw12.BookRecalls'. -/
def bookRecallsUptoCard : Claim7 := { stood := { row := bookRecallsUptoRow, standIns := [], harness := (true, "fcce57d82b88c4b3015b95ddefccdbf550aa66b3a632443fa05c47b6881cad25"), looks := true }, kinds := [], alts := [], laidByText := true, laidKinds := [.data, .data, .data, .data, .sentinel, .sentinel, .pinned], laidTests := true, laidLooks := .later }
def BookRecallsUptoCardSaid : Prop := Claim7.holds Tryz.pinned (.plain (OpenSpec.upto bookRecallsSpec)) bookRecallsUptoCard

/-- THE SECOND FORM's CARD OF 'tensilelaw12.BookResumes'. -/
def bookResumesUptoCard : Claim7 := { stood := { row := bookResumesUptoRow, standIns := [], harness := (true, "fcce57d82b88c4b3015b95ddefccdbf550aa66b3a632443fa05c47b6881cad25"), looks := true }, kinds := [], alts := [], laidByText := true, laidKinds := [.data, .data, .data, .data, .sentinel, .sentinel, .pinned], laidTests := true, laidLooks := .later }
def BookResumesUptoCardSaid : Prop := Claim7.holds Tryz.pinned (.plain (OpenSpec.upto bookResumesSpec)) bookResumesUptoCard
end Rows
end Go.Proofs.YtlllhbmbnjnoiaaGreatDoor
