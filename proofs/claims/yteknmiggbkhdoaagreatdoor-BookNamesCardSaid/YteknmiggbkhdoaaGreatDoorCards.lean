/-
  DERIVED. GIVEN WITH THE SEED: THE CARDS: each row of YteknmiggbkhdoaaGreatDoorRows.lean that lists a variable, with what it lists TIED to the program's text (the seventh form; the later family's looks); each row that meets fmt, with fmt's text TOLD by the authors' own Lean function (tested against real Go, not proved from fmt's source: count such statements apart). THE CARD IS WHAT COUNTS. Prove the row's statement (the work); the ties are given (YteknmiggbkhdoaaGreatDoorTie.lean); close each card by the builder's one call (the guide's Derived/Test/ToyasCard.lean, 'card_holds'). Laid BY PROGRAM, IN A SANDBOX (cutbox-door.mjs). By AI agents, Wed Nov 11 2026. No macro, syntax, notation, axiom, sorry.
-/
import Derived.Test.YteknmiggbkhdoaaGreatDoorRows
import GoSem.ClaimSeven
namespace Go.Proofs.YteknmiggbkhdoaaGreatDoor
namespace Rows

/-- THE TIED CARD OF 'tensilelaw12.BookReplays'. -/
def bookReplaysCard : Claim7 := { stood := { row := bookReplaysRow, standIns := [], harness := (true, "429b1301e4e9e14836810d17c619d588cb37bbf0a235cc417304b7271646d6e2"), looks := true }, kinds := [], alts := [], laidByText := true, laidKinds := [.data, .data, .data, .data, .sentinel, .sentinel, .pinned], laidTests := true, laidLooks := .later }
def BookReplaysCardSaid : Prop := Claim7.holds Tryz.pinned (.plain (OpenSpec.ofChange bookReplaysSpec)) bookReplaysCard

/-- THE TIED CARD OF 'tensilelaw12.BookWrites'. -/
def bookWritesCard : Claim7 := { stood := { row := bookWritesRow, standIns := [], harness := (true, "429b1301e4e9e14836810d17c619d588cb37bbf0a235cc417304b7271646d6e2"), looks := true }, kinds := [], alts := [], laidByText := true, laidKinds := [.data, .data, .data, .data, .sentinel, .sentinel, .pinned], laidTests := true, laidLooks := .later }
def BookWritesCardSaid : Prop := Claim7.holds Tryz.pinned (.plain (OpenSpec.ofChange bookWritesSpec)) bookWritesCard

/-- THE TIED CARD OF 'tensilelaw12.BookStops'. -/
def bookStopsCard : Claim7 := { stood := { row := bookStopsRow, standIns := [], harness := (true, "429b1301e4e9e14836810d17c619d588cb37bbf0a235cc417304b7271646d6e2"), looks := true }, kinds := [], alts := [], laidByText := true, laidKinds := [.data, .data, .data, .data, .sentinel, .sentinel, .pinned], laidTests := true, laidLooks := .later }
def BookStopsCardSaid : Prop := Claim7.holds Tryz.pinned (.plain (OpenSpec.ofChange bookStopsSpec)) bookStopsCard

/-- THE TIED CARD OF 'tensilelaw12.BookPlace'. -/
def bookPlaceCard : Claim7 := { stood := { row := bookPlaceRow, standIns := [], harness := (true, "429b1301e4e9e14836810d17c619d588cb37bbf0a235cc417304b7271646d6e2"), looks := true }, kinds := [], alts := [], laidByText := true, laidKinds := [.data, .data, .data, .data, .sentinel, .sentinel, .pinned], laidTests := true, laidLooks := .later }
def BookPlaceCardSaid : Prop := Claim7.holds Tryz.pinned (.plain (OpenSpec.ofChange bookPlaceSpec)) bookPlaceCard

/-- THE TIED CARD OF 'tensilelaw12.BookGoesOn'. -/
def bookGoesOnCard : Claim7 := { stood := { row := bookGoesOnRow, standIns := [], harness := (true, "429b1301e4e9e14836810d17c619d588cb37bbf0a235cc417304b7271646d6e2"), looks := true }, kinds := [], alts := [], laidByText := true, laidKinds := [.data, .data, .data, .data, .sentinel, .sentinel, .pinned], laidTests := true, laidLooks := .later }
def BookGoesOnCardSaid : Prop := Claim7.holds Tryz.pinned (.plain (OpenSpec.ofChange bookGoesOnSpec)) bookGoesOnCard

/-- THE TIED CARD OF 'tensilelaw12.BookNames'. -/
def bookNamesCard : Claim7 := { stood := { row := bookNamesRow, standIns := [], harness := (true, "429b1301e4e9e14836810d17c619d588cb37bbf0a235cc417304b7271646d6e2"), looks := true }, kinds := [], alts := [], laidByText := true, laidKinds := [.data, .data, .data, .data, .sentinel, .sentinel, .pinned], laidTests := true, laidLooks := .later }
def BookNamesCardSaid : Prop := Claim7.holds Tryz.pinned (.plain (OpenSpec.ofChange bookNamesSpec)) bookNamesCard

/-- THE SECOND FORM's CARD OF 'tensilelaw12.BookReplays'. -/
def bookReplaysUptoCard : Claim7 := { stood := { row := bookReplaysUptoRow, standIns := [], harness := (true, "429b1301e4e9e14836810d17c619d588cb37bbf0a235cc417304b7271646d6e2"), looks := true }, kinds := [], alts := [], laidByText := true, laidKinds := [.data, .data, .data, .data, .sentinel, .sentinel, .pinned], laidTests := true, laidLooks := .later }
def BookReplaysUptoCardSaid : Prop := Claim7.holds Tryz.pinned (.plain (OpenSpec.upto bookReplaysSpec)) bookReplaysUptoCard

/-- THE SECOND FORM's CARD OF 'tensilelaw12.BookWrites'. -/
def bookWritesUptoCard : Claim7 := { stood := { row := bookWritesUptoRow, standIns := [], harness := (true, "429b1301e4e9e14836810d17c619d588cb37bbf0a235cc417304b7271646d6e2"), looks := true }, kinds := [], alts := [], laidByText := true, laidKinds := [.data, .data, .data, .data, .sentinel, .sentinel, .pinned], laidTests := true, laidLooks := .later }
def BookWritesUptoCardSaid : Prop := Claim7.holds Tryz.pinned (.plain (OpenSpec.upto bookWritesSpec)) bookWritesUptoCard

/-- THE SECOND FORM's CARD OF 'tensilelaw12.BookStops'. -/
def bookStopsUptoCard : Claim7 := { stood := { row := bookStopsUptoRow, standIns := [], harness := (true, "429b1301e4e9e14836810d17c619d588cb37bbf0a235cc417304b7271646d6e2"), looks := true }, kinds := [], alts := [], laidByText := true, laidKinds := [.data, .data, .data, .data, .sentinel, .sentinel, .pinned], laidTests := true, laidLooks := .later }
def BookStopsUptoCardSaid : Prop := Claim7.holds Tryz.pinned (.plain (OpenSpec.upto bookStopsSpec)) bookStopsUptoCard

/-- THE SECOND FORM's CARD OF 'tensilelaw12.BookPlace'. -/
def bookPlaceUptoCard : Claim7 := { stood := { row := bookPlaceUptoRow, standIns := [], harness := (true, "429b1301e4e9e14836810d17c619d588cb37bbf0a235cc417304b7271646d6e2"), looks := true }, kinds := [], alts := [], laidByText := true, laidKinds := [.data, .data, .data, .data, .sentinel, .sentinel, .pinned], laidTests := true, laidLooks := .later }
def BookPlaceUptoCardSaid : Prop := Claim7.holds Tryz.pinned (.plain (OpenSpec.upto bookPlaceSpec)) bookPlaceUptoCard

/-- THE SECOND FORM's CARD OF 'tensilelaw12.BookGoesOn'. -/
def bookGoesOnUptoCard : Claim7 := { stood := { row := bookGoesOnUptoRow, standIns := [], harness := (true, "429b1301e4e9e14836810d17c619d588cb37bbf0a235cc417304b7271646d6e2"), looks := true }, kinds := [], alts := [], laidByText := true, laidKinds := [.data, .data, .data, .data, .sentinel, .sentinel, .pinned], laidTests := true, laidLooks := .later }
def BookGoesOnUptoCardSaid : Prop := Claim7.holds Tryz.pinned (.plain (OpenSpec.upto bookGoesOnSpec)) bookGoesOnUptoCard

/-- THE SECOND FORM's CARD OF 'tensilelaw12.BookNames'. -/
def bookNamesUptoCard : Claim7 := { stood := { row := bookNamesUptoRow, standIns := [], harness := (true, "429b1301e4e9e14836810d17c619d588cb37bbf0a235cc417304b7271646d6e2"), looks := true }, kinds := [], alts := [], laidByText := true, laidKinds := [.data, .data, .data, .data, .sentinel, .sentinel, .pinned], laidTests := true, laidLooks := .later }
def BookNamesUptoCardSaid : Prop := Claim7.holds Tryz.pinned (.plain (OpenSpec.upto bookNamesSpec)) bookNamesUptoCard
end Rows
end Go.Proofs.YteknmiggbkhdoaaGreatDoor
