/-
  DERIVED. GIVEN WITH THE SEED: THE CARDS: each row of YtfpmaennjlggeaaGreatDoorRows.lean that lists a variable, with what it lists TIED to the program's text (the seventh form; the later family's looks); each row that meets fmt, with fmt's text TOLD by the authors' own Lean function (tested against real Go, not proved from fmt's source: count such statements apart). THE CARD IS WHAT COUNTS. Prove the row's statement (the work); the ties are given (YtfpmaennjlggeaaGreatDoorTie.lean); close each card by the builder's one call (the guide's Derived/Test/ToyasCard.lean, 'card_holds'). Laid BY PROGRAM, IN A SANDBOX (cutbox-door.mjs). By AI agents, Wed Nov 11 2026. No macro, syntax, notation, axiom, sorry.
-/
import Derived.Test.YtfpmaennjlggeaaGreatDoorRows
import GoSem.ClaimSeven
namespace Go.Proofs.YtfpmaennjlggeaaGreatDoor
namespace Rows

/-- THE TIED CARD OF 'tensilelaw12.BookTimes'. -/
def bookTimesCard : Claim7 := { stood := { row := bookTimesRow, standIns := [], harness := (true, "2d087c6f4cca3a53560cedf75fd690d9382a23561c3a3180de98d17e69e74364"), looks := true }, kinds := [], alts := [], laidByText := true, laidKinds := [.data, .data, .data, .data, .sentinel, .sentinel, .pinned], laidTests := true, laidLooks := .later }
def BookTimesCardSaid : Prop := Claim7.holds Tryz.pinned (.plain (OpenSpec.ofChange bookTimesSpec)) bookTimesCard

/-- THE TIED CARD OF 'tensilelaw12.BookHangs'. -/
def bookHangsCard : Claim7 := { stood := { row := bookHangsRow, standIns := [], harness := (true, "2d087c6f4cca3a53560cedf75fd690d9382a23561c3a3180de98d17e69e74364"), looks := true }, kinds := [], alts := [], laidByText := true, laidKinds := [.data, .data, .data, .data, .sentinel, .sentinel, .pinned], laidTests := true, laidLooks := .later }
def BookHangsCardSaid : Prop := Claim7.holds Tryz.pinned (.plain (OpenSpec.ofChange bookHangsSpec)) bookHangsCard

/-- THE TIED CARD OF 'tensilelaw12.BookLinks'. -/
def bookLinksCard : Claim7 := { stood := { row := bookLinksRow, standIns := [], harness := (true, "2d087c6f4cca3a53560cedf75fd690d9382a23561c3a3180de98d17e69e74364"), looks := true }, kinds := [], alts := [], laidByText := true, laidKinds := [.data, .data, .data, .data, .sentinel, .sentinel, .pinned], laidTests := true, laidLooks := .later }
def BookLinksCardSaid : Prop := Claim7.holds Tryz.pinned (.plain (OpenSpec.ofChange bookLinksSpec)) bookLinksCard

/-- THE TIED CARD OF 'tensilelaw12.BookOpen'. -/
def bookOpenCard : Claim7 := { stood := { row := bookOpenRow, standIns := [], harness := (true, "2d087c6f4cca3a53560cedf75fd690d9382a23561c3a3180de98d17e69e74364"), looks := true }, kinds := [], alts := [], laidByText := true, laidKinds := [.data, .data, .data, .data, .sentinel, .sentinel, .pinned], laidTests := true, laidLooks := .later }
def BookOpenCardSaid : Prop := Claim7.holds Tryz.pinned (.plain (OpenSpec.ofChange bookOpenSpec)) bookOpenCard

/-- THE TIED CARD OF 'tensilelaw12.BookPasses'. -/
def bookPassesCard : Claim7 := { stood := { row := bookPassesRow, standIns := [], harness := (true, "2d087c6f4cca3a53560cedf75fd690d9382a23561c3a3180de98d17e69e74364"), looks := true }, kinds := [], alts := [], laidByText := true, laidKinds := [.data, .data, .data, .data, .sentinel, .sentinel, .pinned], laidTests := true, laidLooks := .later }
def BookPassesCardSaid : Prop := Claim7.holds Tryz.pinned (.plain (OpenSpec.ofChange bookPassesSpec)) bookPassesCard

/-- THE SECOND FORM's CARD OF 'tensilelaw12.BookTimes'. -/
def bookTimesUptoCard : Claim7 := { stood := { row := bookTimesUptoRow, standIns := [], harness := (true, "2d087c6f4cca3a53560cedf75fd690d9382a23561c3a3180de98d17e69e74364"), looks := true }, kinds := [], alts := [], laidByText := true, laidKinds := [.data, .data, .data, .data, .sentinel, .sentinel, .pinned], laidTests := true, laidLooks := .later }
def BookTimesUptoCardSaid : Prop := Claim7.holds Tryz.pinned (.plain (OpenSpec.upto bookTimesSpec)) bookTimesUptoCard

/-- THE SECOND FORM's CARD OF 'tensilelaw12.BookHangs'. -/
def bookHangsUptoCard : Claim7 := { stood := { row := bookHangsUptoRow, standIns := [], harness := (true, "2d087c6f4cca3a53560cedf75fd690d9382a23561c3a3180de98d17e69e74364"), looks := true }, kinds := [], alts := [], laidByText := true, laidKinds := [.data, .data, .data, .data, .sentinel, .sentinel, .pinned], laidTests := true, laidLooks := .later }
def BookHangsUptoCardSaid : Prop := Claim7.holds Tryz.pinned (.plain (OpenSpec.upto bookHangsSpec)) bookHangsUptoCard

/-- THE SECOND FORM's CARD OF 'tensilelaw12.BookLinks'. -/
def bookLinksUptoCard : Claim7 := { stood := { row := bookLinksUptoRow, standIns := [], harness := (true, "2d087c6f4cca3a53560cedf75fd690d9382a23561c3a3180de98d17e69e74364"), looks := true }, kinds := [], alts := [], laidByText := true, laidKinds := [.data, .data, .data, .data, .sentinel, .sentinel, .pinned], laidTests := true, laidLooks := .later }
def BookLinksUptoCardSaid : Prop := Claim7.holds Tryz.pinned (.plain (OpenSpec.upto bookLinksSpec)) bookLinksUptoCard

/-- THE SECOND FORM's CARD OF 'tensilelaw12.BookOpen'. -/
def bookOpenUptoCard : Claim7 := { stood := { row := bookOpenUptoRow, standIns := [], harness := (true, "2d087c6f4cca3a53560cedf75fd690d9382a23561c3a3180de98d17e69e74364"), looks := true }, kinds := [], alts := [], laidByText := true, laidKinds := [.data, .data, .data, .data, .sentinel, .sentinel, .pinned], laidTests := true, laidLooks := .later }
def BookOpenUptoCardSaid : Prop := Claim7.holds Tryz.pinned (.plain (OpenSpec.upto bookOpenSpec)) bookOpenUptoCard

/-- THE SECOND FORM's CARD OF 'tensilelaw12.BookPasses'. -/
def bookPassesUptoCard : Claim7 := { stood := { row := bookPassesUptoRow, standIns := [], harness := (true, "2d087c6f4cca3a53560cedf75fd690d9382a23561c3a3180de98d17e69e74364"), looks := true }, kinds := [], alts := [], laidByText := true, laidKinds := [.data, .data, .data, .data, .sentinel, .sentinel, .pinned], laidTests := true, laidLooks := .later }
def BookPassesUptoCardSaid : Prop := Claim7.holds Tryz.pinned (.plain (OpenSpec.upto bookPassesSpec)) bookPassesUptoCard
end Rows
end Go.Proofs.YtfpmaennjlggeaaGreatDoor
