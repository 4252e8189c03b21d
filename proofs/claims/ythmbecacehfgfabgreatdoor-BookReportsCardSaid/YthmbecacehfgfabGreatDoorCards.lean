/-
  DERIVED. GIVEN WITH THE SEED: THE CARDS: each row of YthmbecacehfgfabGreatDoorRows.lean that lists a variable, with what it lists TIED to the program's text (the seventh form; the later family's looks); each row that meets fmt, with fmt's text TOLD by the authors' own Lean function (tested against real Go, not proved from fmt's source: count such statements apart). THE CARD IS WHAT COUNTS. Prove the row's statement (the work); the ties are given (YthmbecacehfgfabGreatDoorTie.lean); close each card by the builder's one call (the guide's Derived/Test/ToyasCard.lean, 'card_holds'). Laid BY PROGRAM, IN A SANDBOX (cutbox-door.mjs). By AI agents, Wed Nov 11 2026. No macro, syntax, notation, axiom, sorry.
-/
import Derived.Test.YthmbecacehfgfabGreatDoorRows
import GoSem.ClaimSeven
namespace Go.Proofs.YthmbecacehfgfabGreatDoor
namespace Rows

/-- THE TIED CARD OF 'tensilelaw12.BookReports'. -/
def bookReportsCard : Claim7 := { stood := { row := bookReportsRow, standIns := [], harness := (true, "9fb49b3d41716232f722c36343915613e147b2ba665bf48a831ee42e7b23da4c"), looks := true }, kinds := [], alts := [], laidByText := true, laidKinds := [.data, .data, .data, .data, .sentinel, .sentinel, .pinned], laidTests := true, laidLooks := .later }
def BookReportsCardSaid : Prop := Claim7.holds Tryz.pinned (.plain (OpenSpec.ofChange bookReportsSpec)) bookReportsCard

/-- THE SECOND FORM's CARD OF 'tensilelaw12.BookReports'. -/
def bookReportsUptoCard : Claim7 := { stood := { row := bookReportsUptoRow, standIns := [], harness := (true, "9fb49b3d41716232f722c36343915613e147b2ba665bf48a831ee42e7b23da4c"), looks := true }, kinds := [], alts := [], laidByText := true, laidKinds := [.data, .data, .data, .data, .sentinel, .sentinel, .pinned], laidTests := true, laidLooks := .later }
def BookReportsUptoCardSaid : Prop := Claim7.holds Tryz.pinned (.plain (OpenSpec.upto bookReportsSpec)) bookReportsUptoCard
end Rows
end Go.Proofs.YthmbecacehfgfabGreatDoor
