/-
  No cell of these rows narrows 'for every input' (looked for: loops, veiled, ifaces, maps, wideKeys, modest, calm, conditions, laid).
  DERIVED. THE GIVEN ROWS OF THIS SEAT. 13 by the template 'for every input the law returns true; each argument reads behind the call as it read before'; 0 by the template 'total and deterministic' (their statements: YtohhjnpiiackjaaTotals.lean).
  GIVEN WITH THE SEED: the statements are not yours to turn. If you find one false, say at which input.
  Laid BY PROGRAM, IN A SANDBOX (cutbox-rows.mjs): the forced cells as the released guide's own fill.sh prints them over the translation e29e35ea286be371… (all of the seat's roots in one cut). By AI agents, Wed Nov 11 2026. No macro, syntax, notation, axiom, sorry.
-/
import Derived.Test.YtohhjnpiiackjaaChecked
import GoSem.Claim
import GoSem.ClaimJoined
import GoSem.ClaimMapViews
import Derived.JoinedTies
import Derived.KernelRfl
namespace Go.Proofs.Ytohhjnpiiackjaa
/- THE CELL 'sum', in the pinned program and in every row, IS THE sha256 OF THE DUMP (.gsa) THAT YtohhjnpiiackjaaProg.lean LOADS. Nothing in Lean hashes anything: it is a label: what it is worth is what the hold of that sum in a sandbox is worth. -/
noncomputable def Try.pinned : Pinned := { name := "ytohhjnpiiackjaa", sum := "e29e35ea286be371ed6da53303b0e887fcf19d2c5dd0b84ad1b33ab29b4b1349", checked := Try.checked }
namespace Rows
def none {H : Type} : Left H := { results := [], args := [] }

/-- 'tensilelaw10.QueueRooms': WHATEVER THE INPUT: true; the input reads as it did. -/
def queueRoomsSpec : ChangeSpec := { name := "queueRooms", fn := fun _ => fun
  | [d1, d2, d3] => { results := [.lit (.bool true)], args := [d1, d2, d3] }
  | _ => none }
def queueRoomsRow : OpenClaim := { program := "ytohhjnpiiackjaa", sum := "e29e35ea286be371ed6da53303b0e887fcf19d2c5dd0b84ad1b33ab29b4b1349", func := "tensile/tensilelaw10.QueueRooms", spec := "queueRooms", unfollowed := true, recurses := true, plainKeys := false, apart := false }
def QueueRoomsSaid : Prop := queueRoomsRow.holds Try.pinned (OpenSpec.ofChange queueRoomsSpec)

/-- ITS FALSE NEIGHBOUR: 'it returns false'. Refute it at one input. -/
def queueRoomsWrong : ChangeSpec := { name := "queueRooms", fn := fun _ => fun
  | [d1, d2, d3] => { results := [.lit (.bool false)], args := [d1, d2, d3] }
  | _ => none }
def QueueRoomsWrongFalsely : Prop := queueRoomsRow.holds Try.pinned (OpenSpec.ofChange queueRoomsWrong)

/-- 'tensilelaw10.QueueEarliest': WHATEVER THE INPUT: true; the input reads as it did. -/
def queueEarliestSpec : ChangeSpec := { name := "queueEarliest", fn := fun _ => fun
  | [d] => { results := [.lit (.bool true)], args := [d] }
  | _ => none }
def queueEarliestRow : OpenClaim := { program := "ytohhjnpiiackjaa", sum := "e29e35ea286be371ed6da53303b0e887fcf19d2c5dd0b84ad1b33ab29b4b1349", func := "tensile/tensilelaw10.QueueEarliest", spec := "queueEarliest", unfollowed := true, recurses := true, plainKeys := false, apart := false }
def QueueEarliestSaid : Prop := queueEarliestRow.holds Try.pinned (OpenSpec.ofChange queueEarliestSpec)

/-- ITS FALSE NEIGHBOUR: 'it returns false'. Refute it at one input. -/
def queueEarliestWrong : ChangeSpec := { name := "queueEarliest", fn := fun _ => fun
  | [d] => { results := [.lit (.bool false)], args := [d] }
  | _ => none }
def QueueEarliestWrongFalsely : Prop := queueEarliestRow.holds Try.pinned (OpenSpec.ofChange queueEarliestWrong)

/-- 'tensilelaw10.QueueReasons': WHATEVER THE INPUT: true; the input reads as it did. -/
def queueReasonsSpec : ChangeSpec := { name := "queueReasons", fn := fun _ => fun
  | [d] => { results := [.lit (.bool true)], args := [d] }
  | _ => none }
def queueReasonsRow : OpenClaim := { program := "ytohhjnpiiackjaa", sum := "e29e35ea286be371ed6da53303b0e887fcf19d2c5dd0b84ad1b33ab29b4b1349", func := "tensile/tensilelaw10.QueueReasons", spec := "queueReasons", unfollowed := true, recurses := true, plainKeys := false, apart := false }
def QueueReasonsSaid : Prop := queueReasonsRow.holds Try.pinned (OpenSpec.ofChange queueReasonsSpec)

/-- ITS FALSE NEIGHBOUR: 'it returns false'. Refute it at one input. -/
def queueReasonsWrong : ChangeSpec := { name := "queueReasons", fn := fun _ => fun
  | [d] => { results := [.lit (.bool false)], args := [d] }
  | _ => none }
def QueueReasonsWrongFalsely : Prop := queueReasonsRow.holds Try.pinned (OpenSpec.ofChange queueReasonsWrong)

/-- 'tensilelaw10.QueueProves': WHATEVER THE INPUT: true; the input reads as it did. -/
def queueProvesSpec : ChangeSpec := { name := "queueProves", fn := fun _ => fun
  | [d1, d2, d3] => { results := [.lit (.bool true)], args := [d1, d2, d3] }
  | _ => none }
def queueProvesRow : OpenClaim := { program := "ytohhjnpiiackjaa", sum := "e29e35ea286be371ed6da53303b0e887fcf19d2c5dd0b84ad1b33ab29b4b1349", func := "tensile/tensilelaw10.QueueProves", spec := "queueProves", unfollowed := true, recurses := true, plainKeys := false, apart := false }
def QueueProvesSaid : Prop := queueProvesRow.holds Try.pinned (OpenSpec.ofChange queueProvesSpec)

/-- ITS FALSE NEIGHBOUR: 'it returns false'. Refute it at one input. -/
def queueProvesWrong : ChangeSpec := { name := "queueProves", fn := fun _ => fun
  | [d1, d2, d3] => { results := [.lit (.bool false)], args := [d1, d2, d3] }
  | _ => none }
def QueueProvesWrongFalsely : Prop := queueProvesRow.holds Try.pinned (OpenSpec.ofChange queueProvesWrong)

/-- 'tensilelaw10.QueueRests': WHATEVER THE INPUT: true; the input reads as it did. -/
def queueRestsSpec : ChangeSpec := { name := "queueRests", fn := fun _ => fun
  | [d1, d2, d3, d4] => { results := [.lit (.bool true)], args := [d1, d2, d3, d4] }
  | _ => none }
def queueRestsRow : OpenClaim := { program := "ytohhjnpiiackjaa", sum := "e29e35ea286be371ed6da53303b0e887fcf19d2c5dd0b84ad1b33ab29b4b1349", func := "tensile/tensilelaw10.QueueRests", spec := "queueRests", unfollowed := true, recurses := true, plainKeys := false, apart := false }
def QueueRestsSaid : Prop := queueRestsRow.holds Try.pinned (OpenSpec.ofChange queueRestsSpec)

/-- ITS FALSE NEIGHBOUR: 'it returns false'. Refute it at one input. -/
def queueRestsWrong : ChangeSpec := { name := "queueRests", fn := fun _ => fun
  | [d1, d2, d3, d4] => { results := [.lit (.bool false)], args := [d1, d2, d3, d4] }
  | _ => none }
def QueueRestsWrongFalsely : Prop := queueRestsRow.holds Try.pinned (OpenSpec.ofChange queueRestsWrong)

/-- 'tensilelaw10.QueueNames': WHATEVER THE INPUT: true; the input reads as it did. -/
def queueNamesSpec : ChangeSpec := { name := "queueNames", fn := fun _ => fun
  | [] => { results := [.lit (.bool true)], args := [] }
  | _ => none }
def queueNamesRow : OpenClaim := { program := "ytohhjnpiiackjaa", sum := "e29e35ea286be371ed6da53303b0e887fcf19d2c5dd0b84ad1b33ab29b4b1349", func := "tensile/tensilelaw10.QueueNames", spec := "queueNames", unfollowed := true, recurses := true, plainKeys := false, apart := false }
def QueueNamesSaid : Prop := queueNamesRow.holds Try.pinned (OpenSpec.ofChange queueNamesSpec)

/-- ITS FALSE NEIGHBOUR: 'it returns false'. Refute it at one input. -/
def queueNamesWrong : ChangeSpec := { name := "queueNames", fn := fun _ => fun
  | [] => { results := [.lit (.bool false)], args := [] }
  | _ => none }
def QueueNamesWrongFalsely : Prop := queueNamesRow.holds Try.pinned (OpenSpec.ofChange queueNamesWrong)

/-- 'tensilelaw10.QueueRight': WHATEVER THE INPUT: true; the input reads as it did. -/
def queueRightSpec : ChangeSpec := { name := "queueRight", fn := fun _ => fun
  | [d1, d2] => { results := [.lit (.bool true)], args := [d1, d2] }
  | _ => none }
def queueRightRow : OpenClaim := { program := "ytohhjnpiiackjaa", sum := "e29e35ea286be371ed6da53303b0e887fcf19d2c5dd0b84ad1b33ab29b4b1349", func := "tensile/tensilelaw10.QueueRight", spec := "queueRight", unfollowed := true, recurses := true, plainKeys := false, apart := false }
def QueueRightSaid : Prop := queueRightRow.holds Try.pinned (OpenSpec.ofChange queueRightSpec)

/-- ITS FALSE NEIGHBOUR: 'it returns false'. Refute it at one input. -/
def queueRightWrong : ChangeSpec := { name := "queueRight", fn := fun _ => fun
  | [d1, d2] => { results := [.lit (.bool false)], args := [d1, d2] }
  | _ => none }
def QueueRightWrongFalsely : Prop := queueRightRow.holds Try.pinned (OpenSpec.ofChange queueRightWrong)

/-- 'tensilelaw10.QueueNone': WHATEVER THE INPUT: true; the input reads as it did. -/
def queueNoneSpec : ChangeSpec := { name := "queueNone", fn := fun _ => fun
  | [d1, d2] => { results := [.lit (.bool true)], args := [d1, d2] }
  | _ => none }
def queueNoneRow : OpenClaim := { program := "ytohhjnpiiackjaa", sum := "e29e35ea286be371ed6da53303b0e887fcf19d2c5dd0b84ad1b33ab29b4b1349", func := "tensile/tensilelaw10.QueueNone", spec := "queueNone", unfollowed := true, recurses := true, plainKeys := false, apart := false }
def QueueNoneSaid : Prop := queueNoneRow.holds Try.pinned (OpenSpec.ofChange queueNoneSpec)

/-- ITS FALSE NEIGHBOUR: 'it returns false'. Refute it at one input. -/
def queueNoneWrong : ChangeSpec := { name := "queueNone", fn := fun _ => fun
  | [d1, d2] => { results := [.lit (.bool false)], args := [d1, d2] }
  | _ => none }
def QueueNoneWrongFalsely : Prop := queueNoneRow.holds Try.pinned (OpenSpec.ofChange queueNoneWrong)

/-- 'tensilelaw10.QueueEasier': WHATEVER THE INPUT: true; the input reads as it did. -/
def queueEasierSpec : ChangeSpec := { name := "queueEasier", fn := fun _ => fun
  | [d1, d2, d3, d4, d5] => { results := [.lit (.bool true)], args := [d1, d2, d3, d4, d5] }
  | _ => none }
def queueEasierRow : OpenClaim := { program := "ytohhjnpiiackjaa", sum := "e29e35ea286be371ed6da53303b0e887fcf19d2c5dd0b84ad1b33ab29b4b1349", func := "tensile/tensilelaw10.QueueEasier", spec := "queueEasier", unfollowed := true, recurses := true, plainKeys := false, apart := false }
def QueueEasierSaid : Prop := queueEasierRow.holds Try.pinned (OpenSpec.ofChange queueEasierSpec)

/-- ITS FALSE NEIGHBOUR: 'it returns false'. Refute it at one input. -/
def queueEasierWrong : ChangeSpec := { name := "queueEasier", fn := fun _ => fun
  | [d1, d2, d3, d4, d5] => { results := [.lit (.bool false)], args := [d1, d2, d3, d4, d5] }
  | _ => none }
def QueueEasierWrongFalsely : Prop := queueEasierRow.holds Try.pinned (OpenSpec.ofChange queueEasierWrong)

/-- 'tensilelaw10.QueueOn': WHATEVER THE INPUT: true; the input reads as it did. -/
def queueOnSpec : ChangeSpec := { name := "queueOn", fn := fun _ => fun
  | [d1, d2, d3] => { results := [.lit (.bool true)], args := [d1, d2, d3] }
  | _ => none }
def queueOnRow : OpenClaim := { program := "ytohhjnpiiackjaa", sum := "e29e35ea286be371ed6da53303b0e887fcf19d2c5dd0b84ad1b33ab29b4b1349", func := "tensile/tensilelaw10.QueueOn", spec := "queueOn", unfollowed := true, recurses := true, plainKeys := false, apart := false }
def QueueOnSaid : Prop := queueOnRow.holds Try.pinned (OpenSpec.ofChange queueOnSpec)

/-- ITS FALSE NEIGHBOUR: 'it returns false'. Refute it at one input. -/
def queueOnWrong : ChangeSpec := { name := "queueOn", fn := fun _ => fun
  | [d1, d2, d3] => { results := [.lit (.bool false)], args := [d1, d2, d3] }
  | _ => none }
def QueueOnWrongFalsely : Prop := queueOnRow.holds Try.pinned (OpenSpec.ofChange queueOnWrong)

/-- 'tensilelaw10.QueueOrder': WHATEVER THE INPUT: true; the input reads as it did. -/
def queueOrderSpec : ChangeSpec := { name := "queueOrder", fn := fun _ => fun
  | [d1, d2] => { results := [.lit (.bool true)], args := [d1, d2] }
  | _ => none }
def queueOrderRow : OpenClaim := { program := "ytohhjnpiiackjaa", sum := "e29e35ea286be371ed6da53303b0e887fcf19d2c5dd0b84ad1b33ab29b4b1349", func := "tensile/tensilelaw10.QueueOrder", spec := "queueOrder", unfollowed := true, recurses := true, plainKeys := false, apart := false }
def QueueOrderSaid : Prop := queueOrderRow.holds Try.pinned (OpenSpec.ofChange queueOrderSpec)

/-- ITS FALSE NEIGHBOUR: 'it returns false'. Refute it at one input. -/
def queueOrderWrong : ChangeSpec := { name := "queueOrder", fn := fun _ => fun
  | [d1, d2] => { results := [.lit (.bool false)], args := [d1, d2] }
  | _ => none }
def QueueOrderWrongFalsely : Prop := queueOrderRow.holds Try.pinned (OpenSpec.ofChange queueOrderWrong)

/-- 'tensilelaw10.QueueTwo': WHATEVER THE INPUT: true; the input reads as it did. -/
def queueTwoSpec : ChangeSpec := { name := "queueTwo", fn := fun _ => fun
  | [d1, d2, d3] => { results := [.lit (.bool true)], args := [d1, d2, d3] }
  | _ => none }
def queueTwoRow : OpenClaim := { program := "ytohhjnpiiackjaa", sum := "e29e35ea286be371ed6da53303b0e887fcf19d2c5dd0b84ad1b33ab29b4b1349", func := "tensile/tensilelaw10.QueueTwo", spec := "queueTwo", unfollowed := true, recurses := true, plainKeys := false, apart := false }
def QueueTwoSaid : Prop := queueTwoRow.holds Try.pinned (OpenSpec.ofChange queueTwoSpec)

/-- ITS FALSE NEIGHBOUR: 'it returns false'. Refute it at one input. -/
def queueTwoWrong : ChangeSpec := { name := "queueTwo", fn := fun _ => fun
  | [d1, d2, d3] => { results := [.lit (.bool false)], args := [d1, d2, d3] }
  | _ => none }
def QueueTwoWrongFalsely : Prop := queueTwoRow.holds Try.pinned (OpenSpec.ofChange queueTwoWrong)

/-- 'tensilelaw10.QueueRoom': WHATEVER THE INPUT: true; the input reads as it did. -/
def queueRoomSpec : ChangeSpec := { name := "queueRoom", fn := fun _ => fun
  | [d1, d2, d3, d4] => { results := [.lit (.bool true)], args := [d1, d2, d3, d4] }
  | _ => none }
def queueRoomRow : OpenClaim := { program := "ytohhjnpiiackjaa", sum := "e29e35ea286be371ed6da53303b0e887fcf19d2c5dd0b84ad1b33ab29b4b1349", func := "tensile/tensilelaw10.QueueRoom", spec := "queueRoom", unfollowed := true, recurses := true, plainKeys := false, apart := false }
def QueueRoomSaid : Prop := queueRoomRow.holds Try.pinned (OpenSpec.ofChange queueRoomSpec)

/-- ITS FALSE NEIGHBOUR: 'it returns false'. Refute it at one input. -/
def queueRoomWrong : ChangeSpec := { name := "queueRoom", fn := fun _ => fun
  | [d1, d2, d3, d4] => { results := [.lit (.bool false)], args := [d1, d2, d3, d4] }
  | _ => none }
def QueueRoomWrongFalsely : Prop := queueRoomRow.holds Try.pinned (OpenSpec.ofChange queueRoomWrong)

/- THE SECOND FORM. 'bulk': how many values and letters a reading holds, each counted each time it is reached (what is shared counts as often as it is met; a slice's spare places count too). A statement '..UptoSaid' is the law's where the arguments, and the package variables that the reading takes, are together of bulk at most 1048576: NARROWER than '..Said'. Prove '..Said' where nothing that the law and all that it calls make is longer than what came in: it says more and counts as full. Else prove '..UptoSaid'. A law counts once. -/
mutual
def uptoBulk {H : Type} : DataW H → Nat
  | .lit (.string bytes) => bytes.length + 1
  | .lit _ => 1
  | .nil => 1
  | .ptr d => uptoBulk d + 1
  | .slice elems spare => uptoBulkAll elems + uptoBulkAll spare + 1
  | .agg parts => uptoBulkAll parts + 1
  | .iface _ d => uptoBulk d + 1
  | .map entries => uptoBulkEntries entries + 1
  | .held _ => 1
def uptoBulkAll {H : Type} : List (DataW H) → Nat
  | [] => 0
  | d :: r => uptoBulk d + uptoBulkAll r
def uptoBulkEntries {H : Type} : List (Lit × DataW H) → Nat
  | [] => 0
  | x :: r => uptoBulkEntry x + uptoBulkEntries r
def uptoBulkEntry {H : Type} : Lit × DataW H → Nat
  | (.string bytes, d) => bytes.length + uptoBulk d + 1
  | (_, d) => uptoBulk d + 1
 end
def uptoSmall : (H : Type) → List (DataW H) → Bool := fun _ ds => decide (uptoBulkAll ds ≤ 1048576)
def OpenSpec.upto (s : _root_.Go.ChangeSpec) : _root_.Go.OpenSpec := { _root_.Go.OpenSpec.ofChange s with cond := some uptoSmall }

/-- 'tensilelaw10.QueueRooms', WHERE WHAT IT READS IS OF BULK AT MOST 1048576: true; the input reads as it did. -/
def queueRoomsUptoRow : OpenClaim := { program := "ytohhjnpiiackjaa", sum := "e29e35ea286be371ed6da53303b0e887fcf19d2c5dd0b84ad1b33ab29b4b1349", func := "tensile/tensilelaw10.QueueRooms", spec := "queueRooms", unfollowed := true, recurses := true, plainKeys := false, apart := false, narrowed := true }
def QueueRoomsUptoSaid : Prop := queueRoomsUptoRow.holds Try.pinned (OpenSpec.upto queueRoomsSpec)

/-- 'tensilelaw10.QueueEarliest', WHERE WHAT IT READS IS OF BULK AT MOST 1048576: true; the input reads as it did. -/
def queueEarliestUptoRow : OpenClaim := { program := "ytohhjnpiiackjaa", sum := "e29e35ea286be371ed6da53303b0e887fcf19d2c5dd0b84ad1b33ab29b4b1349", func := "tensile/tensilelaw10.QueueEarliest", spec := "queueEarliest", unfollowed := true, recurses := true, plainKeys := false, apart := false, narrowed := true }
def QueueEarliestUptoSaid : Prop := queueEarliestUptoRow.holds Try.pinned (OpenSpec.upto queueEarliestSpec)

/-- 'tensilelaw10.QueueReasons', WHERE WHAT IT READS IS OF BULK AT MOST 1048576: true; the input reads as it did. -/
def queueReasonsUptoRow : OpenClaim := { program := "ytohhjnpiiackjaa", sum := "e29e35ea286be371ed6da53303b0e887fcf19d2c5dd0b84ad1b33ab29b4b1349", func := "tensile/tensilelaw10.QueueReasons", spec := "queueReasons", unfollowed := true, recurses := true, plainKeys := false, apart := false, narrowed := true }
def QueueReasonsUptoSaid : Prop := queueReasonsUptoRow.holds Try.pinned (OpenSpec.upto queueReasonsSpec)

/-- 'tensilelaw10.QueueProves', WHERE WHAT IT READS IS OF BULK AT MOST 1048576: true; the input reads as it did. -/
def queueProvesUptoRow : OpenClaim := { program := "ytohhjnpiiackjaa", sum := "e29e35ea286be371ed6da53303b0e887fcf19d2c5dd0b84ad1b33ab29b4b1349", func := "tensile/tensilelaw10.QueueProves", spec := "queueProves", unfollowed := true, recurses := true, plainKeys := false, apart := false, narrowed := true }
def QueueProvesUptoSaid : Prop := queueProvesUptoRow.holds Try.pinned (OpenSpec.upto queueProvesSpec)

/-- 'tensilelaw10.QueueRests', WHERE WHAT IT READS IS OF BULK AT MOST 1048576: true; the input reads as it did. -/
def queueRestsUptoRow : OpenClaim := { program := "ytohhjnpiiackjaa", sum := "e29e35ea286be371ed6da53303b0e887fcf19d2c5dd0b84ad1b33ab29b4b1349", func := "tensile/tensilelaw10.QueueRests", spec := "queueRests", unfollowed := true, recurses := true, plainKeys := false, apart := false, narrowed := true }
def QueueRestsUptoSaid : Prop := queueRestsUptoRow.holds Try.pinned (OpenSpec.upto queueRestsSpec)

/-- 'tensilelaw10.QueueNames', WHERE WHAT IT READS IS OF BULK AT MOST 1048576: true; the input reads as it did. -/
def queueNamesUptoRow : OpenClaim := { program := "ytohhjnpiiackjaa", sum := "e29e35ea286be371ed6da53303b0e887fcf19d2c5dd0b84ad1b33ab29b4b1349", func := "tensile/tensilelaw10.QueueNames", spec := "queueNames", unfollowed := true, recurses := true, plainKeys := false, apart := false, narrowed := true }
def QueueNamesUptoSaid : Prop := queueNamesUptoRow.holds Try.pinned (OpenSpec.upto queueNamesSpec)

/-- 'tensilelaw10.QueueRight', WHERE WHAT IT READS IS OF BULK AT MOST 1048576: true; the input reads as it did. -/
def queueRightUptoRow : OpenClaim := { program := "ytohhjnpiiackjaa", sum := "e29e35ea286be371ed6da53303b0e887fcf19d2c5dd0b84ad1b33ab29b4b1349", func := "tensile/tensilelaw10.QueueRight", spec := "queueRight", unfollowed := true, recurses := true, plainKeys := false, apart := false, narrowed := true }
def QueueRightUptoSaid : Prop := queueRightUptoRow.holds Try.pinned (OpenSpec.upto queueRightSpec)

/-- 'tensilelaw10.QueueNone', WHERE WHAT IT READS IS OF BULK AT MOST 1048576: true; the input reads as it did. -/
def queueNoneUptoRow : OpenClaim := { program := "ytohhjnpiiackjaa", sum := "e29e35ea286be371ed6da53303b0e887fcf19d2c5dd0b84ad1b33ab29b4b1349", func := "tensile/tensilelaw10.QueueNone", spec := "queueNone", unfollowed := true, recurses := true, plainKeys := false, apart := false, narrowed := true }
def QueueNoneUptoSaid : Prop := queueNoneUptoRow.holds Try.pinned (OpenSpec.upto queueNoneSpec)

/-- 'tensilelaw10.QueueEasier', WHERE WHAT IT READS IS OF BULK AT MOST 1048576: true; the input reads as it did. -/
def queueEasierUptoRow : OpenClaim := { program := "ytohhjnpiiackjaa", sum := "e29e35ea286be371ed6da53303b0e887fcf19d2c5dd0b84ad1b33ab29b4b1349", func := "tensile/tensilelaw10.QueueEasier", spec := "queueEasier", unfollowed := true, recurses := true, plainKeys := false, apart := false, narrowed := true }
def QueueEasierUptoSaid : Prop := queueEasierUptoRow.holds Try.pinned (OpenSpec.upto queueEasierSpec)

/-- 'tensilelaw10.QueueOn', WHERE WHAT IT READS IS OF BULK AT MOST 1048576: true; the input reads as it did. -/
def queueOnUptoRow : OpenClaim := { program := "ytohhjnpiiackjaa", sum := "e29e35ea286be371ed6da53303b0e887fcf19d2c5dd0b84ad1b33ab29b4b1349", func := "tensile/tensilelaw10.QueueOn", spec := "queueOn", unfollowed := true, recurses := true, plainKeys := false, apart := false, narrowed := true }
def QueueOnUptoSaid : Prop := queueOnUptoRow.holds Try.pinned (OpenSpec.upto queueOnSpec)

/-- 'tensilelaw10.QueueOrder', WHERE WHAT IT READS IS OF BULK AT MOST 1048576: true; the input reads as it did. -/
def queueOrderUptoRow : OpenClaim := { program := "ytohhjnpiiackjaa", sum := "e29e35ea286be371ed6da53303b0e887fcf19d2c5dd0b84ad1b33ab29b4b1349", func := "tensile/tensilelaw10.QueueOrder", spec := "queueOrder", unfollowed := true, recurses := true, plainKeys := false, apart := false, narrowed := true }
def QueueOrderUptoSaid : Prop := queueOrderUptoRow.holds Try.pinned (OpenSpec.upto queueOrderSpec)

/-- 'tensilelaw10.QueueTwo', WHERE WHAT IT READS IS OF BULK AT MOST 1048576: true; the input reads as it did. -/
def queueTwoUptoRow : OpenClaim := { program := "ytohhjnpiiackjaa", sum := "e29e35ea286be371ed6da53303b0e887fcf19d2c5dd0b84ad1b33ab29b4b1349", func := "tensile/tensilelaw10.QueueTwo", spec := "queueTwo", unfollowed := true, recurses := true, plainKeys := false, apart := false, narrowed := true }
def QueueTwoUptoSaid : Prop := queueTwoUptoRow.holds Try.pinned (OpenSpec.upto queueTwoSpec)

/-- 'tensilelaw10.QueueRoom', WHERE WHAT IT READS IS OF BULK AT MOST 1048576: true; the input reads as it did. -/
def queueRoomUptoRow : OpenClaim := { program := "ytohhjnpiiackjaa", sum := "e29e35ea286be371ed6da53303b0e887fcf19d2c5dd0b84ad1b33ab29b4b1349", func := "tensile/tensilelaw10.QueueRoom", spec := "queueRoom", unfollowed := true, recurses := true, plainKeys := false, apart := false, narrowed := true }
def QueueRoomUptoSaid : Prop := queueRoomUptoRow.holds Try.pinned (OpenSpec.upto queueRoomSpec)

end Rows
end Go.Proofs.Ytohhjnpiiackjaa
