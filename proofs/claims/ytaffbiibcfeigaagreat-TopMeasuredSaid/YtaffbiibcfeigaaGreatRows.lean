/-
  No cell of these rows narrows 'for every input' (looked for: loops, veiled, ifaces, maps, wideKeys, modest, calm, conditions, laid).
  DERIVED. THE GIVEN ROWS OF THIS SEAT. 4 by the template 'for every input the law returns true; each argument reads behind the call as it read before'; 0 by the template 'total and deterministic' (their statements: YtaffbiibcfeigaaGreatTotals.lean).
  GIVEN WITH THE SEED: the statements are not yours to turn. If you find one false, say at which input.
  Laid BY PROGRAM, IN A SANDBOX (cutbox-rows.mjs): the forced cells as the released guide's own fill.sh prints them over the translation 690054c0f248838c… (all of the seat's roots in one cut). By AI agents, Wed Nov 11 2026. No macro, syntax, notation, axiom, sorry.
-/
import Derived.Test.YtaffbiibcfeigaaGreatChecked
import GoSem.Claim
import GoSem.ClaimJoined
import GoSem.ClaimMapViews
import Derived.JoinedTies
import Derived.KernelRfl
namespace Go.Proofs.YtaffbiibcfeigaaGreat
/- THE CELL 'sum', in the pinned program and in every row, IS THE sha256 OF THE DUMP (.gsa) THAT YtaffbiibcfeigaaGreatProg.lean LOADS. Nothing in Lean hashes anything: it is a label: what it is worth is what the hold of that sum in a sandbox is worth. -/
noncomputable def Tryz.pinned : Pinned := { name := "ytaffbiibcfeigaagreat", sum := "690054c0f248838cd293898d415807c8dd225f2ed41b0202a69657cf8eb776af", checked := Tryz.checked }
namespace Rows
def none {H : Type} : Left H := { results := [], args := [] }

/-- 'tensiletop.TopRead': WHATEVER THE INPUT: true; the input reads as it did. -/
def topReadSpec : ChangeSpec := { name := "topRead", fn := fun _ => fun
  | [d1, d2, d3, d4, d5, d6, d7] => { results := [.lit (.bool true)], args := [d1, d2, d3, d4, d5, d6, d7] }
  | _ => none }
def topReadRow : OpenClaim := { program := "ytaffbiibcfeigaagreat", sum := "690054c0f248838cd293898d415807c8dd225f2ed41b0202a69657cf8eb776af", func := "tensile/tensiletop.TopRead", spec := "topRead", unfollowed := true, recurses := true, plainKeys := false, apart := false }
def TopReadSaid : Prop := topReadRow.holds Tryz.pinned (OpenSpec.ofChange topReadSpec)

/-- ITS FALSE NEIGHBOUR: 'it returns false'. Refute it at one input. -/
def topReadWrong : ChangeSpec := { name := "topRead", fn := fun _ => fun
  | [d1, d2, d3, d4, d5, d6, d7] => { results := [.lit (.bool false)], args := [d1, d2, d3, d4, d5, d6, d7] }
  | _ => none }
def TopReadWrongFalsely : Prop := topReadRow.holds Tryz.pinned (OpenSpec.ofChange topReadWrong)

/-- 'tensiletop.TopProved': WHATEVER THE INPUT: true; the input reads as it did. -/
def topProvedSpec : ChangeSpec := { name := "topProved", fn := fun _ => fun
  | [d1, d2, d3, d4, d5, d6] => { results := [.lit (.bool true)], args := [d1, d2, d3, d4, d5, d6] }
  | _ => none }
def topProvedRow : OpenClaim := { program := "ytaffbiibcfeigaagreat", sum := "690054c0f248838cd293898d415807c8dd225f2ed41b0202a69657cf8eb776af", func := "tensile/tensiletop.TopProved", spec := "topProved", unfollowed := true, recurses := true, plainKeys := false, apart := false }
def TopProvedSaid : Prop := topProvedRow.holds Tryz.pinned (OpenSpec.ofChange topProvedSpec)

/-- ITS FALSE NEIGHBOUR: 'it returns false'. Refute it at one input. -/
def topProvedWrong : ChangeSpec := { name := "topProved", fn := fun _ => fun
  | [d1, d2, d3, d4, d5, d6] => { results := [.lit (.bool false)], args := [d1, d2, d3, d4, d5, d6] }
  | _ => none }
def TopProvedWrongFalsely : Prop := topProvedRow.holds Tryz.pinned (OpenSpec.ofChange topProvedWrong)

/-- 'tensiletop.TopMeasured': WHATEVER THE INPUT: true; the input reads as it did. -/
def topMeasuredSpec : ChangeSpec := { name := "topMeasured", fn := fun _ => fun
  | [d1, d2, d3, d4, d5, d6, d7] => { results := [.lit (.bool true)], args := [d1, d2, d3, d4, d5, d6, d7] }
  | _ => none }
def topMeasuredRow : OpenClaim := { program := "ytaffbiibcfeigaagreat", sum := "690054c0f248838cd293898d415807c8dd225f2ed41b0202a69657cf8eb776af", func := "tensile/tensiletop.TopMeasured", spec := "topMeasured", unfollowed := true, recurses := true, plainKeys := false, apart := false }
def TopMeasuredSaid : Prop := topMeasuredRow.holds Tryz.pinned (OpenSpec.ofChange topMeasuredSpec)

/-- ITS FALSE NEIGHBOUR: 'it returns false'. Refute it at one input. -/
def topMeasuredWrong : ChangeSpec := { name := "topMeasured", fn := fun _ => fun
  | [d1, d2, d3, d4, d5, d6, d7] => { results := [.lit (.bool false)], args := [d1, d2, d3, d4, d5, d6, d7] }
  | _ => none }
def TopMeasuredWrongFalsely : Prop := topMeasuredRow.holds Tryz.pinned (OpenSpec.ofChange topMeasuredWrong)

/-- 'tensiletop.TopLimited': WHATEVER THE INPUT: true; the input reads as it did. -/
def topLimitedSpec : ChangeSpec := { name := "topLimited", fn := fun _ => fun
  | [d1, d2, d3, d4, d5, d6, d7, d8] => { results := [.lit (.bool true)], args := [d1, d2, d3, d4, d5, d6, d7, d8] }
  | _ => none }
def topLimitedRow : OpenClaim := { program := "ytaffbiibcfeigaagreat", sum := "690054c0f248838cd293898d415807c8dd225f2ed41b0202a69657cf8eb776af", func := "tensile/tensiletop.TopLimited", spec := "topLimited", unfollowed := true, recurses := true, plainKeys := false, apart := false }
def TopLimitedSaid : Prop := topLimitedRow.holds Tryz.pinned (OpenSpec.ofChange topLimitedSpec)

/-- ITS FALSE NEIGHBOUR: 'it returns false'. Refute it at one input. -/
def topLimitedWrong : ChangeSpec := { name := "topLimited", fn := fun _ => fun
  | [d1, d2, d3, d4, d5, d6, d7, d8] => { results := [.lit (.bool false)], args := [d1, d2, d3, d4, d5, d6, d7, d8] }
  | _ => none }
def TopLimitedWrongFalsely : Prop := topLimitedRow.holds Tryz.pinned (OpenSpec.ofChange topLimitedWrong)

/- THE SECOND FORM. 'bulk': how many values and letters a reading holds, each counted each time it is reached (what is shared counts as often as it is met; a slice's spare places count too). A statement '..UptoSaid' is the law's where the arguments, and the package variables that the reading takes, are together of bulk at most 1048576: NARROWER than '..Said'. Prove '..Said' where nothing that the law and all that it calls make is longer than what came in: it says more and counts as full. Else prove '..UptoSaid'. A law counts once. -/
mutual
def uptoBulk {H : Type} : DataW H → Nat
  | .lit (.string bytes) => bytes.length + 1
  | .lit _ => 1
  | .nil => 1
  | .ptr d => uptoBulk d + 1
  | .slice elems spare => uptoBulkAll elems + uptoBulkAll spare + 1
  | .agg parts => uptoBulkAll parts + 1
  | .iface _ d => uptoBulk d + 1
  | .map entries => uptoBulkEntries entries + 1
  | .held _ => 1
def uptoBulkAll {H : Type} : List (DataW H) → Nat
  | [] => 0
  | d :: r => uptoBulk d + uptoBulkAll r
def uptoBulkEntries {H : Type} : List (Lit × DataW H) → Nat
  | [] => 0
  | x :: r => uptoBulkEntry x + uptoBulkEntries r
def uptoBulkEntry {H : Type} : Lit × DataW H → Nat
  | (.string bytes, d) => bytes.length + uptoBulk d + 1
  | (_, d) => uptoBulk d + 1
 end
def uptoSmall : (H : Type) → List (DataW H) → Bool := fun _ ds => decide (uptoBulkAll ds ≤ 1048576)
def OpenSpec.upto (s : _root_.Go.ChangeSpec) : _root_.Go.OpenSpec := { _root_.Go.OpenSpec.ofChange s with cond := some uptoSmall }

/-- 'tensiletop.TopRead', WHERE WHAT IT READS IS OF BULK AT MOST 1048576: true; the input reads as it did. -/
def topReadUptoRow : OpenClaim := { program := "ytaffbiibcfeigaagreat", sum := "690054c0f248838cd293898d415807c8dd225f2ed41b0202a69657cf8eb776af", func := "tensile/tensiletop.TopRead", spec := "topRead", unfollowed := true, recurses := true, plainKeys := false, apart := false, narrowed := true }
def TopReadUptoSaid : Prop := topReadUptoRow.holds Tryz.pinned (OpenSpec.upto topReadSpec)

/-- 'tensiletop.TopProved', WHERE WHAT IT READS IS OF BULK AT MOST 1048576: true; the input reads as it did. -/
def topProvedUptoRow : OpenClaim := { program := "ytaffbiibcfeigaagreat", sum := "690054c0f248838cd293898d415807c8dd225f2ed41b0202a69657cf8eb776af", func := "tensile/tensiletop.TopProved", spec := "topProved", unfollowed := true, recurses := true, plainKeys := false, apart := false, narrowed := true }
def TopProvedUptoSaid : Prop := topProvedUptoRow.holds Tryz.pinned (OpenSpec.upto topProvedSpec)

/-- 'tensiletop.TopMeasured', WHERE WHAT IT READS IS OF BULK AT MOST 1048576: true; the input reads as it did. -/
def topMeasuredUptoRow : OpenClaim := { program := "ytaffbiibcfeigaagreat", sum := "690054c0f248838cd293898d415807c8dd225f2ed41b0202a69657cf8eb776af", func := "tensile/tensiletop.TopMeasured", spec := "topMeasured", unfollowed := true, recurses := true, plainKeys := false, apart := false, narrowed := true }
def TopMeasuredUptoSaid : Prop := topMeasuredUptoRow.holds Tryz.pinned (OpenSpec.upto topMeasuredSpec)

/-- 'tensiletop.TopLimited', WHERE WHAT IT READS IS OF BULK AT MOST 1048576: true; the input reads as it did. -/
def topLimitedUptoRow : OpenClaim := { program := "ytaffbiibcfeigaagreat", sum := "690054c0f248838cd293898d415807c8dd225f2ed41b0202a69657cf8eb776af", func := "tensile/tensiletop.TopLimited", spec := "topLimited", unfollowed := true, recurses := true, plainKeys := false, apart := false, narrowed := true }
def TopLimitedUptoSaid : Prop := topLimitedUptoRow.holds Tryz.pinned (OpenSpec.upto topLimitedSpec)

end Rows
end Go.Proofs.YtaffbiibcfeigaaGreat
