/- Contracts of layer 2's reference (chain): the error of a book. (Several texts in one.) -/
import Derived.Test.YtcgdopjmbadonaaChC
import Derived.Test.YtcgdopjmbadonaaBaseD
import Derived.Test.YtcgdopjmbadonaaChD
import Derived.Test.YtcgdopjmbadonaaChE
import Derived.Test.YtcgdopjmbadonaaChB
set_option linter.unusedVariables false
set_option linter.unusedSimpArgs false
/-! Contracts of layer 2's reference (chain): the error of a book. -/
namespace Go.Proofs.Ytcgdopjmbadonaa
open Go.RowKit
attribute [local simp] Box.purge Site.isLoc
set_option maxRecDepth 10000
set_option linter.unusedSimpArgs false
end Go.Proofs.Ytcgdopjmbadonaa
/-! Contracts of layer 2's reference (chain): what holds. -/
namespace Go.Proofs.Ytcgdopjmbadonaa
open Go.RowKit
attribute [local simp] Box.purge Site.isLoc
attribute [local irreducible] Bk.held Bk.nums Bk.heldU
set_option maxRecDepth 10000
set_option linter.unusedSimpArgs false
end Go.Proofs.Ytcgdopjmbadonaa
/-! Contracts of layer 2's reference (chain): all that holds. -/
namespace Go.Proofs.Ytcgdopjmbadonaa
open Go.RowKit
attribute [local simp] Box.purge Site.isLoc
set_option maxRecDepth 10000
set_option linter.unusedSimpArgs false
attribute [local irreducible] Bk.held Bk.nums Bk.heldU
attribute [local simp] retFz frzL AS.frz AV.frz AV.frzL Box.frz AS.tidy AS.frzC
end Go.Proofs.Ytcgdopjmbadonaa
/-! Contracts of layer 2's law and reference (chain): Book, fault, IsHeld. -/
namespace Go.Proofs.Ytcgdopjmbadonaa
open Go.RowKit
attribute [local simp] Box.purge Site.isLoc
attribute [local irreducible] Bk.held Bk.nums Bk.heldU
set_option maxRecDepth 10000
set_option linter.unusedSimpArgs false
section
attribute [local simp] retFz frzL AS.frz AV.frz AV.frzL Box.frz AS.tidy AS.frzC
end
end Go.Proofs.Ytcgdopjmbadonaa
/-! Contracts of layer 2's reference (chain): the span of an item. -/
namespace Go.Proofs.Ytcgdopjmbadonaa
open Go.RowKit
set_option maxRecDepth 10000
set_option linter.unusedSimpArgs false
/-- The cells of a thousand ranges, and of a list. -/
def szP (S : Int → Cr) (H : List Int) (i : Nat) : PV := if i < 2000 then (.int .i64 (if i % 2 = 0 then (S ((i / 2 : Nat) : Int)).lo else (S ((i / 2 : Nat) : Int)).hi)) else .lst false 1 (H.map intP)
def szL (S : Int → Cr) (H : List Int) : List AV := (List.range 2001).map fun i : Nat => .pv (szP S H i)
variable {S : Int → Cr} {H : List Int}
theorem szL_len : (szL S H).length = 2001 := by unfold szL; simp
theorem szL_get {i : Nat} (h : i < 2001) : (szL S H)[i]? = some (.pv (szP S H i)) := by
  unfold szL
  rw [List.getElem?_map, List.getElem?_range h]; rfl
theorem szL_last : (szL S H)[2000]? = some (.pv (.lst false 1 (H.map intP))) := by
  rw [szL_get (by omega)]
  unfold szP
  rw [if_neg (by omega)]
theorem szL_has (d : Nat) : AV.hasL d (szL S H) = false := mapPV_has _
theorem szL_all (q : Site → Bool) : AV.allSL q (szL S H) = true := mapPV_all _
theorem szL_purge (d : Nat) : (szL S H).map (AV.purge d) = szL S H := mapPV_purge _
theorem szL_map (g : Site → Site) : AV.mapL g (szL S H) = szL S H := mapPV_map _
attribute [irreducible] szL
attribute [local irreducible] Bk.held Bk.nums Bk.heldU Bk.span
attribute [local simp] AS.exp expG Box.ren AV.map AV.mapL outsOk noRet Site.isRet Box.allS AV.allS AV.allSL retB dropL AS.adds renL outG outOk lentBx inG fnOf lookA List.findIdx?_cons
attribute [local simp] Box.purge Site.isLoc
attribute [local simp] szL_has szL_all szL_purge szL_map szL_last szL_len
end Go.Proofs.Ytcgdopjmbadonaa
/-! Contracts of layer 2's reference (chain): all spans. -/
namespace Go.Proofs.Ytcgdopjmbadonaa
open Go.RowKit
set_option maxRecDepth 10000
set_option linter.unusedSimpArgs false
/-- The spans of the first that hold. -/
def Bk.spK (b : Bk) (k : Nat) (m : Int) : Cr := if ((b.held []).take k).contains m = true then b.span (b.held []) m else ⟨0, 0⟩
theorem held_sorted {b : Bk} {bad : List Int} : (b.held bad).Pairwise (· < ·) := (heldU_sorted 1000).1
attribute [local irreducible] Bk.held Bk.nums Bk.heldU Bk.span
/-- The spans in the midst of a round. -/
def Bk.spI (b : Bk) (k : Nat) (n : Int) (i : Nat) : Int → Cr := if ((b.certs.take i).any fun c => decide (c.num = n)) = true then b.spK (k + 1) else b.spK k
def szPs (S : Int → Cr) (H : List Int) : List PV := (List.range 2001).map (szP S H)
attribute [irreducible] szPs
attribute [local irreducible] Bk.spK Bk.spI
attribute [local simp] AS.exp expG Box.ren AV.map AV.mapL outsOk noRet Site.isRet Box.allS AV.allS AV.allSL retB dropL AS.adds renL outG outOk lentBx inG fnOf lookA List.findIdx?_cons
attribute [local simp] Box.purge Site.isLoc
attribute [local simp] szL_has szL_all szL_purge szL_map szL_last szL_len
end Go.Proofs.Ytcgdopjmbadonaa
/-! Contracts of layer 2's reference (chain): contradictory; what is asked. -/
namespace Go.Proofs.Ytcgdopjmbadonaa
open Go.RowKit
set_option maxRecDepth 10000
set_option linter.unusedSimpArgs false
attribute [local irreducible] Bk.held Bk.nums Bk.heldU Bk.span
attribute [local simp] AS.exp expG Box.ren AV.map AV.mapL outsOk noRet Site.isRet Box.allS AV.allS AV.allSL retB dropL AS.adds renL outG outOk lentBx inG fnOf lookA List.findIdx?_cons
attribute [local simp] Box.purge Site.isLoc
attribute [local simp] szL_has szL_all szL_purge szL_map szL_last szL_len
end Go.Proofs.Ytcgdopjmbadonaa
/-! Contracts of layer 2's law (chain): asked; the house of the examples. -/
namespace Go.Proofs.Ytcgdopjmbadonaa
open Go.RowKit
set_option maxRecDepth 10000
set_option linter.unusedSimpArgs false
/-- The house of the examples. -/
def houseB : Bk := ⟨[⟨0, true, ⟨1000, 1002⟩⟩, ⟨1, false, ⟨0, 0⟩⟩, ⟨2, false, ⟨0, 0⟩⟩], [⟨4, 1, 2, 40, 30, ⟨0, 9⟩⟩, ⟨1, 1, 0, 10, 100, ⟨5, 7⟩⟩, ⟨2, 2, 1, 20, 50, ⟨-3, -1⟩⟩, ⟨3, 2, 0, 30, 200, ⟨0, 20⟩⟩]⟩
theorem house1_c (a b c d e f g : Int) : Gives Try.prog 79 [.int .i64 a, .int .i64 b, .int .i64 c, .int .i64 d, .int .i64 e, .int .i64 f, .int .i64 g] (Ct.pv ⟨a, b, c, d, e, ⟨f, g⟩⟩) := by
  refine calls_of_awpS mixed L79_ok (Nat.le_of_ble_eq_true rfl) ?_
  simp [-getElem?_pos, L79, Ct.pv]
attribute [local simp] AS.exp expG Box.ren AV.map AV.mapL outsOk noRet Site.isRet Box.allS AV.allS AV.allSL retB dropL AS.adds renL outG outOk lentBx inG fnOf lookA List.findIdx?_cons
attribute [local simp] Box.purge Site.isLoc
attribute [local simp] retFz frzL AS.frz AV.frz AV.frzL Box.frz AS.tidy AS.frzC
set_option maxHeartbeats 16000000 in
theorem house_c : Gives Try.prog 49 [] houseB.pv := by
  refine calls_of_awpF [.loc 6 0, .loc 15 0] mixed L49_ok (Nat.le_of_ble_eq_true rfl) ?_
  have h1 := house1_c 4 1 2 40 30 0 9
  have h2 := house1_c 1 1 0 10 100 5 7
  have h3 := house1_c 2 2 1 20 50 (-3) (-1)
  have h4 := house1_c 3 2 0 30 200 0 20
  simp [-getElem?_pos, L49]
  refine call_gives (k := 0) (fs := []) (xs := [.int .i64 4, .int .i64 1, .int .i64 2, .int .i64 40, .int .i64 30, .int .i64 0, .int .i64 9]) (cs := []) rfl rfl h1 rfl ?_
  simp [-getElem?_pos, Ct.pv]
  refine call_gives (k := 0) (fs := []) (xs := [.int .i64 1, .int .i64 1, .int .i64 0, .int .i64 10, .int .i64 100, .int .i64 5, .int .i64 7]) (cs := []) rfl rfl h2 rfl ?_
  simp [-getElem?_pos, Ct.pv]
  refine call_gives (k := 0) (fs := []) (xs := [.int .i64 2, .int .i64 2, .int .i64 1, .int .i64 20, .int .i64 50, .int .i64 (-3), .int .i64 (-1)]) (cs := []) rfl rfl h3 rfl ?_
  simp [-getElem?_pos, Ct.pv]
  refine call_gives (k := 0) (fs := []) (xs := [.int .i64 3, .int .i64 2, .int .i64 0, .int .i64 30, .int .i64 200, .int .i64 0, .int .i64 20]) (cs := []) rfl rfl h4 rfl ?_
  simp [-getElem?_pos, Ct.pv]
  rfl
theorem house_heldM : houseB.heldM [1] = ([3, 4], 0) := by decide +kernel
theorem house_hungM : houseB.hungM [1, 3] = ([2, 4], 0) := by decide +kernel
theorem house_spanM : houseB.spanM 2 30 = (⟨1000, 1022⟩, 0) := by decide +kernel
end Go.Proofs.Ytcgdopjmbadonaa
/-! Layer 2 (chain): it wakes. -/
namespace Go.Proofs.Ytcgdopjmbadonaa
open Go.RowKit
set_option maxRecDepth 10000
set_option linter.unusedSimpArgs false
theorem house_bestM : houseB.bestM 2 25 = ([1, 2], 0) := by decide +kernel
attribute [local simp] AS.exp expG Box.ren AV.map AV.mapL outsOk noRet Site.isRet Box.allS AV.allS AV.allSL retB dropL AS.adds renL outG outOk lentBx inG fnOf lookA List.findIdx?_cons
attribute [local simp] Box.purge Site.isLoc
attribute [local simp] retFz frzL AS.frz AV.frz AV.frzL Box.frz AS.tidy AS.frzC
set_option maxHeartbeats 16000000 in
theorem wakes_c : Gives Try.prog 18 [] (.bool true) := by
  have hi : houseB.items.length ≤ 1000 := by decide
  have hc : houseB.certs.length ≤ 1000 := by decide
  have hheld := Held_c houseB hi hc [1] (by decide)
  rw [house_heldM] at hheld
  have hhung := Hung_c houseB hi hc [1, 3] (by decide)
  rw [house_hungM] at hhung
  have hspan := Span_c houseB hi hc 2 30
  rw [house_spanM] at hspan
  have hbest := Best_c houseB hi hc 2 25
  rw [house_bestM] at hbest
  have hi1 := ints_c [3, 4] [3, 4] (by decide)
  have hi2 := ints_c [2, 4] [2, 4] (by decide)
  have hi3 := ints_c [1, 2] [1, 2] (by decide)
  rw [show decide (([3, 4] : List Int) = [3, 4]) = true by decide] at hi1
  rw [show decide (([2, 4] : List Int) = [2, 4]) = true by decide] at hi2
  rw [show decide (([1, 2] : List Int) = [1, 2]) = true by decide] at hi3
  have hho := house_c
  obtain ⟨H, hH⟩ : ∃ z, z = houseB.pv := ⟨_, rfl⟩
  rw [← hH] at hho hheld hhung hspan hbest
  clear hH hi hc
  refine calls_of_awpS mixed L18_ok (Nat.le_of_ble_eq_true rfl) ?_
  simp [-getElem?_pos, L18]
  refine .inl (call_pv [] (fs := []) (xs := []) (cs := []) rfl rfl hho ?_)
  simp [-getElem?_pos, frzsL]
  refine .inl (call_pv [.loc 11 0] (fs := []) (xs := [H, .lst false 1 ([1].map intP)]) (cs := []) rfl ?_ hheld ?_)
  · simp [frzsL, intP]
  simp [-getElem?_pos, frzsL, lstE]
  refine .inl (call_pv [] (fs := []) (xs := []) (cs := []) rfl rfl hho ?_)
  simp [-getElem?_pos, frzsL]
  refine .inl (call_pv [.loc 17 0] (fs := []) (xs := [H, .lst false 1 ([1, 3].map intP)]) (cs := []) rfl ?_ hhung ?_)
  · simp [frzsL, intP]
  simp [-getElem?_pos, frzsL, lstE]
  refine .inl (call_pv [] (fs := []) (xs := []) (cs := []) rfl rfl hho ?_)
  simp [-getElem?_pos, frzsL]
  refine .inl (call_pv [] (fs := []) (xs := [H, .int .i64 2, .int .i64 30]) (cs := []) rfl rfl hspan ?_)
  simp [-getElem?_pos, frzsL, spanE, Cr.pv]
  refine .inl (call_pv [] (fs := []) (xs := []) (cs := []) rfl rfl hho ?_)
  simp [-getElem?_pos, frzsL]
  refine .inl (call_pv [] (fs := []) (xs := [H, .int .i64 2, .int .i64 25]) (cs := []) rfl rfl hbest ?_)
  simp [-getElem?_pos, frzsL, lstE]
  refine .inl (call_pv [.loc 35 0] (fs := []) (xs := [.lst false 1 ([3, 4].map intP), .lst false 1 ([3, 4].map intP)]) (cs := []) rfl ?_ hi1 ?_)
  · simp [frzsL, intP]
  simp [-getElem?_pos, frzsL]
  refine .inl (call_pv [.loc 44 0] (fs := []) (xs := [.lst false 1 ([2, 4].map intP), .lst false 1 ([2, 4].map intP)]) (cs := []) rfl ?_ hi2 ?_)
  · simp [frzsL, intP]
  simp [-getElem?_pos, frzsL]
  refine .inl (call_pv [.loc 62 0] (fs := []) (xs := [.lst false 1 ([1, 2].map intP), .lst false 1 ([1, 2].map intP)]) (cs := []) rfl ?_ hi3 ?_)
  · simp [frzsL, intP]
  simp [-getElem?_pos, frzsL]
end Go.Proofs.Ytcgdopjmbadonaa
/-! Layer 2 (chain): facts of the program that every statement asks; lists among the arguments. -/
namespace Go.Proofs.Ytcgdopjmbadonaa
open Go.RowKit Go.ChangeShapes Go.WideShapes Go.Deep
theorem own : ownKnob Try.prog.godebug = none := by kernel_rfl
theorem laidP : laidOutB Try.prog = true := by kernel_rfl
theorem rowedP : mapsRowed Try.prog = true := by kernel_rfl
theorem fullP : ((List.range Try.prog.types.size).all fun t => match Try.prog.underlying t with | some (.slice e) => decide (0 < Try.prog.cellsOf e) | _ => true) = true := by kernel_rfl
set_option maxRecDepth 100000
section
variable {H : Type} {enc : TypeId × Value → H} {W : World} {sp : Nat → Bool} {held : Bool} {r : Reach} {base : Nat}
end
end Go.Proofs.Ytcgdopjmbadonaa
