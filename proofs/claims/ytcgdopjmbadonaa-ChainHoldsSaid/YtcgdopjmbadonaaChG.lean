/- Layer 2 (chain): the law ChainHolds. (Several texts in one.) -/
import Derived.Test.YtcgdopjmbadonaaChF
set_option linter.unusedVariables false
set_option linter.unusedSimpArgs false
/-! Layer 2 (chain): the law ChainHolds. -/
namespace Go.Proofs.Ytcgdopjmbadonaa
open Go.RowKit
set_option maxRecDepth 10000
set_option linter.unusedSimpArgs false
attribute [local irreducible] Bk.held Bk.nums Bk.heldU Bk.span
attribute [local simp] AS.exp expG Box.ren AV.map AV.mapL outsOk noRet Site.isRet Box.allS AV.allS AV.allSL retB dropL AS.adds renL outG outOk lentBx inG fnOf lookA List.findIdx?_cons
attribute [local simp] Box.purge Site.isLoc
theorem thin_of {b : Bk} (h : (decide (b.items.length ≤ 10) && decide (b.certs.length ≤ 28)) = true) : b.items.length ≤ 10 ∧ b.certs.length ≤ 28 := by
  simp only [Bool.and_eq_true, decide_eq_true_eq] at h; exact h
set_option maxHeartbeats 16000000 in
theorem holds_law (b : Bk) (bad : List Int) : Gives Try.prog 9 [b.pv, .lst false 1 (bad.map intP)] (.bool true) := by
  have hw := wakes_c
  refine calls_of_awpS mixed L9_ok (Nat.le_of_ble_eq_true rfl) ?_
  simp [-getElem?_pos, L9, Bk.pv]
  refine call_gives (k := 0) (fs := []) (xs := [b.pv]) (cs := []) rfl rfl (thin_c b) rfl ?_
  cases e1 : (decide (b.items.length ≤ 10) && decide (b.certs.length ≤ 28))
  · simp [-getElem?_pos]
    refine call_gives (k := 0) (fs := []) (xs := []) (cs := []) rfl rfl hw rfl ?_
    simp [-getElem?_pos]
  obtain ⟨h1, h2⟩ := thin_of e1
  clear e1
  cases e2 : decide ((30 : Int) < (bad.length : Int))
  case true =>
    simp [-getElem?_pos, -decide_eq_true_eq, -decide_eq_false_iff_not, e2]
    refine call_gives (k := 0) (fs := []) (xs := []) (cs := []) rfl rfl hw rfl ?_
    simp [-getElem?_pos]
  have h3 : bad.length ≤ 30 := by simp at e2; omega
  have hbk := book_c b (by omega) (by omega)
  have hch := checkbook_c b (by omega) (by omega)
  have hli := list_c bad (by omega)
  have hhe := Held_c b (by omega) (by omega) bad (by omega)
  have hfa := fault_c b (by omega) (by omega)
  have hM : b.heldM bad = if b.fault = 0 then (if areB bad = true then (b.held bad, 0) else ([], 2)) else ([], b.fault) := rfl
  have hok : b.fault = 0 → b.ok := Bk.ok_iff.1
  have har := arebad_c bad (by omega)
  generalize b.fault = F at *
  simp [-getElem?_pos, -decide_eq_true_eq, -decide_eq_false_iff_not, e2]
  refine .inl (call_pv [] (fs := []) (xs := [b.pv]) (cs := []) rfl rfl hbk ?_)
  simp [-getElem?_pos, frzsL]
  refine call_gives (k := 0) (fs := []) (xs := [b.pv]) (cs := []) rfl rfl hch rfl ?_
  simp [-getElem?_pos]
  refine .inl (call_pv [] (fs := []) (xs := [b.pv]) (cs := []) rfl rfl hbk ?_)
  simp [-getElem?_pos, frzsL]
  refine .inl (call_pv [] (fs := []) (xs := [.lst false 1 (bad.map intP)]) (cs := []) rfl rfl hli ?_)
  simp [-getElem?_pos, frzsL]
  refine .inl (call_pv [] (fs := []) (xs := [b.pv, .lst false 1 (bad.map intP)]) (cs := []) rfl rfl hhe ?_)
  simp [-getElem?_pos, frzsL, lstE]
  refine call_gives (k := 0) (fs := []) (xs := [b.pv]) (cs := []) rfl rfl hfa rfl ?_
  cases e3 : decide (F = 0)
  · have e3' : ¬ F = 0 := of_decide_eq_false e3
    rw [if_neg e3'] at hM
    rw [hM]
    simp [-getElem?_pos, -decide_eq_true_eq, -decide_eq_false_iff_not, e3]
    refine call_gives (k := 0) (fs := []) (xs := []) (cs := []) rfl rfl hw rfl ?_
    simp [-getElem?_pos]
  have e3' : F = 0 := of_decide_eq_true e3
  subst e3'
  have hb := hok rfl
  simp [-getElem?_pos]
  refine call_gives (k := 0) (fs := []) (xs := [.lst false 1 (bad.map intP)]) (cs := []) rfl rfl har rfl ?_
  cases e4 : areB bad
  · rw [if_pos rfl, if_neg (by simp [e4])] at hM
    rw [hM]
    simp [-getElem?_pos]
    refine call_gives (k := 0) (fs := []) (xs := []) (cs := []) rfl rfl hw rfl ?_
    simp [-getElem?_pos]
  rw [if_pos rfl, if_pos e4] at hM
  rw [hM]
  have hrh := rheld_c b hb bad (by omega)
  have hl := held_len (b := b) (bad := bad)
  have hin := ints_c (b.held bad) (b.held bad) (by omega)
  rw [decide_eq_true rfl] at hin
  generalize b.held bad = H at *
  simp [-getElem?_pos]
  refine .inl (call_pv [] (fs := []) (xs := [b.pv, .lst false 1 (bad.map intP)]) (cs := []) rfl rfl hrh ?_)
  simp [-getElem?_pos, frzsL]
  refine call_gives (k := 0) (fs := []) (xs := [.lst false 1 (H.map intP), .lst false 1 (H.map intP)]) (cs := []) rfl rfl hin rfl ?_
  simp [-getElem?_pos]
  refine call_gives (k := 0) (fs := []) (xs := []) (cs := []) rfl rfl hw rfl ?_
  simp [-getElem?_pos]
end Go.Proofs.Ytcgdopjmbadonaa
/-! Layer 2 (chain): the law ChainHangs. -/
namespace Go.Proofs.Ytcgdopjmbadonaa
open Go.RowKit
set_option maxRecDepth 10000
set_option linter.unusedSimpArgs false
/-- What hung, by the reference's words. -/
def hangP (b : Bk) (bad : List Int) (n : Int) : Bool := !(b.held bad).contains n && !bad.contains n
attribute [local irreducible] Bk.held Bk.nums Bk.heldU Bk.span hangP
attribute [local simp] AS.exp expG Box.ren AV.map AV.mapL outsOk noRet Site.isRet Box.allS AV.allS AV.allSL retB dropL AS.adds renL outG outOk lentBx inG fnOf lookA List.findIdx?_cons
attribute [local simp] Box.purge Site.isLoc
end Go.Proofs.Ytcgdopjmbadonaa
