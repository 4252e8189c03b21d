/- Layer 10 (queue): the law QueueEarliest. (Several texts in one.) -/
import Derived.Test.YtohhjnpiiackjaaQuJ
import Derived.Test.YtohhjnpiiackjaaQuH
import Derived.Test.YtohhjnpiiackjaaQuE
set_option linter.unusedVariables false
set_option linter.unusedSimpArgs false
/-! Layer 10 (queue): the law QueueEarliest. -/
namespace Go.Proofs.Ytohhjnpiiackjaa
open Go.RowKit
set_option maxRecDepth 10000
set_option linter.unusedSimpArgs false
attribute [local simp] AS.exp expG Box.ren AV.map AV.mapL outsOk noRet Site.isRet Box.allS AV.allS AV.allSL retB dropL AS.adds renL outG outOk lentBx inG fnOf lookA List.findIdx?_cons
attribute [local simp] Box.purge Site.isLoc
attribute [local simp] retFz frzL AS.frz AV.frz AV.frzL Box.frz AS.tidy AS.frzC
def Qu.few (q : Qu) : Bool := q.thin && (decide (q.check ≠ 0) || (decide (q.rs.length ≤ 3) && decide (q.needs (allR q) ≤ 14)))
theorem lfew_c (q : Qu) : Gives Try.prog 26 [q.pv] (.bool q.few) := by
  refine calls_of_awpS mixed L26_ok (Nat.le_of_ble_eq_true rfl) ?_
  simp [-getElem?_pos, L26, Qu.pv]
  refine call_give (k := 0) (fs := []) (xs := [q.pv]) (cs := []) rfl rfl (thin_c q) rfl ?_
  cases ht : q.thin with
  | false =>
    have : q.few = false := by unfold Qu.few; rw [ht]; rfl
    simp [-getElem?_pos, this]
  | true =>
    have hs := Qu.small_of ht
    have h1 := hs.m
    have h2 := hs.r
    have hf := fault_c q (by omega) (by omega) (fun l h => by have := hs.s l h; omega)
    simp [-getElem?_pos]
    refine call_give (k := 0) (fs := []) (xs := [q.pv]) (cs := []) rfl rfl hf rfl ?_
    by_cases hc : q.check = 0
    · have hq := Qu.ok_of hc
      have hfw : q.few = (decide (q.rs.length ≤ 3) && decide (q.needs (allR q) ≤ 14)) := by unfold Qu.few; rw [ht, decide_eq_false (by simp [hc])]; rfl
      rw [hfw]
      have hal := all_c q (by omega)
      have hne := needs_c q (allR q) (by unfold allR; simp; omega) (by omega) hq.h allR_in
      have e : (List.range q.rs.length).map Int.ofNat = allR q := rfl
      rw [e] at hal
      generalize allR q = A at *
      by_cases h3 : q.rs.length ≤ 3
      · have h3' : (q.rs.length : Int) ≤ 3 := by omega
        simp [-getElem?_pos, frzsL, hc, Qu.cells, h3, h3']
        refine call_pv [] (fs := []) (xs := [q.pv]) (cs := []) rfl rfl hal ?_
        simp [-getElem?_pos, frzsL]
        refine .inl (call_pv [] (fs := []) (xs := [q.pv, intsP A]) (cs := []) rfl rfl hne ?_)
        simp [-getElem?_pos, frzsL]
      · have h3' : ¬ (q.rs.length : Int) ≤ 3 := by omega
        simp [-getElem?_pos, frzsL, hc, Qu.cells, h3, h3']
    · have hfw : q.few = true := by unfold Qu.few; rw [ht, decide_eq_true hc]; rfl
      rw [hfw]
      simp [-getElem?_pos, frzsL, hc]
theorem Qu.few_of {q : Qu} (h : q.few = true) : q.small ∧ (q.check = 0 → q.rs.length ≤ 3) := by
  unfold Qu.few at h
  simp only [Bool.and_eq_true, Bool.or_eq_true, decide_eq_true_eq] at h
  refine ⟨Qu.small_of h.1, fun hc => ?_⟩
  rcases h.2 with h2 | h2
  · exact absurd hc h2
  · exact h2.1
end Go.Proofs.Ytohhjnpiiackjaa
