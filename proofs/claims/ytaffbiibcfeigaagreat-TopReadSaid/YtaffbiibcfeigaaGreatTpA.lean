/- Contracts of layer 6 (hard): small ones; what ranges have in common. (Several texts in one.) -/
import Derived.Test.YtaffbiibcfeigaaGreatChB
set_option linter.unusedVariables false
set_option linter.unusedSimpArgs false
/-! Contracts of layer 6 (hard): small ones; what ranges have in common. -/
namespace Go.Proofs.YtaffbiibcfeigaaGreat
open Go.RowKit
attribute [local simp] Box.purge Site.isLoc
set_option maxRecDepth 10000
set_option linter.unusedSimpArgs false
theorem sMax_c (a b : Int) : Gives Tryz.prog 204 [.lst false 1 [.int .i64 a, .int .i64 b]] (.int .i64 (max a b)) := by
  refine calls_of_awpS mixed L204_ok (Nat.le_of_ble_eq_true rfl) ?_
  simp [-getElem?_pos, L204]
  have hmx : (if a < b then b else a) = max a b := by split <;> omega
  refine awp_loopS (fun n τ => (n = 1 ∧ τ = ⟨[(0, .pv (.lst false 1 [.int .i64 a, .int .i64 b])), (3, .pv (.int .i64 a)), (4, .pv (.int .i64 1))], []⟩) ∨ (n = 0 ∧ τ = ⟨[(0, .pv (.lst false 1 [.int .i64 a, .int .i64 b])), (3, .pv (.int .i64 (max a b))), (4, .pv (.int .i64 2))], []⟩)) ⟨1, _, Sub.mk (by simp) (by simp), .inl ⟨rfl, rfl⟩⟩ ?_
  rintro J hJ n τ (⟨rfl, rfl⟩ | ⟨rfl, rfl⟩)
  · have hround := hJ _ _ (.inr ⟨rfl, rfl⟩)
    have hw : IntKind.i64.wrap 2 = 2 := rfl
    clear hJ
    simp [-getElem?_pos, hw]
    exact ⟨_, _, (by omega : 0 < 1), Sub.mk (by simp [hmx]) (by simp), hround⟩
  · simp [-getElem?_pos]
theorem sMin_c (a b : Int) : Gives Tryz.prog 100 [.lst false 1 [.int .i64 a, .int .i64 b]] (.int .i64 (min a b)) := by
  refine calls_of_awpS mixed L100_ok (Nat.le_of_ble_eq_true rfl) ?_
  simp [-getElem?_pos, L100]
  have hmx : (if b < a then b else a) = min a b := by split <;> omega
  refine awp_loopS (fun n τ => (n = 1 ∧ τ = ⟨[(0, .pv (.lst false 1 [.int .i64 a, .int .i64 b])), (3, .pv (.int .i64 a)), (4, .pv (.int .i64 1))], []⟩) ∨ (n = 0 ∧ τ = ⟨[(0, .pv (.lst false 1 [.int .i64 a, .int .i64 b])), (3, .pv (.int .i64 (min a b))), (4, .pv (.int .i64 2))], []⟩)) ⟨1, _, Sub.mk (by simp) (by simp), .inl ⟨rfl, rfl⟩⟩ ?_
  rintro J hJ n τ (⟨rfl, rfl⟩ | ⟨rfl, rfl⟩)
  · have hround := hJ _ _ (.inr ⟨rfl, rfl⟩)
    have hw : IntKind.i64.wrap 2 = 2 := rfl
    clear hJ
    simp [-getElem?_pos, hw]
    exact ⟨_, _, (by omega : 0 < 1), Sub.mk (by simp [hmx]) (by simp), hround⟩
  · simp [-getElem?_pos]
end Go.Proofs.YtaffbiibcfeigaaGreat
