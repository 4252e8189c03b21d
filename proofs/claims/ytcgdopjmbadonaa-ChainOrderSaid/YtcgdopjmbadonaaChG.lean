/- Layer 2 (chain): the law ChainHolds. (Several texts in one.) -/
import Derived.Test.YtcgdopjmbadonaaChF
set_option linter.unusedVariables false
set_option linter.unusedSimpArgs false
/-! Layer 2 (chain): the law ChainHolds. -/
namespace Go.Proofs.Ytcgdopjmbadonaa
open Go.RowKit
set_option maxRecDepth 10000
set_option linter.unusedSimpArgs false
attribute [local irreducible] Bk.held Bk.nums Bk.heldU Bk.span
attribute [local simp] AS.exp expG Box.ren AV.map AV.mapL outsOk noRet Site.isRet Box.allS AV.allS AV.allSL retB dropL AS.adds renL outG outOk lentBx inG fnOf lookA List.findIdx?_cons
attribute [local simp] Box.purge Site.isLoc
theorem thin_of {b : Bk} (h : (decide (b.items.length ≤ 10) && decide (b.certs.length ≤ 28)) = true) : b.items.length ≤ 10 ∧ b.certs.length ≤ 28 := by
  simp only [Bool.and_eq_true, decide_eq_true_eq] at h; exact h
end Go.Proofs.Ytcgdopjmbadonaa
/-! Layer 2 (chain): the law ChainHangs. -/
namespace Go.Proofs.Ytcgdopjmbadonaa
open Go.RowKit
set_option maxRecDepth 10000
set_option linter.unusedSimpArgs false
/-- What hung, by the reference's words. -/
def hangP (b : Bk) (bad : List Int) (n : Int) : Bool := !(b.held bad).contains n && !bad.contains n
attribute [local irreducible] Bk.held Bk.nums Bk.heldU Bk.span hangP
attribute [local simp] AS.exp expG Box.ren AV.map AV.mapL outsOk noRet Site.isRet Box.allS AV.allS AV.allSL retB dropL AS.adds renL outG outOk lentBx inG fnOf lookA List.findIdx?_cons
attribute [local simp] Box.purge Site.isLoc
end Go.Proofs.Ytcgdopjmbadonaa
/-! Layer 2 (chain): the law ChainSpans. -/
namespace Go.Proofs.Ytcgdopjmbadonaa
open Go.RowKit
set_option maxRecDepth 10000
set_option linter.unusedSimpArgs false
section
variable {P : Program} {K : AV → AS → Prop} {σ : AS}
end
attribute [local irreducible] Bk.held Bk.nums Bk.heldU Bk.span
attribute [local simp] AS.exp expG Box.ren AV.map AV.mapL outsOk noRet Site.isRet Box.allS AV.allS AV.allSL retB dropL AS.adds renL outG outOk lentBx inG fnOf lookA List.findIdx?_cons
attribute [local simp] Box.purge Site.isLoc
attribute [local simp] szL_has szL_all szL_purge szL_map szL_last szL_len
theorem rgI {a b : Cr} : eqK (.agg [.int .i64 a.lo, .int .i64 a.hi]) (.agg [.int .i64 b.lo, .int .i64 b.hi]) = decide (a = b) := by
  obtain ⟨a1, a2⟩ := a
  obtain ⟨b1, b2⟩ := b
  rw [Bool.eq_iff_iff]
  simp [eqK]
end Go.Proofs.Ytcgdopjmbadonaa
