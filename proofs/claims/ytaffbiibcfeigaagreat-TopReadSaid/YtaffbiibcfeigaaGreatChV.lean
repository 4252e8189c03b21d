/- Layer 2 (chain): the law ChainTruth. (Several texts in one.) -/
import Derived.Test.YtaffbiibcfeigaaGreatChK
set_option linter.unusedVariables false
set_option linter.unusedSimpArgs false
/-! Layer 2 (chain): the law ChainTruth. -/
namespace Go.Proofs.YtaffbiibcfeigaaGreat
open Go.RowKit
set_option maxRecDepth 10000
set_option linter.unusedSimpArgs false
/-- What a book answers that was written by words. -/
theorem writ_spanM {b : Bk} {ws : List Int} (hb : b.ok) (hw : ∀ y ∈ ws, 0 ≤ y ∧ y < 65536) (hx : (b.writ ws).ok) {i d : Int} (h0 : 0 ≤ i) (h1 : i < b.items.length) (h2 : 0 ≤ d) (h3 : d ≤ 1000) : ((b.writ ws).spanM i d).2 = 10 ∨ (((b.writ ws).spanM i d).2 = 0 ∧ ((b.writ ws).spanM i d).1.has (trueM b ws i d)) := by
  have hc := truth_contra hx (writ_truth hb hw)
  have ha := ask_in hx (item := i) (day := d) h0 h1 h2 h3
  have hs := writ_span hb hw hx h0 h1 h2
  unfold Bk.spanM
  rw [ha, hc]
  cases (b.writ ws).isHeld i d
  · exact .inl rfl
  · exact .inr ⟨rfl, hs⟩
attribute [local irreducible] Bk.held Bk.nums Bk.heldU Bk.span Bk.contra trueM wordM
attribute [local simp] AS.exp expG Box.ren AV.map AV.mapL outsOk noRet Site.isRet Box.allS AV.allS AV.allSL retB dropL AS.adds renL outG outOk lentBx inG fnOf lookA List.findIdx?_cons
attribute [local simp] Box.purge Site.isLoc
attribute [local simp] retFz frzL AS.frz AV.frz AV.frzL Box.frz AS.tidy AS.frzC
end Go.Proofs.YtaffbiibcfeigaaGreat
