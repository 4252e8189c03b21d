/- Layer 2 (chain): the law ChainTruth. (Several texts in one.) -/
import Derived.Test.YtaffbiibcfeigaaGreatChK
set_option linter.unusedVariables false
set_option linter.unusedSimpArgs false
/-! Layer 2 (chain): the law ChainTruth. -/
namespace Go.Proofs.YtaffbiibcfeigaaGreat
open Go.RowKit
set_option maxRecDepth 10000
set_option linter.unusedSimpArgs false
attribute [local irreducible] Bk.held Bk.nums Bk.heldU Bk.span Bk.contra trueM wordM
attribute [local simp] AS.exp expG Box.ren AV.map AV.mapL outsOk noRet Site.isRet Box.allS AV.allS AV.allSL retB dropL AS.adds renL outG outOk lentBx inG fnOf lookA List.findIdx?_cons
attribute [local simp] Box.purge Site.isLoc
attribute [local simp] retFz frzL AS.frz AV.frz AV.frzL Box.frz AS.tidy AS.frzC
end Go.Proofs.YtaffbiibcfeigaaGreat
