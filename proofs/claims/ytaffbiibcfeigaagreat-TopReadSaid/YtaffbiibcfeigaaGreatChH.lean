/- Contracts of layer 2 (chain): certificates left out by number. (Text printed by gen_delct.py.) (Several texts in one.) -/
import Derived.Test.YtaffbiibcfeigaaGreatChE
import Derived.Test.YtaffbiibcfeigaaGreatChG
set_option linter.unusedVariables false
set_option linter.unusedSimpArgs false
/-! Contracts of layer 2 (chain): certificates left out by number. (Text printed by gen_delct.py.) -/
namespace Go.Proofs.YtaffbiibcfeigaaGreat
open Go.RowKit
set_option maxRecDepth 10000
set_option linter.unusedSimpArgs false
section
attribute [local simp] Box.purge Site.isLoc
end
attribute [local simp] AS.exp expG Box.ren AV.map AV.mapL outsOk noRet Site.isRet Box.allS AV.allS AV.allSL retB dropL AS.adds renL outG outOk lentBx inG fnOf lookA List.findIdx?_cons
attribute [local simp] Box.purge Site.isLoc
section
variable (d : Int)
end
end Go.Proofs.YtaffbiibcfeigaaGreat
/-! Contracts of layer 2 (chain): Suspects. -/
namespace Go.Proofs.YtaffbiibcfeigaaGreat
open Go.RowKit
set_option maxRecDepth 10000
set_option linter.unusedSimpArgs false
section
variable {P : Program} {K : AV → AS → Prop} {σ : AS}
end
/-- A book without a certificate. -/
def Bk.wo (b : Bk) (n : Int) : Bk := ⟨b.items, b.certs.filter fun c => !decide (c.num = n)⟩
/-- What Suspects answers. -/
def Bk.suspB (b : Bk) (n : Int) : Bool := !(b.wo n).contra
attribute [local irreducible] Bk.held Bk.nums Bk.span Bk.contra Bk.suspB
attribute [local simp] AS.exp expG Box.ren AV.map AV.mapL outsOk noRet Site.isRet Box.allS AV.allS AV.allSL retB dropL AS.adds renL outG outOk lentBx inG fnOf lookA List.findIdx?_cons
attribute [local simp] Box.purge Site.isLoc
attribute [local simp] badZ_has badZ_all badZ_purge badZ_map badZ_frz
attribute [local simp] retFz frzL AS.frz AV.frz AV.frzL Box.frz AS.tidy AS.frzC
end Go.Proofs.YtaffbiibcfeigaaGreat
/-! Contracts of layer 2's reference (chain): Get, Without; the law ChainSuspects. -/
namespace Go.Proofs.YtaffbiibcfeigaaGreat
open Go.RowKit
set_option maxRecDepth 10000
set_option linter.unusedSimpArgs false
section
attribute [local simp] Box.purge Site.isLoc
attribute [local simp] retFz frzL AS.frz AV.frz AV.frzL Box.frz AS.tidy AS.frzC
end
end Go.Proofs.YtaffbiibcfeigaaGreat
