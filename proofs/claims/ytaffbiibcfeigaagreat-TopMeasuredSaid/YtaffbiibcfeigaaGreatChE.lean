/- Contracts of layer 2 (chain): two chains compared. (Several texts in one.) -/
import Derived.Test.YtaffbiibcfeigaaGreatChD
import Derived.Test.YtaffbiibcfeigaaGreatChA
import Derived.Test.YtaffbiibcfeigaaGreatChC
set_option linter.unusedVariables false
set_option linter.unusedSimpArgs false
/-! Contracts of layer 2 (chain): two chains compared. -/
namespace Go.Proofs.YtaffbiibcfeigaaGreat
open Go.RowKit
attribute [local simp] Box.purge Site.isLoc
set_option maxRecDepth 10000
set_option linter.unusedSimpArgs false
end Go.Proofs.YtaffbiibcfeigaaGreat
/-! Contracts of layer 2 (chain): before. -/
namespace Go.Proofs.YtaffbiibcfeigaaGreat
open Go.RowKit
attribute [local simp] Box.purge Site.isLoc
set_option maxRecDepth 10000
set_option linter.unusedSimpArgs false
end Go.Proofs.YtaffbiibcfeigaaGreat
/-! Contracts of layer 2 (chain): the rounds of Best. -/
namespace Go.Proofs.YtaffbiibcfeigaaGreat
open Go.RowKit
set_option maxRecDepth 10000
set_option linter.unusedSimpArgs false
attribute [local irreducible] Bk.held Bk.nums Bk.span Bk.chains
/-- The best chain that ends with a number. -/
def Bk.endL (b : Bk) (n : Int) : List Int := (b.endC (b.held []) n).getD []
/-- The ends that are known. -/
structure EMap (b : Bk) (below : Int) (em : List (PV × PV)) : Prop where
  k : keysOk kI em = true
  f : ∀ m : Int, m < below → (findV (.int .i64 m) em).getD (.emp (some true)) = if (b.held []).contains m = true then .lst false 1 ((b.endL m).map intP) else .emp (some true)
attribute [local simp] AS.exp expG Box.ren AV.map AV.mapL outsOk noRet Site.isRet Box.allS AV.allS AV.allSL retB dropL AS.adds renL outG outOk lentBx inG fnOf lookA List.findIdx?_cons
attribute [local simp] Box.purge Site.isLoc
attribute [local simp] badZ_has badZ_all badZ_purge badZ_map badZ_frz
end Go.Proofs.YtaffbiibcfeigaaGreat
/-! Contracts of layer 2 (chain): the first rounds of Best. -/
namespace Go.Proofs.YtaffbiibcfeigaaGreat
open Go.RowKit
set_option maxRecDepth 10000
set_option linter.unusedSimpArgs false
attribute [local irreducible] Bk.held Bk.nums Bk.span Bk.endL
attribute [local simp] AS.exp expG Box.ren AV.map AV.mapL outsOk noRet Site.isRet Box.allS AV.allS AV.allSL retB dropL AS.adds renL outG outOk lentBx inG fnOf lookA List.findIdx?_cons
attribute [local simp] Box.purge Site.isLoc
attribute [local simp] badZ_has badZ_all badZ_purge badZ_map badZ_frz
section
end
end Go.Proofs.YtaffbiibcfeigaaGreat
/-! Contracts of layer 2 (chain): the last rounds of Best. -/
namespace Go.Proofs.YtaffbiibcfeigaaGreat
open Go.RowKit
set_option maxRecDepth 10000
set_option linter.unusedSimpArgs false
attribute [local irreducible] Bk.held Bk.nums Bk.span Bk.endL
attribute [local simp] AS.exp expG Box.ren AV.map AV.mapL outsOk noRet Site.isRet Box.allS AV.allS AV.allSL retB dropL AS.adds renL outG outOk lentBx inG fnOf lookA List.findIdx?_cons
attribute [local simp] Box.purge Site.isLoc
attribute [local simp] badZ_has badZ_all badZ_purge badZ_map badZ_frz
section
end
end Go.Proofs.YtaffbiibcfeigaaGreat
/-! Layer 2 (chain), plain: the ends that are known, and the best chain. -/
namespace Go.Proofs.YtaffbiibcfeigaaGreat
open Go.RowKit
set_option maxRecDepth 10000
set_option linter.unusedSimpArgs false
attribute [local irreducible] Bk.held Bk.nums Bk.span Bk.endL
/-- The best chain that ends with a certificate that rests on others. -/
def endM (b : Bk) (n : Int) : Option (List Int) := (((b.ofL (b.get n).src (b.get n).day n).filter fun c => (b.held []).contains c.num).map fun c => b.endL c.num ++ [n]).foldl stepC none
/-- What Best answers. -/
def Bk.bestL (b : Bk) (item day : Int) : List Int := (b.bestC (b.held []) item day).getD []
def bestF (b : Bk) (item day : Int) : Option (List Int) := (((b.ofL item day 1000).filter fun c => (b.held []).contains c.num).map fun c => b.endL c.num).foldl stepC none
end Go.Proofs.YtaffbiibcfeigaaGreat
/-! Contracts of layer 2 (chain): Best. -/
namespace Go.Proofs.YtaffbiibcfeigaaGreat
open Go.RowKit
set_option maxRecDepth 10000
set_option linter.unusedSimpArgs false
attribute [local irreducible] Bk.held Bk.nums Bk.span Bk.endL Bk.bestL endM bestF
attribute [local simp] AS.exp expG Box.ren AV.map AV.mapL outsOk noRet Site.isRet Box.allS AV.allS AV.allSL retB dropL AS.adds renL outG outOk lentBx inG fnOf lookA List.findIdx?_cons
attribute [local simp] Box.purge Site.isLoc
attribute [local simp] badZ_has badZ_all badZ_purge badZ_map badZ_frz
attribute [local simp] retFz frzL AS.frz AV.frz AV.frzL Box.frz AS.tidy AS.frzC
end Go.Proofs.YtaffbiibcfeigaaGreat
