/- Contracts of layer 2 (chain): certificates left out by number. (Text printed by gen_delct.py.) (Several texts in one.) -/
import Derived.Test.YtcgdopjmbadonaaChE
import Derived.Test.YtcgdopjmbadonaaChG
set_option linter.unusedVariables false
set_option linter.unusedSimpArgs false
/-! Contracts of layer 2 (chain): certificates left out by number. (Text printed by gen_delct.py.) -/
namespace Go.Proofs.Ytcgdopjmbadonaa
open Go.RowKit
set_option maxRecDepth 10000
set_option linter.unusedSimpArgs false
section
attribute [local simp] Box.purge Site.isLoc
end
attribute [local simp] AS.exp expG Box.ren AV.map AV.mapL outsOk noRet Site.isRet Box.allS AV.allS AV.allSL retB dropL AS.adds renL outG outOk lentBx inG fnOf lookA List.findIdx?_cons
attribute [local simp] Box.purge Site.isLoc
section
variable (d : Int)
end
end Go.Proofs.Ytcgdopjmbadonaa
/-! Contracts of layer 2 (chain): Suspects. -/
namespace Go.Proofs.Ytcgdopjmbadonaa
open Go.RowKit
set_option maxRecDepth 10000
set_option linter.unusedSimpArgs false
section
variable {P : Program} {K : AV → AS → Prop} {σ : AS}
end
/-- A book without a certificate. -/
def Bk.wo (b : Bk) (n : Int) : Bk := ⟨b.items, b.certs.filter fun c => !decide (c.num = n)⟩
/-- What Suspects answers. -/
def Bk.suspB (b : Bk) (n : Int) : Bool := !(b.wo n).contra
attribute [local irreducible] Bk.held Bk.nums Bk.span Bk.contra Bk.suspB
attribute [local simp] AS.exp expG Box.ren AV.map AV.mapL outsOk noRet Site.isRet Box.allS AV.allS AV.allSL retB dropL AS.adds renL outG outOk lentBx inG fnOf lookA List.findIdx?_cons
attribute [local simp] Box.purge Site.isLoc
attribute [local simp] badZ_has badZ_all badZ_purge badZ_map badZ_frz
attribute [local simp] retFz frzL AS.frz AV.frz AV.frzL Box.frz AS.tidy AS.frzC
end Go.Proofs.Ytcgdopjmbadonaa
/-! Contracts of layer 2's reference (chain): Get, Without; the law ChainSuspects. -/
namespace Go.Proofs.Ytcgdopjmbadonaa
open Go.RowKit
set_option maxRecDepth 10000
set_option linter.unusedSimpArgs false
def Bk.isN (b : Bk) (n : Int) : Bool := b.certs.any fun c => decide (c.num = n)
theorem find_some {l : List Ct} {n : Int} {k : Nat} {c : Ct} (hinv : ∀ (j : Nat) (x : Ct), j < k → l[j]? = some x → (!decide (x.num = n)) = true) (hc : l[k]? = some c) (h : c.num = n) : l.find? (fun c => decide (c.num = n)) = some c := by
  rw [List.find?_eq_some_iff_getElem]
  obtain ⟨hk, e⟩ := List.getElem?_eq_some_iff.1 hc
  refine ⟨by simp [h], k, hk, e, fun j hj => ?_⟩
  exact hinv j _ hj (List.getElem?_eq_getElem (by omega))
section
attribute [local simp] Box.purge Site.isLoc
set_option maxHeartbeats 8000000 in
theorem rget_c (b : Bk) (hc : b.certs.length ≤ 1000) (n : Int) : Gives Try.prog 36 [b.pv, .int .i64 n] (.tup [(b.get n).pv, .bool (b.isN n)]) := by
  obtain ⟨T, hT⟩ : ∃ T, T = PV.tup [(b.get n).pv, .bool (b.isN n)] := ⟨_, rfl⟩
  rw [← hT]
  refine calls_of_awpS mixed L36_ok (Nat.le_of_ble_eq_true rfl) ?_
  simp [-getElem?_pos, L36, Bk.pv, itsP, ctsP]
  refine awp_loopS (fun m τ => ∃ k : Nat, k ≤ b.certs.length ∧ m = b.certs.length - k ∧ (∀ (j : Nat) (x : Ct), j < k → b.certs[j]? = some x → (!decide (x.num = n)) = true) ∧ τ = ⟨[(1, .pv (.int .i64 n)), (2, .ptr (.loc 2 0) 0), (4, .ptr (.loc 4 0) 0), (6, .pv (.int .i64 k))], [(.loc 2 0, .cells b.cells), (.loc 4 0, .cells ct0.cells)]⟩)
    ⟨b.certs.length, ⟨[(1, .pv (.int .i64 n)), (2, .ptr (.loc 2 0) 0), (4, .ptr (.loc 4 0) 0), (6, .pv (.int .i64 0))], [(.loc 2 0, .cells b.cells), (.loc 4 0, .cells ct0.cells)]⟩, Sub.mk (by simp) (by simp [Bk.cells, itsP, ctsP, Ct.cells, ct0]), 0, by omega, rfl, (fun j x hj => by omega), rfl⟩ ?_
  rintro J hJ m τ ⟨k, hk, rfl, hinv, rfl⟩
  by_cases hlt : k < b.certs.length
  · obtain ⟨o, ho, hom, hgo⟩ := ct_at hlt
    have hw := wrapK (k := k) (by omega)
    have hmeas : b.certs.length - (k + 1) < b.certs.length - k := by omega
    cases e1 : decide (o.num = n)
    · have hround := hJ _ _ ⟨k + 1, hlt, rfl, pre_next (p := fun x => !decide (x.num = n)) hinv ho (by simp [e1]), rfl⟩
      simp [-getElem?_pos, -List.getElem?_map, -decide_eq_true_eq, -decide_eq_false_iff_not, Bk.cells, itsP, ctsP, hlt, hgo, hw, e1]
      exact ⟨_, _, hmeas, Sub.mk (by simp) (by simp [Bk.cells, itsP, ctsP, Ct.cells, ct0]), hround⟩
    · have e1' := of_decide_eq_true e1
      have hf := find_some hinv ho e1'
      have hT' : T = .tup [o.pv, .bool true] := by
        rw [hT]
        unfold Bk.get Bk.isN
        rw [hf, List.any_eq_true.2 ⟨o, hom, e1⟩]; rfl
      simp [-getElem?_pos, -List.getElem?_map, -decide_eq_true_eq, -decide_eq_false_iff_not, Bk.cells, itsP, ctsP, Ct.cells, ct0, hlt, hgo, hw, e1, hT', Ct.pv]
  have he : k = b.certs.length := by omega
  subst he
  have hall := all_pre (p := fun x : Ct => !decide (x.num = n)) hinv
  have hT' : T = .tup [ct0.pv, .bool false] := by
    rw [hT]
    unfold Bk.get Bk.isN
    have h1 : b.certs.find? (fun c => decide (c.num = n)) = none := by
      rw [List.find?_eq_none]
      intro x hx
      have := List.all_eq_true.1 hall x hx
      simpa using this
    have h2 : (b.certs.any fun c => decide (c.num = n)) = false := by
      rw [List.any_eq_false]
      intro x hx
      have := List.all_eq_true.1 hall x hx
      simpa using this
    rw [h1, h2]; rfl
  simp [-getElem?_pos, -List.getElem?_map, Bk.cells, itsP, ctsP, Ct.cells, ct0, hT', Ct.pv]
attribute [local simp] retFz frzL AS.frz AV.frz AV.frzL Box.frz AS.tidy AS.frzC
end
end Go.Proofs.Ytcgdopjmbadonaa
