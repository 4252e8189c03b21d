/- Contracts of layer 2 (chain): certificates left out by number. (Text printed by gen_delct.py.) (Several texts in one.) -/
import Derived.Test.YtaffbiibcfeigaaGreatChE
import Derived.Test.YtaffbiibcfeigaaGreatChG
set_option linter.unusedVariables false
set_option linter.unusedSimpArgs false
/-! Contracts of layer 2 (chain): certificates left out by number. (Text printed by gen_delct.py.) -/
namespace Go.Proofs.YtaffbiibcfeigaaGreat
open Go.RowKit
set_option maxRecDepth 10000
set_option linter.unusedSimpArgs false
section
attribute [local simp] Box.purge Site.isLoc
end
attribute [local simp] AS.exp expG Box.ren AV.map AV.mapL outsOk noRet Site.isRet Box.allS AV.allS AV.allSL retB dropL AS.adds renL outG outOk lentBx inG fnOf lookA List.findIdx?_cons
attribute [local simp] Box.purge Site.isLoc
section
variable (d : Int)
end
end Go.Proofs.YtaffbiibcfeigaaGreat
/-! Contracts of layer 2 (chain): Suspects. -/
namespace Go.Proofs.YtaffbiibcfeigaaGreat
open Go.RowKit
set_option maxRecDepth 10000
set_option linter.unusedSimpArgs false
section
variable {P : Program} {K : AV → AS → Prop} {σ : AS}
end
/-- A book without a certificate. -/
def Bk.wo (b : Bk) (n : Int) : Bk := ⟨b.items, b.certs.filter fun c => !decide (c.num = n)⟩
theorem wo_mem {b : Bk} {n : Int} {c : Ct} (h : c ∈ (b.wo n).certs) : c ∈ b.certs := (List.mem_filter.1 h).1
/-- What Suspects answers. -/
def Bk.suspB (b : Bk) (n : Int) : Bool := !(b.wo n).contra
attribute [local irreducible] Bk.held Bk.nums Bk.span Bk.contra Bk.suspB
attribute [local simp] AS.exp expG Box.ren AV.map AV.mapL outsOk noRet Site.isRet Box.allS AV.allS AV.allSL retB dropL AS.adds renL outG outOk lentBx inG fnOf lookA List.findIdx?_cons
attribute [local simp] Box.purge Site.isLoc
attribute [local simp] badZ_has badZ_all badZ_purge badZ_map badZ_frz
attribute [local simp] retFz frzL AS.frz AV.frz AV.frzL Box.frz AS.tidy AS.frzC
end Go.Proofs.YtaffbiibcfeigaaGreat
/-! Contracts of layer 2's reference (chain): Get, Without; the law ChainSuspects. -/
namespace Go.Proofs.YtaffbiibcfeigaaGreat
open Go.RowKit
set_option maxRecDepth 10000
set_option linter.unusedSimpArgs false
section
attribute [local simp] Box.purge Site.isLoc
attribute [local simp] retFz frzL AS.frz AV.frz AV.frzL Box.frz AS.tidy AS.frzC
def wtK (b : Bk) (n : Int) (k : Nat) : AS := ⟨[(1, .pv (.int .i64 n)), (2, .ptr (.loc 2 0) 0), (4, .ptr (.loc 4 0) 0), (5, .ptr (.loc 5 0) 0), (6, .pv (.int .i64 k))],
  [(.loc 33 0, .arr 147 7 (((b.certs.take k).filter fun c => !decide (c.num = n)).map Ct.pv)), (.loc 5 0, .cells [.pv (itsP b.items), .vec (.loc 33 0) 7 0 ((b.certs.take k).filter fun c => !decide (c.num = n)).length]), (.loc 4 0, .cells [.pv (.emp (some true)), .pv (.emp (some true))]), (.loc 2 0, .cells b.cells)]⟩
set_option maxHeartbeats 16000000 in
theorem rwo_c (b : Bk) (hc : b.certs.length ≤ 1000) (n : Int) : CallsA Tryz.prog 23 ([b.pv, .int .i64 n].map .pv) [] (fun r B => r = .pv (b.wo n).pv ∧ B = []) := by
  refine calls_of_awpF [.loc 33 0] mixed L23_ok (Nat.le_of_ble_eq_true rfl) ?_
  generalize hR : (fun (r : AV) (B : List (Site × Box)) => r = .pv (b.wo n).pv ∧ B = []) = R
  simp [-getElem?_pos, L23, Bk.pv]
  refine awp_loopS (fun m τ => ∃ k : Nat, k ≤ b.certs.length ∧ m = b.certs.length - k ∧ τ = wtK b n k) ⟨b.certs.length, wtK b n 0, Sub.trans' (Sub.mk (by simp [wtK, AS.vecC]) (by simp [wtK, AS.vecC, Bk.cells])) (vecC 33 147 7 (s := .loc 5 0) (cs := [.pv (itsP b.items), .pv (.emp (some true))]) 1 rfl rfl (by decide)), 0, by omega, rfl, rfl⟩ ?_
  rintro J hJ m τ ⟨k, hk, rfl, rfl⟩
  by_cases hlt : k < b.certs.length
  · obtain ⟨o, ho, hom, hgo⟩ := ct_at hlt
    have hw := wrapK (k := k) (by omega)
    have hround := hJ _ _ ⟨k + 1, hlt, rfl, rfl⟩
    have hmeas : b.certs.length - (k + 1) < b.certs.length - k := by omega
    have hnext : (b.certs.take (k + 1)).filter (fun c => !decide (c.num = n)) = (b.certs.take k).filter (fun c => !decide (c.num = n)) ++ (if (!decide (o.num = n)) = true then [o] else []) := by
      rw [List.take_add_one, ho, List.filter_append]
      congr 1
      simp only [Option.toList, List.filter_cons, List.filter_nil]
    have hpl : ((b.certs.take k).filter fun c => !decide (c.num = n)).length ≤ 1000 := Nat.le_trans (List.length_filter_le _ _) (by rw [List.length_take]; omega)
    unfold wtK at hround ⊢
    rw [hnext] at hround
    clear hJ hnext hR
    generalize ((b.certs.take k).filter fun c => !decide (c.num = n)) = Y at *
    have hY : (Y.map Ct.pv).take Y.length = Y.map Ct.pv := List.take_of_length_le (by simp)
    have hY6 : Y.length ≤ 999999 := by omega
    cases e1 : decide (o.num = n)
    · rw [e1, if_pos (by rfl)] at hround
      simp [-getElem?_pos, -List.getElem?_map, -decide_eq_true_eq, -decide_eq_false_iff_not, Bk.cells, itsP, ctsP, hlt, hgo, hw, e1, nble, nblt, hY, hY6]
      exact ⟨_, _, hmeas, Sub.mk (by simp) (by simp [Bk.cells, itsP, ctsP, Ct.pv]), hround⟩
    · rw [e1, if_neg (by simp), List.append_nil] at hround
      simp [-getElem?_pos, -List.getElem?_map, -decide_eq_true_eq, -decide_eq_false_iff_not, Bk.cells, itsP, ctsP, hlt, hgo, hw, e1]
      exact ⟨_, _, hmeas, Sub.mk (by simp) (by simp [Bk.cells, itsP, ctsP]), hround⟩
  have he : k = b.certs.length := by omega
  subst he
  clear hJ
  unfold wtK
  rw [List.take_length]
  have hm2 := fun Z : List Ct => (List.take_of_length_le (by simp) : (Z.map Ct.pv).take Z.length = Z.map Ct.pv)
  have hwp : (b.wo n).pv = .agg [itsP b.items, .lst false 7 ((b.certs.filter fun c => !decide (c.num = n)).map Ct.pv)] := rfl
  rw [hwp] at hR
  generalize (b.certs.filter fun c => !decide (c.num = n)) = Z at *
  have hmZ := hm2 Z
  clear hm2
  simp [-getElem?_pos, -List.getElem?_map, Bk.cells, itsP, ctsP, hmZ]
  rw [← hR]
  exact ⟨rfl, rfl⟩
end
end Go.Proofs.YtaffbiibcfeigaaGreat
