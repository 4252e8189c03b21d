/- Layer 10 (queue): the law QueueProves. (Several texts in one.) -/
import Derived.Test.YtohhjnpiiackjaaQuE
set_option linter.unusedVariables false
set_option linter.unusedSimpArgs false
/-! Layer 10 (queue): the law QueueProves. -/
namespace Go.Proofs.Ytohhjnpiiackjaa
open Go.RowKit
set_option maxRecDepth 10000
set_option linter.unusedSimpArgs false
attribute [local simp] AS.exp expG Box.ren AV.map AV.mapL outsOk noRet Site.isRet Box.allS AV.allS AV.allSL retB dropL AS.adds renL outG outOk lentBx inG fnOf lookA List.findIdx?_cons
attribute [local simp] Box.purge Site.isLoc
attribute [local simp] retFz frzL AS.frz AV.frz AV.frzL Box.frz AS.tidy AS.frzC
end Go.Proofs.Ytohhjnpiiackjaa
/-! Contracts of layer 10's law (queue): Back, whose lists are one's own. -/
namespace Go.Proofs.Ytohhjnpiiackjaa
open Go.RowKit
attribute [local simp] Box.purge Site.isLoc
set_option maxRecDepth 10000
set_option linter.unusedSimpArgs false
attribute [local simp] AS.exp expG Box.ren AV.map AV.mapL outsOk noRet Site.isRet Box.allS AV.allS AV.allSL retB dropL AS.adds renL outG outOk lentBx inG fnOf lookA List.findIdx?_cons
attribute [local simp] retFz frzL AS.frz AV.frz AV.frzL Box.frz AS.tidy AS.frzC
set_option maxHeartbeats 16000000 in
theorem back_o (q : Qu) (h1 : q.ms.length ≤ 1000) (h2 : q.rs.length ≤ 1000) (h3 : ∀ l ∈ q.ms, l.length ≤ 1000) (h4 : ∀ r ∈ q.rs, r.on.length ≤ 1000) : CallsA Try.prog 41 ([q.pv].map .pv) [] (fun r B => r = .agg [.vec (.ret 0) 1 0 q.ms.length, .vec (.ret 1) 3 0 q.rs.length] ∧ B = [(.ret 0, .arr 84 1 (q.ms.map rgsP)), (.ret 1, .arr 70 3 (q.rs.map Rq.pv))]) := by
  refine calls_of_awpB [.loc 52 0, .loc 78 0] mixed L41_ok (Nat.le_of_ble_eq_true rfl) ?_
  generalize hR : (fun (r : AV) (B : List (Site × Box)) => r = .agg [.vec (.ret 0) 1 0 q.ms.length, .vec (.ret 1) 3 0 q.rs.length] ∧ B = [(.ret 0, .arr 84 1 (q.ms.map rgsP)), (.ret 1, .arr 70 3 (q.rs.map Rq.pv))]) = R
  simp [-getElem?_pos, L41, Qu.pv]
  refine awp_loopS (fun n τ => ∃ k : Nat, k ≤ q.ms.length ∧ n = q.ms.length - k ∧ τ = bkK q k) ⟨q.ms.length, bkK q 0, Sub.trans' (Sub.mk (by simp [bkK, AS.vecC]) (by simp [bkK, AS.vecC, Qu.cells])) (vecC 52 84 1 (s := .loc 3 0) (cs := [.pv (.emp (some true)), .pv (.emp (some true))]) 0 rfl rfl (by decide)), 0, by omega, rfl, rfl⟩ ?_
  rintro J hJ n τ ⟨k, hk, rfl, rfl⟩
  by_cases hlt : k < q.ms.length
  · obtain ⟨l, hl⟩ : ∃ l, q.ms[k]? = some l := ⟨q.ms[k], List.getElem?_eq_getElem hlt⟩
    have hll := h3 l (List.mem_of_getElem? hl)
    have hg : (q.ms.map rgsP)[k]? = some (.lst false 2 (l.map Rg.pv)) := by rw [List.getElem?_map, hl]; rfl
    have hw : IntKind.i64.wrap ((k : Int) + 1) = ((k + 1 : Nat) : Int) := by rw [wrap64 (by omega)]; omega
    have hround := hJ _ _ ⟨k + 1, hlt, rfl, rfl⟩
    have htk : (q.ms.take (k + 1)).map rgsP = (q.ms.take k).map rgsP ++ [.lst false 2 (l.map Rg.pv)] := by rw [List.take_add_one, hl]; simp [rgsP]
    have hk6 : k + 1 ≤ 1000000 := by omega
    have htl : ((q.ms.take k).map rgsP).length = k := by rw [List.length_map, List.length_take]; omega
    have hmeas : q.ms.length - (k + 1) < q.ms.length - k := by omega
    clear hJ
    generalize hTL : (q.ms.take k).map rgsP = TL at *
    simp [-getElem?_pos, -List.getElem?_map, bkK, Qu.cells, hlt, hTL]
    refine awp_loopS (fun n τ => ∃ i : Nat, i ≤ l.length ∧ n = l.length - i ∧ τ = bkI q k l i) ⟨l.length, bkI q k l 0, Sub.trans' (Sub.mk (by simp [bkI, bkK, AS.vecT]) (by simp [bkI, bkK, AS.vecT, Qu.cells, hTL])) (vecT 47 101 2 5 rfl (by decide)), 0, by omega, rfl, rfl⟩ ?_
    rintro J2 hJ2 n τ ⟨i, hi, rfl, rfl⟩
    by_cases hlt2 : i < l.length
    · obtain ⟨r, hr⟩ : ∃ r, l[i]? = some r := ⟨l[i], List.getElem?_eq_getElem hlt2⟩
      have hgr : (l.map Rg.pv)[i]? = some (.agg [.int .i64 r.lo, .int .i64 r.hi]) := by rw [List.getElem?_map, hr]; rfl
      have hwi : IntKind.i64.wrap ((i : Int) + 1) = ((i + 1 : Nat) : Int) := by rw [wrap64 (by omega)]; omega
      have hround2 := hJ2 _ _ ⟨i + 1, hlt2, rfl, rfl⟩
      have hti : (l.take (i + 1)).map Rg.pv = (l.take i).map Rg.pv ++ [.agg [.int .i64 r.lo, .int .i64 r.hi]] := by rw [List.take_add_one, hr]; simp [Rg.pv]
      have hi6 : i + 1 ≤ 1000000 := by omega
      have htil : ((l.take i).map Rg.pv).length = i := by rw [List.length_map, List.length_take]; omega
      have hmeas2 : l.length - (i + 1) < l.length - i := by omega
      clear hJ2
      generalize hTI : (l.take i).map Rg.pv = TI at *
      simp [-getElem?_pos, -List.getElem?_map, -decide_eq_true_eq, bkI, bkK, Qu.cells, hlt, hlt2, hg, hgr, nble, nblt, hwi, hi6, hTI, htil, hTL]
      refine ⟨_, _, hmeas2, Sub.mk ?_ ?_, hround2⟩
      · simp [bkI, bkK]
      · simp [bkI, bkK, Qu.cells, -List.map_take, -List.take_succ_cons, hti, hTL]
    · have he : i = l.length := by omega
      subst he
      clear hJ2
      have hlm : (l.map Rg.pv).take l.length = l.map Rg.pv := List.take_of_length_le (by simp)
      simp [-getElem?_pos, -List.getElem?_map, -decide_eq_true_eq, bkI, bkK, Qu.cells, hlt, hg, nble, nblt, hlm, hw, hk6, hTL, htl]
      refine ⟨_, _, hmeas, Sub.mk ?_ ?_, hround⟩
      · simp [bkK]
      · simp [bkK, Qu.cells, -List.map_take, -List.take_succ_cons, htk, hTL]
  · have he : k = q.ms.length := by omega
    subst he
    clear hJ
    simp [-getElem?_pos, -List.getElem?_map, -decide_eq_true_eq, bkK, Qu.cells]
    refine awp_loopS (fun n τ => ∃ k : Nat, k ≤ q.rs.length ∧ n = q.rs.length - k ∧ τ = bkR q k) ⟨q.rs.length, bkR q 0, Sub.trans' (Sub.mk (by simp [bkR, AS.vecC]) (by simp [bkR, AS.vecC, Qu.cells])) (vecC 78 70 3 (s := .loc 3 0) (cs := [.vec (.loc 52 0) 1 0 q.ms.length, .pv (.emp (some true))]) 1 rfl rfl (by decide)), 0, by omega, rfl, rfl⟩ ?_
    rintro J hJ n τ ⟨k, hk, rfl, rfl⟩
    by_cases hlt : k < q.rs.length
    · obtain ⟨r, hr⟩ : ∃ r, q.rs[k]? = some r := ⟨q.rs[k], List.getElem?_eq_getElem hlt⟩
      have hro := h4 r (List.mem_of_getElem? hr)
      have hg : (q.rs.map Rq.pv)[k]? = some (.agg [.int .i64 r.hours, .int .i64 r.ready, .lst false 1 (r.on.map PV.bool)]) := by rw [List.getElem?_map, hr]; rfl
      have hw : IntKind.i64.wrap ((k : Int) + 1) = ((k + 1 : Nat) : Int) := by rw [wrap64 (by omega)]; omega
      have hround := hJ _ _ ⟨k + 1, hlt, rfl, rfl⟩
      have htk : (q.rs.take (k + 1)).map Rq.pv = (q.rs.take k).map Rq.pv ++ [.agg [.int .i64 r.hours, .int .i64 r.ready, .lst false 1 (r.on.map PV.bool)]] := by rw [List.take_add_one, hr]; simp [Rq.pv, onP]
      have hk6 : k + 1 ≤ 1000000 := by omega
      have hon : r.on.length ≤ 1000000 := by omega
      have htl : ((q.rs.take k).map Rq.pv).length = k := by rw [List.length_map, List.length_take]; omega
      have hol : (r.on.map PV.bool).take r.on.length = r.on.map PV.bool := List.take_of_length_le (by simp)
      have hmeas : q.rs.length - (k + 1) < q.rs.length - k := by omega
      clear hJ
      generalize hTL : (q.rs.take k).map Rq.pv = TL at *
      simp [-getElem?_pos, -List.getElem?_map, -decide_eq_true_eq, bkR, Qu.cells, hlt, hg, nble, nblt, hw, hk6, hTL, htl, hon, hol]
      refine ⟨_, _, hmeas, Sub.mk ?_ ?_, hround⟩
      · simp [bkR]
      · simp [bkR, Qu.cells, -List.map_take, -List.take_succ_cons, htk, hTL]
    · have he : k = q.rs.length := by omega
      subst he
      clear hJ
      have hm1 : (q.ms.map rgsP).take q.ms.length = q.ms.map rgsP := List.take_of_length_le (by simp)
      have hm2 : (q.rs.map Rq.pv).take q.rs.length = q.rs.map Rq.pv := List.take_of_length_le (by simp)
      simp [-getElem?_pos, -List.getElem?_map, -decide_eq_true_eq, bkR, Qu.cells, hm1, hm2]
      rw [← hR]
      simp [Qu.pv]
end Go.Proofs.Ytohhjnpiiackjaa
