/- Layer 10 (queue): the law QueueProves. (Several texts in one.) -/
import Derived.Test.YtohhjnpiiackjaaQuE
set_option linter.unusedVariables false
set_option linter.unusedSimpArgs false
/-! Layer 10 (queue): the law QueueProves. -/
namespace Go.Proofs.Ytohhjnpiiackjaa
open Go.RowKit

set_option maxRecDepth 10000
set_option linter.unusedSimpArgs false

attribute [local simp] AS.exp expG Box.ren AV.map AV.mapL outsOk noRet Site.isRet Box.allS AV.allS AV.allSL retB dropL AS.adds renL outG outOk lentBx inG fnOf lookA List.findIdx?_cons
attribute [local simp] Box.purge Site.isLoc
attribute [local simp] retFz frzL AS.frz AV.frz AV.frzL Box.frz AS.tidy AS.frzC
theorem short_of {p : List (List Int)} (h : shortP p = true) : p.length ≤ 45 ∧ ∀ l ∈ p, l.length ≤ 9 := by
  simp only [shortP, Bool.and_eq_true, List.all_eq_true, decide_eq_true_eq] at h
  have hl : p.length ≤ 45 := by omega
  refine ⟨hl, fun l hm => ?_⟩
  have := h.1 l (by rw [List.take_of_length_le (by omega)]; exact hm)
  omega
set_option maxHeartbeats 4000000 in
theorem proves_law (q : Qu) (p : List (List Int)) (e : Int) : Gives Try.prog 6 [q.pv, planP p, .int .i64 e] (.bool true) := by
  refine calls_of_awpS mixed L6_ok (Nat.le_of_ble_eq_true rfl) ?_
  simp [-getElem?_pos, L6, Qu.pv]
  refine call_gives (k := 0) (fs := []) (xs := [q.pv]) (cs := []) rfl rfl (thin_c q) rfl ?_
  by_cases ht : q.thin = true
  case neg =>
    simp [-getElem?_pos, ht]
    refine call_gives (k := 0) (fs := []) (xs := []) (cs := []) rfl rfl wakes_c rfl ?_
    simp [-getElem?_pos]
  have hs := Qu.small_of ht
  have h1 := hs.m
  have h2 := hs.r
  have h3 : ∀ l ∈ q.ms, l.length ≤ 1000 := fun l h => by have := hs.s l h; omega
  have h36 : ∀ l ∈ q.ms, l.length ≤ 1000000 := fun l h => by have := hs.s l h; omega
  have h4 : ∀ r ∈ q.rs, r.on.length ≤ 1000 := fun l h => by have := hs.f l h; omega
  simp [-getElem?_pos, ht]
  refine call_gives (k := 0) (fs := []) (xs := [planP p]) (cs := []) rfl rfl (short_c p) rfl ?_
  by_cases hp : shortP p = true
  case neg =>
    simp [-getElem?_pos, hp]
    refine call_gives (k := 0) (fs := []) (xs := []) (cs := []) rfl rfl wakes_c rfl ?_
    simp [-getElem?_pos]
  obtain ⟨p1, p2⟩ := short_of hp
  have p3 : ∀ l ∈ p, l.length ≤ 1000 := fun l h => by have := p2 l h; omega
  simp [-getElem?_pos, hp]
  refine call_gives (k := 0) (fs := []) (xs := [q.pv]) (cs := []) rfl rfl (fault_c q (by omega) (by omega) h36) rfl ?_
  have hqc := queue_c q (by omega) (by omega) h3 h4
  have hrw := rows_c p (by omega) p3
  have hpc := proves_c q (by omega) (by omega) h36 p (by omega) p3 e
  obtain ⟨V, hV⟩ : ∃ z, z = q.proves p e := ⟨_, rfl⟩
  rw [← hV] at hpc
  have hV' := hV
  unfold Qu.proves at hV'
  have hw := wakes_c
  by_cases hc : q.check = 0
  · have hq := Qu.ok_of hc
    simp [-getElem?_pos, hc]
    refine .inl (call_pv [] (fs := []) (xs := [q.pv, planP p]) (cs := []) rfl rfl (isplan_c q hq p (by omega) p3) ?_)
    cases hr : q.right p
    · have hVf : V = false := by rw [hV', hr]; simp
      subst hVf
      clear hV hV' hq hs
      simp [-getElem?_pos, frzsL]
      refine .inl (call_pv [] (fs := []) (xs := [q.pv]) (cs := []) rfl rfl hqc ?_)
      simp [-getElem?_pos, frzsL]
      refine .inl (call_pv [] (fs := []) (xs := [planP p]) (cs := []) rfl rfl hrw ?_)
      simp [-getElem?_pos, frzsL]
      refine .inl (call_pv [] (fs := []) (xs := [q.pv, planP p, .int .i64 e]) (cs := []) rfl rfl hpc ?_)
      simp [-getElem?_pos, frzsL]
      refine .inl (call_pv [] (fs := []) (xs := []) (cs := []) rfl rfl hw ?_)
      simp [-getElem?_pos, frzsL]
    · simp [-getElem?_pos, frzsL]
      refine .inl (call_pv [] (fs := []) (xs := [planP p]) (cs := []) rfl rfl (rend_c p (by omega) p3) ?_)
      have hVe : V = decide (endP p ≤ e) := by rw [hV', hr, hc]; simp
      subst hVe
      clear hV hV' hq hs
      generalize hD : decide (endP p ≤ e) = D at *
      simp [-getElem?_pos, -decide_eq_true_eq, frzsL, hD]
      refine .inl (call_pv [] (fs := []) (xs := [q.pv]) (cs := []) rfl rfl hqc ?_)
      simp [-getElem?_pos, frzsL]
      refine .inl (call_pv [] (fs := []) (xs := [planP p]) (cs := []) rfl rfl hrw ?_)
      simp [-getElem?_pos, frzsL]
      refine .inl (call_pv [] (fs := []) (xs := [q.pv, planP p, .int .i64 e]) (cs := []) rfl rfl hpc ?_)
      clear hD
      cases D <;> simp [-getElem?_pos, frzsL]
      all_goals
        refine .inl (call_pv [] (fs := []) (xs := []) (cs := []) rfl rfl hw ?_)
        simp [-getElem?_pos, frzsL]
  · have hVf : V = false := by rw [hV']; simp [hc]
    subst hVf
    clear hV hV' hs
    simp [-getElem?_pos, hc]
    refine .inl (call_pv [] (fs := []) (xs := [q.pv]) (cs := []) rfl rfl hqc ?_)
    simp [-getElem?_pos, frzsL]
    refine .inl (call_pv [] (fs := []) (xs := [planP p]) (cs := []) rfl rfl hrw ?_)
    simp [-getElem?_pos, frzsL]
    refine .inl (call_pv [] (fs := []) (xs := [q.pv, planP p, .int .i64 e]) (cs := []) rfl rfl hpc ?_)
    simp [-getElem?_pos, frzsL]
    refine .inl (call_pv [] (fs := []) (xs := []) (cs := []) rfl rfl hw ?_)
    simp [-getElem?_pos, frzsL]
end Go.Proofs.Ytohhjnpiiackjaa

/-! Contracts of layer 10's law (queue): Back, whose lists are one's own. -/
namespace Go.Proofs.Ytohhjnpiiackjaa
open Go.RowKit
attribute [local simp] Box.purge Site.isLoc

set_option maxRecDepth 10000
set_option linter.unusedSimpArgs false

attribute [local simp] AS.exp expG Box.ren AV.map AV.mapL outsOk noRet Site.isRet Box.allS AV.allS AV.allSL retB dropL AS.adds renL outG outOk lentBx inG fnOf lookA List.findIdx?_cons
attribute [local simp] retFz frzL AS.frz AV.frz AV.frzL Box.frz AS.tidy AS.frzC
set_option maxHeartbeats 16000000 in
theorem back_o (q : Qu) (h1 : q.ms.length ≤ 1000) (h2 : q.rs.length ≤ 1000) (h3 : ∀ l ∈ q.ms, l.length ≤ 1000) (h4 : ∀ r ∈ q.rs, r.on.length ≤ 1000) : CallsA Try.prog 41 ([q.pv].map .pv) [] (fun r B => r = .agg [.vec (.ret 0) 1 0 q.ms.length, .vec (.ret 1) 3 0 q.rs.length] ∧ B = [(.ret 0, .arr 84 1 (q.ms.map rgsP)), (.ret 1, .arr 70 3 (q.rs.map Rq.pv))]) := by
  refine calls_of_awpB [.loc 52 0, .loc 78 0] mixed L41_ok (Nat.le_of_ble_eq_true rfl) ?_
  generalize hR : (fun (r : AV) (B : List (Site × Box)) => r = .agg [.vec (.ret 0) 1 0 q.ms.length, .vec (.ret 1) 3 0 q.rs.length] ∧ B = [(.ret 0, .arr 84 1 (q.ms.map rgsP)), (.ret 1, .arr 70 3 (q.rs.map Rq.pv))]) = R
  simp [-getElem?_pos, L41, Qu.pv]
  refine awp_loopS (fun n τ => ∃ k : Nat, k ≤ q.ms.length ∧ n = q.ms.length - k ∧ τ = bkK q k) ⟨q.ms.length, bkK q 0, Sub.trans' (Sub.mk (by simp [bkK, AS.vecC]) (by simp [bkK, AS.vecC, Qu.cells])) (vecC 52 84 1 (s := .loc 3 0) (cs := [.pv (.emp (some true)), .pv (.emp (some true))]) 0 rfl rfl (by decide)), 0, by omega, rfl, rfl⟩ ?_
  rintro J hJ n τ ⟨k, hk, rfl, rfl⟩
  by_cases hlt : k < q.ms.length
  · obtain ⟨l, hl⟩ : ∃ l, q.ms[k]? = some l := ⟨q.ms[k], List.getElem?_eq_getElem hlt⟩
    have hll := h3 l (List.mem_of_getElem? hl)
    have hg : (q.ms.map rgsP)[k]? = some (.lst false 2 (l.map Rg.pv)) := by rw [List.getElem?_map, hl]; rfl
    have hw : IntKind.i64.wrap ((k : Int) + 1) = ((k + 1 : Nat) : Int) := by rw [wrap64 (by omega)]; omega
    have hround := hJ _ _ ⟨k + 1, hlt, rfl, rfl⟩
    have htk : (q.ms.take (k + 1)).map rgsP = (q.ms.take k).map rgsP ++ [.lst false 2 (l.map Rg.pv)] := by rw [List.take_add_one, hl]; simp [rgsP]
    have hk6 : k + 1 ≤ 1000000 := by omega
    have htl : ((q.ms.take k).map rgsP).length = k := by rw [List.length_map, List.length_take]; omega
    have hmeas : q.ms.length - (k + 1) < q.ms.length - k := by omega
    clear hJ
    generalize hTL : (q.ms.take k).map rgsP = TL at *
    simp [-getElem?_pos, -List.getElem?_map, bkK, Qu.cells, hlt, hTL]
    refine awp_loopS (fun n τ => ∃ i : Nat, i ≤ l.length ∧ n = l.length - i ∧ τ = bkI q k l i) ⟨l.length, bkI q k l 0, Sub.trans' (Sub.mk (by simp [bkI, bkK, AS.vecT]) (by simp [bkI, bkK, AS.vecT, Qu.cells, hTL])) (vecT 47 101 2 5 rfl (by decide)), 0, by omega, rfl, rfl⟩ ?_
    rintro J2 hJ2 n τ ⟨i, hi, rfl, rfl⟩
    by_cases hlt2 : i < l.length
    · obtain ⟨r, hr⟩ : ∃ r, l[i]? = some r := ⟨l[i], List.getElem?_eq_getElem hlt2⟩
      have hgr : (l.map Rg.pv)[i]? = some (.agg [.int .i64 r.lo, .int .i64 r.hi]) := by rw [List.getElem?_map, hr]; rfl
      have hwi : IntKind.i64.wrap ((i : Int) + 1) = ((i + 1 : Nat) : Int) := by rw [wrap64 (by omega)]; omega
      have hround2 := hJ2 _ _ ⟨i + 1, hlt2, rfl, rfl⟩
      have hti : (l.take (i + 1)).map Rg.pv = (l.take i).map Rg.pv ++ [.agg [.int .i64 r.lo, .int .i64 r.hi]] := by rw [List.take_add_one, hr]; simp [Rg.pv]
      have hi6 : i + 1 ≤ 1000000 := by omega
      have htil : ((l.take i).map Rg.pv).length = i := by rw [List.length_map, List.length_take]; omega
      have hmeas2 : l.length - (i + 1) < l.length - i := by omega
      clear hJ2
      generalize hTI : (l.take i).map Rg.pv = TI at *
      simp [-getElem?_pos, -List.getElem?_map, -decide_eq_true_eq, bkI, bkK, Qu.cells, hlt, hlt2, hg, hgr, nble, nblt, hwi, hi6, hTI, htil, hTL]
      refine ⟨_, _, hmeas2, Sub.mk ?_ ?_, hround2⟩
      · simp [bkI, bkK]
      · simp [bkI, bkK, Qu.cells, -List.map_take, -List.take_succ_cons, hti, hTL]
    · have he : i = l.length := by omega
      subst he
      clear hJ2
      have hlm : (l.map Rg.pv).take l.length = l.map Rg.pv := List.take_of_length_le (by simp)
      simp [-getElem?_pos, -List.getElem?_map, -decide_eq_true_eq, bkI, bkK, Qu.cells, hlt, hg, nble, nblt, hlm, hw, hk6, hTL, htl]
      refine ⟨_, _, hmeas, Sub.mk ?_ ?_, hround⟩
      · simp [bkK]
      · simp [bkK, Qu.cells, -List.map_take, -List.take_succ_cons, htk, hTL]
  · have he : k = q.ms.length := by omega
    subst he
    clear hJ
    simp [-getElem?_pos, -List.getElem?_map, -decide_eq_true_eq, bkK, Qu.cells]
    refine awp_loopS (fun n τ => ∃ k : Nat, k ≤ q.rs.length ∧ n = q.rs.length - k ∧ τ = bkR q k) ⟨q.rs.length, bkR q 0, Sub.trans' (Sub.mk (by simp [bkR, AS.vecC]) (by simp [bkR, AS.vecC, Qu.cells])) (vecC 78 70 3 (s := .loc 3 0) (cs := [.vec (.loc 52 0) 1 0 q.ms.length, .pv (.emp (some true))]) 1 rfl rfl (by decide)), 0, by omega, rfl, rfl⟩ ?_
    rintro J hJ n τ ⟨k, hk, rfl, rfl⟩
    by_cases hlt : k < q.rs.length
    · obtain ⟨r, hr⟩ : ∃ r, q.rs[k]? = some r := ⟨q.rs[k], List.getElem?_eq_getElem hlt⟩
      have hro := h4 r (List.mem_of_getElem? hr)
      have hg : (q.rs.map Rq.pv)[k]? = some (.agg [.int .i64 r.hours, .int .i64 r.ready, .lst false 1 (r.on.map PV.bool)]) := by rw [List.getElem?_map, hr]; rfl
      have hw : IntKind.i64.wrap ((k : Int) + 1) = ((k + 1 : Nat) : Int) := by rw [wrap64 (by omega)]; omega
      have hround := hJ _ _ ⟨k + 1, hlt, rfl, rfl⟩
      have htk : (q.rs.take (k + 1)).map Rq.pv = (q.rs.take k).map Rq.pv ++ [.agg [.int .i64 r.hours, .int .i64 r.ready, .lst false 1 (r.on.map PV.bool)]] := by rw [List.take_add_one, hr]; simp [Rq.pv, onP]
      have hk6 : k + 1 ≤ 1000000 := by omega
      have hon : r.on.length ≤ 1000000 := by omega
      have htl : ((q.rs.take k).map Rq.pv).length = k := by rw [List.length_map, List.length_take]; omega
      have hol : (r.on.map PV.bool).take r.on.length = r.on.map PV.bool := List.take_of_length_le (by simp)
      have hmeas : q.rs.length - (k + 1) < q.rs.length - k := by omega
      clear hJ
      generalize hTL : (q.rs.take k).map Rq.pv = TL at *
      simp [-getElem?_pos, -List.getElem?_map, -decide_eq_true_eq, bkR, Qu.cells, hlt, hg, nble, nblt, hw, hk6, hTL, htl, hon, hol]
      refine ⟨_, _, hmeas, Sub.mk ?_ ?_, hround⟩
      · simp [bkR]
      · simp [bkR, Qu.cells, -List.map_take, -List.take_succ_cons, htk, hTL]
    · have he : k = q.rs.length := by omega
      subst he
      clear hJ
      have hm1 : (q.ms.map rgsP).take q.ms.length = q.ms.map rgsP := List.take_of_length_le (by simp)
      have hm2 : (q.rs.map Rq.pv).take q.rs.length = q.rs.map Rq.pv := List.take_of_length_le (by simp)
      simp [-getElem?_pos, -List.getElem?_map, -decide_eq_true_eq, bkR, Qu.cells, hm1, hm2]
      rw [← hR]
      simp [Qu.pv]
end Go.Proofs.Ytohhjnpiiackjaa

/-! Contracts of layer 10's law (queue): same, of a queue and itself. -/
namespace Go.Proofs.Ytohhjnpiiackjaa
open Go.RowKit

set_option maxRecDepth 10000
set_option linter.unusedSimpArgs false

attribute [local simp] AS.exp expG Box.ren AV.map AV.mapL outsOk noRet Site.isRet Box.allS AV.allS AV.allSL retB dropL AS.adds renL outG outOk lentBx inG fnOf lookA List.findIdx?_cons
attribute [local simp] Box.purge Site.isLoc
attribute [local simp] retFz frzL AS.frz AV.frz AV.frzL Box.frz AS.tidy AS.frzC
def smA (q : Qu) (k : Nat) : AS := ⟨[(2, .ptr (.loc 2 0) 0), (3, .ptr (.loc 3 0) 0), (5, .pv (.int .i64 k))], [(.loc 2 0, .cells q.cells), (.loc 3 0, .cells q.cells)]⟩
def smB (q : Qu) (k i : Nat) : AS := ⟨(6, .pv (.int .i64 i)) :: (smA q k).tm, (smA q k).bx⟩
def smC (q : Qu) (k : Nat) : AS := ⟨[(2, .ptr (.loc 2 0) 0), (3, .ptr (.loc 3 0) 0), (7, .pv (.int .i64 k))], [(.loc 2 0, .cells q.cells), (.loc 3 0, .cells q.cells)]⟩
def Rq.cells (r : Rq) : List AV := [.pv (.int .i64 r.hours), .pv (.int .i64 r.ready), .pv (onP r.on)]
def smJ (q : Qu) (k : Nat) (r : Rq) : AS := ⟨(8, .ptr (.loc 8 0) 0) :: (9, .ptr (.loc 9 0) 0) :: (90, .pv r.pv) :: (smC q k).tm, (.loc 8 0, .cells r.cells) :: (.loc 9 0, .cells [.pv (.int .i64 0), .pv (.int .i64 0), .pv (.emp (some true))]) :: (smC q k).bx⟩
def smD (q : Qu) (k : Nat) (r : Rq) (i : Nat) : AS := ⟨(8, .ptr (.loc 8 0) 0) :: (9, .ptr (.loc 9 0) 0) :: (10, .pv (.int .i64 i)) :: (smC q k).tm, (.loc 8 0, .cells r.cells) :: (.loc 9 0, .cells r.cells) :: (smC q k).bx⟩
set_option maxHeartbeats 16000000 in
theorem same_c (q : Qu) (hs : q.small) : Gives Try.prog 43 [q.pv, q.pv] (.bool true) := by
  have h1 := hs.m
  have h2 := hs.r
  refine calls_of_awpS mixed L43_ok (Nat.le_of_ble_eq_true rfl) ?_
  generalize hR : (fun (r : AV) (B : List (Site × Box)) => r = .pv (.bool true) ∧ B = []) = R
  simp [-getElem?_pos, L43, Qu.pv]
  refine awp_loopS (fun n τ => ∃ k : Nat, k ≤ q.ms.length ∧ n = q.ms.length - k ∧ τ = smA q k) ⟨q.ms.length, smA q 0, Sub.mk (by simp [smA]) (by simp [smA, Qu.cells]), 0, Nat.zero_le _, rfl, rfl⟩ ?_
  rintro J hJ n τ ⟨k, hk, rfl, rfl⟩
  by_cases hlt : k < q.ms.length
  · obtain ⟨l, hl⟩ : ∃ l, q.ms[k]? = some l := ⟨q.ms[k], List.getElem?_eq_getElem hlt⟩
    have hll := hs.s l (List.mem_of_getElem? hl)
    have hg : (q.ms.map rgsP)[k]? = some (.lst false 2 (l.map Rg.pv)) := by rw [List.getElem?_map, hl]; rfl
    have hw := wrapS (k := k) (by omega)
    have hround := hJ _ _ ⟨k + 1, hlt, rfl, rfl⟩
    have hmeas : q.ms.length - (k + 1) < q.ms.length - k := by omega
    clear hJ
    simp [-getElem?_pos, -List.getElem?_map, -decide_eq_true_eq, smA, Qu.cells, hlt, hg]
    refine awp_loopS (fun n τ => ∃ i : Nat, i ≤ l.length ∧ n = l.length - i ∧ τ = smB q k i) ⟨l.length, smB q k 0, Sub.mk (by simp [smA, smB]) (by simp [smA, smB, Qu.cells]), 0, Nat.zero_le _, rfl, rfl⟩ ?_
    rintro J hJ n τ ⟨i, hi, rfl, rfl⟩
    by_cases hlt2 : i < l.length
    · obtain ⟨x, hx⟩ : ∃ x, l[i]? = some x := ⟨l[i], List.getElem?_eq_getElem hlt2⟩
      have hgx : (l.map Rg.pv)[i]? = some (.agg [.int .i64 x.lo, .int .i64 x.hi]) := by rw [List.getElem?_map, hx]; rfl
      have hwi := wrapS (k := i) (by omega)
      have hround2 := hJ _ _ ⟨i + 1, hlt2, rfl, rfl⟩
      have hmeas2 : l.length - (i + 1) < l.length - i := by omega
      clear hJ
      simp [-getElem?_pos, -List.getElem?_map, -decide_eq_true_eq, smA, smB, Qu.cells, hlt, hg, hgx, hlt2, hwi]
      refine ⟨_, _, hmeas2, Sub.mk ?_ ?_, hround2⟩
      · simp [smA, smB]
      · simp [smA, smB, Qu.cells]
    · have he : i = l.length := by omega
      subst he
      clear hJ
      simp [-getElem?_pos, -List.getElem?_map, -decide_eq_true_eq, smA, smB, Qu.cells, hlt, hg, hw]
      refine ⟨_, _, hmeas, Sub.mk ?_ ?_, hround⟩
      · simp [smA]
      · simp [smA, Qu.cells]
  · have he : k = q.ms.length := by omega
    subst he
    clear hJ
    simp [-getElem?_pos, -List.getElem?_map, -decide_eq_true_eq, smA, Qu.cells]
    refine awp_loopS (fun n τ => ∃ k : Nat, k ≤ q.rs.length ∧ n = q.rs.length - k ∧ τ = smC q k) ⟨q.rs.length, smC q 0, Sub.mk (by simp [smC]) (by simp [smC, Qu.cells]), 0, Nat.zero_le _, rfl, rfl⟩ ?_
    rintro J hJ n τ ⟨k, hk, rfl, rfl⟩
    by_cases hlt : k < q.rs.length
    · obtain ⟨r, hr⟩ : ∃ r, q.rs[k]? = some r := ⟨q.rs[k], List.getElem?_eq_getElem hlt⟩
      have hrl := hs.f r (List.mem_of_getElem? hr)
      have hg : (q.rs.map Rq.pv)[k]? = some (.agg [.int .i64 r.hours, .int .i64 r.ready, .lst false 1 (r.on.map PV.bool)]) := by rw [List.getElem?_map, hr]; rfl
      have hw := wrapS (k := k) (by omega)
      have hround := hJ _ _ ⟨k + 1, hlt, rfl, rfl⟩
      have hmeas : q.rs.length - (k + 1) < q.rs.length - k := by omega
      clear hJ
      simp [-getElem?_pos, -List.getElem?_map, -decide_eq_true_eq, smC, Qu.cells, hlt, hg]
      refine ltS_seq (smJ q k r) ?_ ?_
      · simp [-getElem?_pos, -List.getElem?_map, -decide_eq_true_eq, ltS_alt, ltS_no, hg]
        repeat' (with_reducible refine And.intro ?_ ?_)
        all_goals
          refine Sub.mk ?_ ?_
          · simp [smJ, smC, Rq.pv, onP]
          · simp [smJ, smC, Rq.cells, onP, Qu.cells]
      · simp [-getElem?_pos, -List.getElem?_map, ltS_alt, ltS_no, smJ, smC, Rq.pv, Rq.cells, Qu.cells, onP]
        refine awp_loopS (fun n τ => ∃ i : Nat, i ≤ r.on.length ∧ n = r.on.length - i ∧ τ = smD q k r i) ⟨r.on.length, smD q k r 0, Sub.mk (by simp [smC, smD]) (by simp [smC, smD, Rq.cells, Qu.cells, onP]), 0, Nat.zero_le _, rfl, rfl⟩ ?_
        rintro J hJ n τ ⟨i, hi, rfl, rfl⟩
        by_cases hlt2 : i < r.on.length
        · obtain ⟨x, hx⟩ : ∃ x, r.on[i]? = some x := ⟨r.on[i], List.getElem?_eq_getElem hlt2⟩
          have hgx : (r.on.map PV.bool)[i]? = some (.bool x) := by rw [List.getElem?_map, hx]; rfl
          have hwi := wrapS (k := i) (by omega)
          have hround2 := hJ _ _ ⟨i + 1, hlt2, rfl, rfl⟩
          have hmeas2 : r.on.length - (i + 1) < r.on.length - i := by omega
          clear hJ
          simp [-getElem?_pos, -List.getElem?_map, -decide_eq_true_eq, smC, smD, Rq.cells, onP, Qu.cells, hgx, hlt2, hwi]
          refine ⟨_, _, hmeas2, Sub.mk ?_ ?_, hround2⟩
          · simp [smC, smD]
          · simp [smC, smD, Rq.cells, onP, Qu.cells]
        · have he : i = r.on.length := by omega
          subst he
          clear hJ
          simp [-getElem?_pos, -List.getElem?_map, -decide_eq_true_eq, smC, smD, Rq.cells, onP, Qu.cells, hw]
          refine ⟨_, _, hmeas, Sub.mk ?_ ?_, hround⟩
          · simp [smC]
          · simp [smC, Qu.cells]
    · have he : k = q.rs.length := by omega
      subst he
      clear hJ
      simp [-getElem?_pos, -List.getElem?_map, -decide_eq_true_eq, smC, Qu.cells]
      rw [← hR]
      simp
end Go.Proofs.Ytohhjnpiiackjaa

/-! Layer 10 (queue): the law QueueRests. -/
namespace Go.Proofs.Ytohhjnpiiackjaa
open Go.RowKit

set_option maxRecDepth 10000
set_option linter.unusedSimpArgs false

attribute [local simp] AS.exp expG Box.ren AV.map AV.mapL outsOk noRet Site.isRet Box.allS AV.allS AV.allSL retB dropL AS.adds renL outG outOk lentBx inG fnOf lookA List.findIdx?_cons
attribute [local simp] Box.purge Site.isLoc
attribute [local simp] retFz frzL AS.frz AV.frz AV.frzL Box.frz AS.tidy AS.frzC
def rsA (q : Qu) (p : List (List Int)) (fr : Int) (ls : List Ls) (X : Qu) (e w : Int) (k : Nat) : AS := ⟨[(12, .pv (.int .i64 k)), (1, .pv (planP p)), (2, .pv (.int .i64 fr)), (3, .pv (lossP ls)), (4, .ptr (.loc 4 0) 0), (9, .ptr (.loc 9 0) 0), (10, .pv (.int .i64 e)), (11, .pv (.int .i64 w))], [(.loc 4 0, .cells q.cells), (.loc 9 0, .cells X.cells)]⟩
def rsV (q : Qu) (p : List (List Int)) (fr : Nat) (ls : List Ls) (k : Nat) : List PV := (List.range q.rs.length).map fun i => if i < k then (q.rstRun fr (fun i => ranP i ls p (min fr p.length)) i).pv else (q.run i).pv
theorem rsV_len {q : Qu} {p : List (List Int)} {fr : Nat} {ls : List Ls} {k : Nat} : (rsV q p fr ls k).length = q.rs.length := by simp [rsV]
theorem rsV_0 {q : Qu} {p : List (List Int)} {fr : Nat} {ls : List Ls} : rsV q p fr ls 0 = q.rs.map Rq.pv := by
  apply List.ext_getElem?
  intro i
  by_cases hi : i < q.rs.length
  · simp [rsV, hi, Qu.run]
  · rw [List.getElem?_eq_none (by rw [rsV_len]; omega), List.getElem?_eq_none (by simp; omega)]
theorem rsV_n {q : Qu} {p : List (List Int)} {fr : Nat} {ls : List Ls} : rsV q p fr ls q.rs.length = (q.rest p fr ls).rs.map Rq.pv := by
  apply List.ext_getElem?
  intro i
  by_cases hi : i < q.rs.length
  · simp [rsV, hi, Qu.rest]
  · rw [List.getElem?_eq_none (by rw [rsV_len]; omega), List.getElem?_eq_none (by simp [Qu.rest]; omega)]
theorem rsV_set {q : Qu} {p : List (List Int)} {fr : Nat} {ls : List Ls} {k : Nat} : (rsV q p fr ls k).set k (q.rstRun fr (fun i => ranP i ls p (min fr p.length)) k).pv = rsV q p fr ls (k + 1) := by
  apply List.ext_getElem?
  intro i
  by_cases hi : i < q.rs.length
  · by_cases e : i = k
    · subst e
      rw [List.getElem?_set_self (by rw [rsV_len]; exact hi)]
      simp [rsV, hi]
    · rw [List.getElem?_set_ne (fun e' => e e'.symm)]
      have : i < k ↔ i < k + 1 := by omega
      simp [rsV, hi, this]
  · rw [List.getElem?_eq_none (by rw [List.length_set, rsV_len]; omega), List.getElem?_eq_none (by rw [rsV_len]; omega)]
def rsB (q : Qu) (p : List (List Int)) (fr : Nat) (ls : List Ls) (X : Qu) (k : Nat) : AS := ⟨[(14, .pv (.int .i64 k)), (1, .pv (planP p)), (2, .pv (.int .i64 fr)), (3, .pv (lossP ls)), (9, .ptr (.loc 9 0) 0), (10, .pv (.int .i64 0)), (13, .ptr (.loc 13 0) 0)], [(.loc 9 0, .cells X.cells), (.loc 13 0, .cells [.vec (.loc 105 0) 1 0 q.ms.length, .vec (.loc 105 1) 3 0 q.rs.length]), (.loc 105 0, .arr 84 1 (q.ms.map rgsP)), (.loc 105 1, .arr 70 3 (rsV q p fr ls k))]⟩
set_option maxHeartbeats 16000000 in
theorem rests_law (q : Qu) (p : List (List Int)) (fr : Int) (ls : List Ls) : Gives Try.prog 7 [q.pv, planP p, .int .i64 fr, lossP ls] (.bool true) := by
  refine calls_of_awpS mixed L7_ok (Nat.le_of_ble_eq_true rfl) ?_
  generalize hRR : (fun (r : AV) (B : List (Site × Box)) => r = .pv (.bool true) ∧ B = []) = RR
  simp [-getElem?_pos, L7, Qu.pv]
  refine call_gives (k := 0) (fs := []) (xs := [q.pv]) (cs := []) rfl rfl (thin_c q) rfl ?_
  by_cases ht : q.thin = true
  case neg =>
    simp [-getElem?_pos, ht]
    refine call_gives (k := 0) (fs := []) (xs := []) (cs := []) rfl rfl wakes_c rfl ?_
    simp [-getElem?_pos]
    rw [← hRR]; simp
  have hs := Qu.small_of ht
  have h1 := hs.m
  have h2 := hs.r
  have h3 : ∀ l ∈ q.ms, l.length ≤ 1000 := fun l h => by have := hs.s l h; omega
  have h36 : ∀ l ∈ q.ms, l.length ≤ 1000000 := fun l h => by have := hs.s l h; omega
  have h4 : ∀ r ∈ q.rs, r.on.length ≤ 1000 := fun l h => by have := hs.f l h; omega
  simp [-getElem?_pos, ht]
  refine call_gives (k := 0) (fs := []) (xs := [planP p]) (cs := []) rfl rfl (short_c p) rfl ?_
  by_cases hp : shortP p = true
  case neg =>
    simp [-getElem?_pos, hp]
    refine call_gives (k := 0) (fs := []) (xs := []) (cs := []) rfl rfl wakes_c rfl ?_
    simp [-getElem?_pos]
    rw [← hRR]; simp
  obtain ⟨p1, p2⟩ := short_of hp
  have p3 : ∀ l ∈ p, l.length ≤ 1000 := fun l h => by have := p2 l h; omega
  by_cases hl : 20 < ls.length
  · have hl' : (20 : Int) < ls.length := by omega
    simp [-getElem?_pos, hp, lossP, hl, hl']
    refine call_gives (k := 0) (fs := []) (xs := []) (cs := []) rfl rfl wakes_c rfl ?_
    simp [-getElem?_pos]
    rw [← hRR]; simp
  have hl' : ¬ (20 : Int) < ls.length := by omega
  have hls : ls.length ≤ 1000 := by omega
  have hqc := queue_c q (by omega) (by omega) h3 h4
  obtain ⟨X, hX⟩ : ∃ z, z = (if q.restErr p fr ls = 0 then q.rest p fr.toNat ls else ⟨[], []⟩) := ⟨_, rfl⟩
  have hrest : Gives Try.prog 39 [q.pv, planP p, .int .i64 fr, lossP ls] (.tup [X.pv, .int .i64 (q.restErr p fr ls)]) := by
    by_cases he : q.restErr p fr ls = 0
    · rw [if_pos he] at hX
      have he' := he
      unfold Qu.restErr at he'
      split at he'
      · contradiction
      · rename_i hc
        split at he'
        · rename_i hh
          obtain ⟨k1, k2, k3⟩ := hh
          simp [manyB] at k3
          have hc' : q.check = 0 := by simpa using hc
          have := restR_c q (Qu.ok_of hc') hc' p k1 fr.toNat (by omega) ls hls k2
          rw [show ((fr.toNat : Nat) : Int) = fr by omega] at this
          rw [he, hX]
          exact this
        · cases he'
    · have := restE_c q hs p (by omega) p3 fr ls hls he
      unfold Qu.restP at this
      rw [← hX] at this
      exact this
  obtain ⟨E, hE⟩ : ∃ z, z = q.restErr p fr ls := ⟨_, rfl⟩
  rw [← hE] at hX hrest
  simp [-getElem?_pos, hp, lossP, hl, hl']
  refine .inl (call_pv [] (fs := []) (xs := [q.pv]) (cs := []) rfl rfl hqc ?_)
  simp [-getElem?_pos, frzsL]
  refine .inl (call_pv [] (fs := []) (xs := [planP p]) (cs := []) rfl rfl (rows_c p (by omega) p3) ?_)
  simp [-getElem?_pos, frzsL]
  refine .inl (call_pv [] (fs := []) (xs := [lossP ls]) (cs := []) rfl rfl (losses_c ls hls) ?_)
  simp [-getElem?_pos, frzsL]
  refine .inl (call_pv [] (fs := []) (xs := [q.pv, planP p, .int .i64 fr, lossP ls]) (cs := []) rfl rfl hrest ?_)
  have hXp : X.pv = .agg [.lst false 1 (X.ms.map rgsP), .lst false 3 (X.rs.map Rq.pv)] := rfl
  rw [hXp]
  simp [-getElem?_pos, frzsL]
  refine call_gives (k := 0) (fs := []) (xs := [q.pv]) (cs := []) rfl rfl (lfault_c q (by omega) (by omega) h36) rfl ?_
  clear hrest hXp
  have hE' := hE
  unfold Qu.restErr at hE'
  have START : ∃ w0 : Int, ((w0 = E ∧ E ≠ 0) ∨ (w0 = 0 ∧ E = if ls.all q.lossB = true then 0 else 2)) ∧ (q.check ≠ 0 ∧ w0 = q.check ∨ q.check = 0 ∧ q.right p = false ∧ w0 = 2 ∨ q.check = 0 ∧ q.right p = true ∧ manyB fr = false ∧ w0 = 2 ∨ q.check = 0 ∧ q.right p = true ∧ manyB fr = true ∧ w0 = 0) := by
    by_cases hc : q.check = 0
    · cases hr : q.right p
      · exact ⟨2, .inl (by rw [hE']; simp [hc, hr]), .inr (.inl ⟨hc, rfl, rfl⟩)⟩
      · cases hm : manyB fr
        · exact ⟨2, .inl (by rw [hE']; simp [hc, hr, hm]), .inr (.inr (.inl ⟨hc, rfl, rfl, rfl⟩))⟩
        · exact ⟨0, .inr ⟨rfl, by rw [hE']; simp [hc, hr, hm]⟩, .inr (.inr (.inr ⟨hc, rfl, rfl, rfl⟩))⟩
    · exact ⟨q.check, .inl (by rw [hE']; simp [hc]), .inl ⟨hc, rfl⟩⟩
  obtain ⟨w0, hinv, hst⟩ := START
  have hin := in_c fr 0 40
  have hma : (decide ((0 : Int) ≤ fr) && decide (fr ≤ 40)) = manyB fr := rfl
  rw [hma] at hin
  have hfin : E = 0 → q.check = 0 ∧ q.right p = true ∧ manyB fr = true := by
    intro h0
    rcases hst with ⟨k1, k2⟩ | ⟨k1, k2, k3⟩ | ⟨k1, k2, k3, k4⟩ | ⟨k1, k2, k3, k4⟩
    · rcases hinv with ⟨j1, j2⟩ | ⟨j1, j2⟩
      · exact absurd h0 j2
      · rw [j1] at k2; exact absurd k2.symm k1
    · rcases hinv with ⟨j1, j2⟩ | ⟨j1, j2⟩
      · exact absurd h0 j2
      · rw [j1] at k3; cases k3
    · rcases hinv with ⟨j1, j2⟩ | ⟨j1, j2⟩
      · exact absurd h0 j2
      · rw [j1] at k4; cases k4
    · exact ⟨k1, k2, k3⟩
  rcases hst with ⟨k1, kw⟩ | ⟨k1, k2, kw⟩ | ⟨k1, k2, k3, kw⟩ | ⟨k1, k2, k3, kw⟩
  case' neg.inr.inr.inr =>
    simp [-getElem?_pos, k1]
    refine call_gives (k := 0) (fs := []) (xs := [q.pv, planP p]) (cs := []) rfl rfl (isplan_c q (Qu.ok_of k1) p (by omega) p3) rfl ?_
    simp [-getElem?_pos, k2]
    refine call_gives (k := 0) (fs := []) (xs := [.int .i64 fr, .int .i64 0, .int .i64 40]) (cs := []) rfl rfl hin rfl ?_
    simp [-getElem?_pos, k3]
  case' neg.inr.inr.inl =>
    simp [-getElem?_pos, k1]
    refine call_gives (k := 0) (fs := []) (xs := [q.pv, planP p]) (cs := []) rfl rfl (isplan_c q (Qu.ok_of k1) p (by omega) p3) rfl ?_
    simp [-getElem?_pos, k2]
    refine call_gives (k := 0) (fs := []) (xs := [.int .i64 fr, .int .i64 0, .int .i64 40]) (cs := []) rfl rfl hin rfl ?_
    simp [-getElem?_pos, k3]
  case' neg.inr.inl =>
    simp [-getElem?_pos, k1]
    refine call_gives (k := 0) (fs := []) (xs := [q.pv, planP p]) (cs := []) rfl rfl (isplan_c q (Qu.ok_of k1) p (by omega) p3) rfl ?_
    simp [-getElem?_pos, k2]
  case' neg.inl =>
    simp [-getElem?_pos, k1]
  all_goals
    refine awp_loopS (fun n τ => ∃ (w : Int) (k : Nat), n = ls.length - k ∧ ((w = E ∧ E ≠ 0) ∨ (w = 0 ∧ k ≤ ls.length ∧ (ls.take k).all q.lossB = true ∧ E = if ls.all q.lossB = true then 0 else 2)) ∧ τ = rsA q p fr ls X E w k)
      ⟨ls.length, rsA q p fr ls X E w0 0, Sub.mk (by simp [rsA, kw, lossP]) (by simp [rsA, Qu.cells]), w0, 0, rfl, hinv.elim .inl (fun h => .inr ⟨h.1, Nat.zero_le _, rfl, h.2⟩), rfl⟩ ?_
    clear hinv kw k1
    rintro J hJ n τ ⟨w, k, rfl, hor, rfl⟩
    rcases hor with ⟨rfl, hE0⟩ | ⟨rfl, hk, hall, hEE⟩
    · clear hJ
      have hX0 : X = ⟨[], []⟩ := by rw [hX, if_neg hE0]
      subst hX0
      have hk2 : k < ls.length ∨ ¬ k < ls.length := by omega
      rcases hk2 with hlt | hlt
      · simp [-getElem?_pos, rsA, lossP, hlt, hE0, Qu.cells]
        refine call_gives (k := 0) (fs := []) (xs := []) (cs := []) rfl rfl wakes_c rfl ?_
        simp [-getElem?_pos]
        rw [← hRR]; exact ⟨rfl, rfl⟩
      · simp [-getElem?_pos, rsA, lossP, hlt, hE0, Qu.cells]
        refine call_gives (k := 0) (fs := []) (xs := []) (cs := []) rfl rfl wakes_c rfl ?_
        simp [-getElem?_pos]
        rw [← hRR]; exact ⟨rfl, rfl⟩
    · by_cases hlt : k < ls.length
      · obtain ⟨x, hx⟩ : ∃ x, ls[k]? = some x := ⟨ls[k], List.getElem?_eq_getElem hlt⟩
        have hg : (ls.map Ls.pv)[k]? = some (.agg [.int .i64 x.m, .int .i64 x.h]) := by rw [List.getElem?_map, hx]; rfl
        have hw := wrapS (k := k) (by omega)
        have hmeas : ls.length - (k + 1) < ls.length - k := by omega
        have hwm : IntKind.i64.wrap ((q.ms.length : Int) - 1) = (q.ms.length : Int) - 1 := wrap64 (by omega)
        have hxa : ls.all q.lossB = true → q.lossB x = true := fun h => (List.all_eq_true.1 h) x (List.mem_of_getElem? hx)
        have htk : (ls.take (k + 1)).all q.lossB = (q.lossB x && (ls.take k).all q.lossB) := by rw [take_next hx, List.all_append]; simp [Bool.and_comm]
        have hok : q.lossB x = true → J (ls.length - (k + 1)) (rsA q p fr ls X E 0 (k + 1)) := fun h => hJ _ _ ⟨0, k + 1, rfl, .inr ⟨rfl, hlt, by rw [htk, h, hall]; rfl, hEE⟩, rfl⟩
        have hno : q.lossB x = false → J (ls.length - (k + 1)) (rsA q p fr ls X E 2 (k + 1)) := fun h => by
          have hf : ls.all q.lossB = false := by
            cases hh : ls.all q.lossB
            · rfl
            · rw [hxa hh] at h; cases h
          have hE2 : E = 2 := by rw [hEE, hf]; rfl
          exact hJ _ _ ⟨2, k + 1, rfl, .inl ⟨hE2.symm, by omega⟩, rfl⟩
        have hL : q.lossB x = ((decide (0 ≤ x.m) && decide (x.m ≤ (q.ms.length : Int) - 1)) && (decide (0 ≤ x.h) && decide (x.h ≤ 39))) := rfl
        have hi1 := in_c x.m 0 ((q.ms.length : Int) - 1)
        have hi2 := in_c x.h 0 39
        rw [hL] at hok hno
        clear hJ hxa htk hL
        generalize hA : (decide (0 ≤ x.m) && decide (x.m ≤ (q.ms.length : Int) - 1)) = A at *
        generalize hB : (decide (0 ≤ x.h) && decide (x.h ≤ 39)) = B at *
        simp [-getElem?_pos, -List.getElem?_map, -decide_eq_true_eq, rsA, lossP, hlt, hg, hwm, Qu.cells]
        refine call_give (k := 0) (fs := []) (xs := [.int .i64 x.m, .int .i64 0, .int .i64 ((q.ms.length : Int) - 1)]) (cs := []) rfl rfl hi1 rfl ?_
        clear hA hB
        cases A
        · have hround := hno rfl
          simp [-getElem?_pos, -List.getElem?_map, -decide_eq_true_eq, hw]
          refine ⟨_, _, hmeas, Sub.mk ?_ ?_, hround⟩
          · simp [rsA, lossP]
          · simp [rsA, Qu.cells]
        · simp [-getElem?_pos, -List.getElem?_map, -decide_eq_true_eq, hg]
          refine call_gives (k := 0) (fs := []) (xs := [.int .i64 x.h, .int .i64 0, .int .i64 39]) (cs := []) rfl rfl hi2 rfl ?_
          cases B
          · have hround := hno rfl
            simp [-getElem?_pos, -List.getElem?_map, -decide_eq_true_eq, hw]
            refine ⟨_, _, hmeas, Sub.mk ?_ ?_, hround⟩
            · simp [rsA, lossP]
            · simp [rsA, Qu.cells]
          · have hround := hok rfl
            simp [-getElem?_pos, -List.getElem?_map, -decide_eq_true_eq, hw]
            refine ⟨_, _, hmeas, Sub.mk ?_ ?_, hround⟩
            · simp [rsA, lossP]
            · simp [rsA, Qu.cells]
      · have he : k = ls.length := by omega
        subst he
        have hall' : ls.all q.lossB = true := by rw [List.take_of_length_le (Nat.le_refl _)] at hall; exact hall
        have hE0 : E = 0 := by rw [hEE, hall']; rfl
        obtain ⟨hc, hr, hm⟩ := hfin hE0
        clear hJ
        subst hE0
        rw [if_pos rfl] at hX
        obtain ⟨F, hF⟩ : ∃ F : Nat, fr = F := ⟨fr.toNat, by simp [manyB] at hm; omega⟩
        subst hF
        rw [Int.toNat_natCast] at hX
        have hq := Qu.ok_of hc
        have hXms : X.ms = q.ms := by rw [hX]; rfl
        have hXrs : X.rs.map Rq.pv = rsV q p F ls q.rs.length := by rw [rsV_n, hX]
        have hXl : X.rs.length = q.rs.length := by rw [hX]; simp [Qu.rest]
        have hXs : X.small := ⟨by rw [hXms]; omega, by rw [hXl]; omega, fun l h => hs.s l (by rw [hXms] at h; exact h), fun r h => by
          rw [hX] at h
          simp only [Qu.rest, List.mem_map, List.mem_range] at h
          obtain ⟨i, hi, rfl⟩ := h
          have : (q.run i).on.length ≤ 9 := hs.f _ (by unfold Qu.run; rw [List.getElem?_eq_getElem hi]; exact List.getElem_mem _)
          exact this⟩
        have hbo := back_o q (by omega) (by omega) h3 h4
        have hbX := back_c X (by have := hXs.m; omega) (by have := hXs.r; omega) (fun l h => by have := hXs.s l h; omega) (fun r h => by have := hXs.f r h; omega)
        have hsm := same_c X hXs
        have hran := fun (k : Nat) => ran_c p (by omega) p3 (k : Int) F ls hls
        have hrb := fun (k : Nat) => ranP_bd p3 (k : Int) ls (min F p.length)
        clear hEE hall hlt hin hma hm hr hE' hE hfin hk
        simp [-getElem?_pos, rsA, lossP, Qu.cells]
        refine .inl (call_pv [] (fs := []) (xs := [q.pv]) (cs := []) rfl rfl hqc ?_)
        simp [-getElem?_pos, frzsL]
        refine call_lent (as' := [.pv q.pv]) (B := []) (fs := []) (cs := []) 105 [] ?_ rfl rfl rfl ?_ ?_ hbo ?_
        · rfl
        · rfl
        · rfl
        rintro x B ⟨rfl, rfl⟩
        refine ⟨rfl, by simp, ?_⟩
        simp [-getElem?_pos]
        refine awp_loopS (fun n τ => ∃ k : Nat, k ≤ q.rs.length ∧ n = q.rs.length - k ∧ τ = rsB q p F ls X k) ⟨q.rs.length, rsB q p F ls X 0, Sub.mk (by simp [rsB, lossP]) (by simp [rsB, Qu.cells, rsV_0]), 0, Nat.zero_le _, rfl, rfl⟩ ?_
        rintro J hJ n τ ⟨k, hk, rfl, rfl⟩
        by_cases hlt : k < q.rs.length
        · have hVl := rsV_len (q := q) (p := p) (fr := F) (ls := ls) (k := k)
          have hgv : (rsV q p F ls k)[k]? = some (.agg [.int .i64 (q.run k).hours, .int .i64 (q.run k).ready, onP (q.run k).on]) := by simp [rsV, hlt, Rq.pv]
          have hset := rsV_set (q := q) (p := p) (fr := F) (ls := ls) (k := k)
          have hrk : ((q.rstRun F (fun i => ranP i ls p (min F p.length)) k).pv) = .agg [.int .i64 ((q.run k).hours - (ranP k ls p (min F p.length) : Nat)), .int .i64 (if (F : Int) > (q.run k).ready then F else (q.run k).ready), onP (q.run k).on] := rfl
          rw [hrk] at hset
          have hw := wrapS (k := k) (by omega)
          have hmeas : q.rs.length - (k + 1) < q.rs.length - k := by omega
          have hround := hJ _ _ ⟨k + 1, hlt, rfl, rfl⟩
          have hran1 := hran k
          have hrb1 := hrb k
          have hhr := hq.h (q.run k) (by unfold Qu.run; rw [List.getElem?_eq_getElem hlt]; exact List.getElem_mem _)
          have hmn : min F p.length ≤ 45 := by omega
          clear hJ hran hrb
          generalize ranP (k : Int) ls p (min F p.length) = RN at *
          have hwr : IntKind.i64.wrap ((q.run k).hours - RN) = (q.run k).hours - RN := wrap64 (by omega)
          generalize hV : rsV q p F ls k = V at *
          simp [-getElem?_pos, -List.getElem?_map, -decide_eq_true_eq, rsB, lossP, Qu.cells, hlt, hgv, hV, nblt]
          refine call_give (k := 0) (fs := []) (xs := [planP p, .int .i64 k, .int .i64 F, lossP ls]) (cs := []) rfl rfl hran1 rfl ?_
          simp [-getElem?_pos, -List.getElem?_map, -decide_eq_true_eq, hlt, hgv, hVl, nblt, hwr, setAt, onP, hw]
          rw [show (if (F : Int) > (q.run k).ready then (F : Int) else (q.run k).ready) = if (q.run k).ready < (F : Int) then (F : Int) else (q.run k).ready from rfl] at hset
          refine ⟨_, _, hmeas, Sub.mk ?_ ?_, hround⟩
          · simp [rsB, lossP]
          · simp [rsB, Qu.cells, ← hset, onP]
        · have he : k = q.rs.length := by omega
          subst he
          clear hJ hran hrb
          simp [-getElem?_pos, -List.getElem?_map, -decide_eq_true_eq, rsB, lossP, Qu.cells]
          refine call_pv [] (fs := []) (xs := [X.pv]) (cs := []) rfl rfl hbX ?_
          have ht3 : (q.ms.map rgsP).take q.ms.length = q.ms.map rgsP := List.take_of_length_le (by simp)
          have ht4 : (rsV q p F ls q.rs.length).take q.rs.length = rsV q p F ls q.rs.length := List.take_of_length_le (by rw [rsV_len]; omega)
          simp [-getElem?_pos, frzsL]
          refine .inl (call_pv [.loc 105 0, .loc 105 1] (fs := []) (xs := [X.pv, X.pv]) (cs := []) rfl ?_ hsm ?_)
          · simp [frzsL, Qu.pv, ht3, ht4, hXms, hXrs, rsV_len]
          simp [-getElem?_pos, frzsL]
          refine .inl (call_pv [] (fs := []) (xs := []) (cs := []) rfl rfl wakes_c ?_)
          simp [-getElem?_pos, frzsL]
          rw [← hRR]; exact ⟨rfl, rfl⟩
end Go.Proofs.Ytohhjnpiiackjaa
