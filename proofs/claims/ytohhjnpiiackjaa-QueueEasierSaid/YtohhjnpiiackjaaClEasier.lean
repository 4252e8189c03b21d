/- Contracts of layer 10's law (queue): Back, of which one run's list is handed out as a block of its own. (Several texts in one.) -/
import Derived.Test.YtohhjnpiiackjaaBaseD
import Derived.Test.YtohhjnpiiackjaaQuF
import Derived.Test.YtohhjnpiiackjaaQuM
import Derived.Test.YtohhjnpiiackjaaRows
import Derived.WalkKit
import Derived.ProofKit
import Derived.OpenShut
import Derived.Test.YtohhjnpiiackjaaQuE
set_option linter.unusedVariables false
set_option linter.unusedSimpArgs false
/-! Contracts of layer 10's law (queue): Back, of which one run's list is handed out as a block of its own. -/
namespace Go.Proofs.Ytohhjnpiiackjaa
open Go.RowKit
attribute [local simp] Box.purge Site.isLoc

set_option maxRecDepth 10000
set_option linter.unusedSimpArgs false

attribute [local simp] AS.exp expG Box.ren AV.map AV.mapL outsOk noRet Site.isRet Box.allS AV.allS AV.allSL retB dropL AS.adds renL outG outOk lentBx inG fnOf lookA List.findIdx?_cons
attribute [local simp] retFz frzL AS.frz AV.frz AV.frzL Box.frz AS.tidy AS.frzC
def Rq.raw (r : Rq) (D : Value) : PV := .agg [.int .i64 r.hours, .int .i64 r.ready, .raw D]
def bkB (q : Qu) (k0 : Nat) (r0 : Rq) (D : Value) (k : Nat) : AS := ⟨[(1, .ptr (.loc 1 0) 0), (2, .ptr (.loc 2 0) 0), (3, .ptr (.loc 3 0) 0), (7, .pv (.int .i64 k))], [(.loc 78 0, .arr 70 3 (((q.rs.map Rq.pv).set k0 (r0.raw D)).take k)), (.loc 52 0, .arr 84 1 (q.ms.map rgsP)), (.loc 3 0, .cells [.vec (.loc 52 0) 1 0 q.ms.length, .vec (.loc 78 0) 3 0 k]), (.loc 1 0, .cells q.cells), (.loc 2 0, .cells [.pv (.emp (some true)), .pv (.emp (some true))]), (.loc 200 0, .ext (lkE D 4 1 (r0.on.map PV.bool)))]⟩
set_option maxHeartbeats 16000000 in
theorem back_k (q : Qu) (h1 : q.ms.length ≤ 1000) (h2 : q.rs.length ≤ 1000) (h3 : ∀ l ∈ q.ms, l.length ≤ 1000) (h4 : ∀ r ∈ q.rs, r.on.length ≤ 1000) {k0 : Nat} {r0 : Rq} (hr0 : q.rs[k0]? = some r0) (hne0 : r0.on ≠ []) :
    CallsA Try.prog 41 ([q.pv].map .pv) [] (fun r B => r = .agg [.vec (.ret 0) 1 0 q.ms.length, .vec (.ret 1) 3 0 q.rs.length] ∧ ∃ D, B = [(.ret 0, .arr 84 1 (q.ms.map rgsP)), (.ret 1, .arr 70 3 ((q.rs.map Rq.pv).set k0 (r0.raw D))), (.ret 2, .ext (lkE D 4 1 (r0.on.map PV.bool)))]) := by
  have hk0 : k0 < q.rs.length := (List.getElem?_eq_some_iff.1 hr0).1
  refine calls_of_awpBW [.loc 52 0, .loc 78 0, .loc 200 0] mixed L41_ok (Nat.le_of_ble_eq_true rfl) ?_
  generalize hR : (fun (r : AV) (B : List (Site × Box)) => r = .agg [.vec (.ret 0) 1 0 q.ms.length, .vec (.ret 1) 3 0 q.rs.length] ∧ ∃ D, B = [(.ret 0, .arr 84 1 (q.ms.map rgsP)), (.ret 1, .arr 70 3 ((q.rs.map Rq.pv).set k0 (r0.raw D))), (.ret 2, .ext (lkE D 4 1 (r0.on.map PV.bool)))]) = R
  simp only [L41]
  refine awp_seqS ?_
  simp [-getElem?_pos, Qu.pv]
  refine awp_seqS ?_
  simp [-getElem?_pos, Qu.pv]
  refine awp_seqS ?_
  simp [-getElem?_pos, Qu.pv]
  refine awp_loopS (fun n τ => ∃ k : Nat, k ≤ q.ms.length ∧ n = q.ms.length - k ∧ τ = bkK q k) ⟨q.ms.length, bkK q 0, Sub.trans' (Sub.mk (by simp [bkK, AS.vecC]) (by simp [bkK, AS.vecC, Qu.cells])) (vecC 52 84 1 (s := .loc 3 0) (cs := [.pv (.emp (some true)), .pv (.emp (some true))]) 0 rfl rfl (by decide)), 0, by omega, rfl, rfl⟩ ?_
  rintro J hJ n τ ⟨k, hk, rfl, rfl⟩
  by_cases hlt : k < q.ms.length
  · obtain ⟨l, hl⟩ : ∃ l, q.ms[k]? = some l := ⟨q.ms[k], List.getElem?_eq_getElem hlt⟩
    have hll := h3 l (List.mem_of_getElem? hl)
    have hg : (q.ms.map rgsP)[k]? = some (.lst false 2 (l.map Rg.pv)) := by rw [List.getElem?_map, hl]; rfl
    have hw : IntKind.i64.wrap ((k : Int) + 1) = ((k + 1 : Nat) : Int) := by rw [wrap64 (by omega)]; omega
    have hround := hJ _ _ ⟨k + 1, hlt, rfl, rfl⟩
    have htk : (q.ms.take (k + 1)).map rgsP = (q.ms.take k).map rgsP ++ [.lst false 2 (l.map Rg.pv)] := by rw [List.take_add_one, hl]; simp [rgsP]
    have hk6 : k + 1 ≤ 1000000 := by omega
    have htl : ((q.ms.take k).map rgsP).length = k := by rw [List.length_map, List.length_take]; omega
    have hmeas : q.ms.length - (k + 1) < q.ms.length - k := by omega
    clear hJ
    generalize hTL : (q.ms.take k).map rgsP = TL at *
    simp [-getElem?_pos, -List.getElem?_map, bkK, Qu.cells, hlt, hTL]
    refine awp_loopS (fun n τ => ∃ i : Nat, i ≤ l.length ∧ n = l.length - i ∧ τ = bkI q k l i) ⟨l.length, bkI q k l 0, Sub.trans' (Sub.mk (by simp [bkI, bkK, AS.vecT]) (by simp [bkI, bkK, AS.vecT, Qu.cells, hTL])) (vecT 47 101 2 5 rfl (by decide)), 0, by omega, rfl, rfl⟩ ?_
    rintro J2 hJ2 n τ ⟨i, hi, rfl, rfl⟩
    by_cases hlt2 : i < l.length
    · obtain ⟨r, hr⟩ : ∃ r, l[i]? = some r := ⟨l[i], List.getElem?_eq_getElem hlt2⟩
      have hgr : (l.map Rg.pv)[i]? = some (.agg [.int .i64 r.lo, .int .i64 r.hi]) := by rw [List.getElem?_map, hr]; rfl
      have hwi : IntKind.i64.wrap ((i : Int) + 1) = ((i + 1 : Nat) : Int) := by rw [wrap64 (by omega)]; omega
      have hround2 := hJ2 _ _ ⟨i + 1, hlt2, rfl, rfl⟩
      have hti : (l.take (i + 1)).map Rg.pv = (l.take i).map Rg.pv ++ [.agg [.int .i64 r.lo, .int .i64 r.hi]] := by rw [List.take_add_one, hr]; simp [Rg.pv]
      have hi6 : i + 1 ≤ 1000000 := by omega
      have htil : ((l.take i).map Rg.pv).length = i := by rw [List.length_map, List.length_take]; omega
      have hmeas2 : l.length - (i + 1) < l.length - i := by omega
      clear hJ2
      generalize hTI : (l.take i).map Rg.pv = TI at *
      simp [-getElem?_pos, -List.getElem?_map, -decide_eq_true_eq, bkI, bkK, Qu.cells, hlt, hlt2, hg, hgr, nble, nblt, hwi, hi6, hTI, htil, hTL]
      refine ⟨_, _, hmeas2, Sub.mk ?_ ?_, hround2⟩
      · simp [bkI, bkK]
      · simp [bkI, bkK, Qu.cells, -List.map_take, -List.take_succ_cons, hti, hTL]
    · have he : i = l.length := by omega
      subst he
      clear hJ2
      have hlm : (l.map Rg.pv).take l.length = l.map Rg.pv := List.take_of_length_le (by simp)
      simp [-getElem?_pos, -List.getElem?_map, -decide_eq_true_eq, bkI, bkK, Qu.cells, hlt, hg, nble, nblt, hlm, hw, hk6, hTL, htl]
      refine ⟨_, _, hmeas, Sub.mk ?_ ?_, hround⟩
      · simp [bkK]
      · simp [bkK, Qu.cells, -List.map_take, -List.take_succ_cons, htk, hTL]
  · have he : k = q.ms.length := by omega
    subst he
    clear hJ
    simp [-getElem?_pos, -List.getElem?_map, -decide_eq_true_eq, bkK, Qu.cells]
    refine awp_seqA (awp_seqS ?_)
    simp [-getElem?_pos, -List.getElem?_map, -decide_eq_true_eq, bkK, Qu.cells]
    refine awp_blk (awp_loop (fun n τ => ∃ k : Nat, k ≤ q.rs.length ∧ n = q.rs.length - k ∧ (k ≤ k0 ∧ τ = bkR q k ∨ k0 < k ∧ ∃ D, τ = bkB q k0 r0 D k)) ⟨q.rs.length, bkR q 0, Sub.trans' (Sub.mk (by simp [bkR, AS.vecC]) (by simp [bkR, AS.vecC, Qu.cells])) (vecC 78 70 3 (s := .loc 3 0) (cs := [.vec (.loc 52 0) 1 0 q.ms.length, .pv (.emp (some true))]) 1 rfl rfl (by decide)), 0, by omega, rfl, .inl ⟨Nat.zero_le _, rfl⟩⟩ ?_)
    rintro J hJ n τ ⟨k, hk, rfl, hτ⟩
    have hw : IntKind.i64.wrap ((k : Int) + 1) = ((k + 1 : Nat) : Int) := by rw [wrap64 (by omega)]; omega
    have hk6 : k + 1 ≤ 1000000 := by omega
    rcases hτ with ⟨hkk, rfl⟩ | ⟨hkk, D, rfl⟩
    · have hlt : k < q.rs.length := by omega
      have hmeas : q.rs.length - (k + 1) < q.rs.length - k := by omega
      obtain ⟨r, hr⟩ : ∃ r, q.rs[k]? = some r := ⟨q.rs[k], List.getElem?_eq_getElem hlt⟩
      have hro := h4 r (List.mem_of_getElem? hr)
      have hg : (q.rs.map Rq.pv)[k]? = some (.agg [.int .i64 r.hours, .int .i64 r.ready, .lst false 1 (r.on.map PV.bool)]) := by rw [List.getElem?_map, hr]; rfl
      have hon : r.on.length ≤ 1000000 := by omega
      have htl : ((q.rs.take k).map Rq.pv).length = k := by rw [List.length_map, List.length_take]; omega
      have hol : (r.on.map PV.bool).take r.on.length = r.on.map PV.bool := List.take_of_length_le (by simp)
      rcases Nat.lt_or_eq_of_le hkk with hlk | rfl
      · have htk : (q.rs.take (k + 1)).map Rq.pv = (q.rs.take k).map Rq.pv ++ [.agg [.int .i64 r.hours, .int .i64 r.ready, .lst false 1 (r.on.map PV.bool)]] := by rw [List.take_add_one, hr]; simp [Rq.pv, onP]
        have hround := hJ _ _ ⟨k + 1, hlt, rfl, .inl ⟨hlk, rfl⟩⟩
        clear hJ
        generalize hTL : (q.rs.take k).map Rq.pv = TL at *
        refine awpS_wp ?_
        simp [-getElem?_pos, -List.getElem?_map, -decide_eq_true_eq, bkR, Qu.cells, hlt, hg, nble, nblt, hw, hk6, hTL, htl, hon, hol]
        refine ⟨_, _, hmeas, Sub.mk ?_ ?_, hround⟩
        · simp [bkR]
        · simp [bkR, Qu.cells, -List.map_take, -List.take_succ_cons, htk, hTL]
      · have e0 : r = r0 := by rw [hr0] at hr; cases hr; rfl
        subst e0
        have htk : ∀ D, ((q.rs.map Rq.pv).set k (r.raw D)).take (k + 1) = (q.rs.take k).map Rq.pv ++ [.agg [.int .i64 r.hours, .int .i64 r.ready, .raw D]] := fun D => by
          rw [List.take_add_one, List.getElem?_set_self (by simpa using hlt), List.take_set_of_le (Nat.le_refl _), List.map_take]; rfl
        have hround := fun D => hJ _ _ ⟨k + 1, hlt, rfl, .inr ⟨Nat.lt_succ_self _, D, rfl⟩⟩
        clear hJ
        generalize hTL : (q.rs.take k).map Rq.pv = TL at *
        refine awp_seqS ?_
        simp [-getElem?_pos, -List.getElem?_map, -decide_eq_true_eq, bkR, Qu.cells, hlt, hg, nble, nblt, hw, hk6, hTL, htl, hon, hol]
        refine awp_seqA (awp_blk (awp_seqS ?_))
        simp [-getElem?_pos, -List.getElem?_map, -decide_eq_true_eq, bkR, Qu.cells, hlt, hg, nble, nblt, hw, hk6, hTL, htl, hon, hol]
        refine awp_cut 10 (by simp) ?_
        simp [-getElem?_pos, -List.getElem?_map, -decide_eq_true_eq, bkR, Qu.cells, hlt, hg, nble, nblt, hw, hk6, hTL, htl, hon, hol]
        refine Clo.thaw (t := 75) (s := .loc 75 0) (n := 1) (e := 4) (xs := r.on.map PV.bool) ?_ ?_ (by simpa using hne0) (fun D => opsS_wp ?_)
        · simp
        · simp
        simp [-getElem?_pos, -List.getElem?_map, -decide_eq_true_eq, bkR, Qu.cells, hlt, hg, nble, nblt, hw, hk6, hTL, htl, hon, hol]
        refine awpS_wp ?_
        simp [-getElem?_pos, -List.getElem?_map, -decide_eq_true_eq, bkR, Qu.cells, hlt, hg, nble, nblt, hw, hk6, hTL, htl, hon, hol]
        refine ⟨_, _, hmeas, Sub.trans' (Sub.mk ?_ ?_) (Sub.ren 200 (.loc 75 0) _), hround D⟩
        · simp [bkB, AS.ren, renS]
        · simp [bkB, AS.ren, renS, Qu.cells, -List.map_take, -List.take_succ_cons, htk, hTL]
    · have hkm : (((q.rs.map Rq.pv).set k0 (r0.raw D)).take k).length = k := by rw [List.length_take, List.length_set, List.length_map]; omega
      by_cases hlt : k < q.rs.length
      · have hmeas : q.rs.length - (k + 1) < q.rs.length - k := by omega
        obtain ⟨r, hr⟩ : ∃ r, q.rs[k]? = some r := ⟨q.rs[k], List.getElem?_eq_getElem hlt⟩
        have hro := h4 r (List.mem_of_getElem? hr)
        have hg : (q.rs.map Rq.pv)[k]? = some (.agg [.int .i64 r.hours, .int .i64 r.ready, .lst false 1 (r.on.map PV.bool)]) := by rw [List.getElem?_map, hr]; rfl
        have hon : r.on.length ≤ 1000000 := by omega
        have hol : (r.on.map PV.bool).take r.on.length = r.on.map PV.bool := List.take_of_length_le (by simp)
        have htk : ((q.rs.map Rq.pv).set k0 (r0.raw D)).take (k + 1) = ((q.rs.map Rq.pv).set k0 (r0.raw D)).take k ++ [.agg [.int .i64 r.hours, .int .i64 r.ready, .lst false 1 (r.on.map PV.bool)]] := by
          rw [List.take_add_one, List.getElem?_set_ne (by omega), hg]; rfl
        have hround := hJ _ _ ⟨k + 1, hlt, rfl, .inr ⟨by omega, D, rfl⟩⟩
        clear hJ
        generalize hTL : ((q.rs.map Rq.pv).set k0 (r0.raw D)).take k = TL at *
        refine awpS_wp ?_
        simp [-getElem?_pos, -List.getElem?_map, -decide_eq_true_eq, bkB, Qu.cells, hlt, hg, nble, nblt, hw, hk6, hTL, hkm, hon, hol]
        refine ⟨_, _, hmeas, Sub.mk ?_ ?_, hround⟩
        · simp [bkB]
        · simp [bkB, Qu.cells, -List.map_take, -List.take_succ_cons, htk, hTL]
      · have he : k = q.rs.length := by omega
        subst he
        clear hJ
        have hm1 : (q.ms.map rgsP).take q.ms.length = q.ms.map rgsP := List.take_of_length_le (by simp)
        have hm2 : ((q.rs.map Rq.pv).set k0 (r0.raw D)).take q.rs.length = (q.rs.map Rq.pv).set k0 (r0.raw D) := List.take_of_length_le (by simp)
        refine awpS_wp ?_
        simp [-getElem?_pos, -List.getElem?_map, -decide_eq_true_eq, bkB, Qu.cells, hm1, hm2]
        refine awpS_wp ?_
        simp [-getElem?_pos, -List.getElem?_map, -decide_eq_true_eq, bkB, Qu.cells, hm1, hm2]
        rw [← hR]
        simp [Qu.pv]
        exact ⟨D, rfl, rfl⟩
end Go.Proofs.Ytohhjnpiiackjaa

/-! Layer 10 (queue): the law QueueEasier. -/
namespace Go.Proofs.Ytohhjnpiiackjaa
open Go.RowKit

set_option maxRecDepth 10000
set_option linter.unusedSimpArgs false

attribute [local simp] AS.exp expG Box.ren AV.map AV.mapL outsOk noRet Site.isRet Box.allS AV.allS AV.allSL retB dropL AS.adds renL outG outOk lentBx inG fnOf lookA List.findIdx?_cons
attribute [local simp] Box.purge Site.isLoc
attribute [local simp] retFz frzL AS.frz AV.frz AV.frzL Box.frz AS.tidy AS.frzC
/-- The parts of a code. -/
def lcA : LCode → LCode
  | .seq a _ => a
  | c => c
def lcB : LCode → LCode
  | .seq _ b => b
  | c => c
def hd1 : LCode → List LO
  | .seq (.seq (.region l) _) _ => l.take 1
  | _ => []
def eP0 : LCode := lcA (L11.code)
def eP1 : LCode := lcA (lcB (L11.code))
def eP2 : LCode := lcA (lcB (lcB (L11.code)))
def eP3 : LCode := lcA (lcB (lcB (lcB (L11.code))))
def eP4 : LCode := lcA (lcB (lcB (lcB (lcB (L11.code)))))
def eP5 : LCode := lcA (lcB (lcB (lcB (lcB (lcB (L11.code))))))
def easT : LCode := lcB (lcB (lcB (lcB (lcB (lcB L11.code)))))
theorem eas_code : L11.code = .seq eP0 (.seq eP1 (.seq eP2 (.seq eP3 (.seq eP4 (.seq eP5 easT))))) := rfl
def tlS (q : Qu) (c V : Int) : AS := ⟨[(136, .pv q.pv), (1, .pv (.int .u8 c)), (11, .pv (.int .i64 V)), (12, .pv (.bool true)), (13, .ptr (.loc 13 0) 0)], [(.loc 13 0, .cells q.cells)]⟩
set_option maxHeartbeats 8000000 in
/-- Behind the change: whatever queue came of it. -/
theorem tail_c {F : Nat} (hF : 407 < F) (q : Qu) (c V : Int) (hle : q.light = true → (c.tmod 5 = 4 → V ≤ firstV F q) ∧ (c.tmod 5 ≠ 4 → firstV F q ≤ V)) {σ : AS} (h : opsS Try.prog (hd1 easT) (Clo fun τ => τ = tlS q c V) σ) :
    awp Try.prog easT (finQ (retF L11.res fun r B => r = .pv (.bool true) ∧ B = [])) σ := by
  have hw := wakes_c
  refine awp_seqA (awp_seqA (awp_cutW 1 (by simp) (opsWp_mono (fun τ k => k.mono fun τ e => ?_) (opsS_wp h))))
  subst e
  refine opsS_wp ?_
  simp [-getElem?_pos, tlS, Qu.cells]
  refine call_gives (k := 0) (fs := []) (xs := [q.pv]) (cs := []) rfl rfl (light_c q) rfl ?_
  by_cases ht : q.light = true
  case neg =>
    simp [-getElem?_pos, ht]
    refine awpS_wp ?_
    simp [-getElem?_pos, ht]
    refine call_gives (k := 0) (fs := []) (xs := []) (cs := []) rfl rfl hw rfl ?_
    simp [-getElem?_pos, L11]
  obtain ⟨hs, hck, hq, _⟩ := Qu.light_of ht
  have hf1 := first_c hF hs hck
  obtain ⟨hl1, hl2⟩ := hle ht
  simp [-getElem?_pos, ht]
  refine awpS_wp ?_
  simp [-getElem?_pos, ht]
  refine awpS_wp ?_
  simp [-getElem?_pos, ht]
  refine .inl (call_pv [] (fs := []) (xs := [q.pv]) (cs := []) rfl rfl hf1 ?_)
  generalize firstV F q = V1 at *
  by_cases h4 : c.tmod 5 = 4
  · have h5 := hl1 h4
    simp [-getElem?_pos, frzsL, h4, h5]
    refine .inl (call_pv [] (fs := []) (xs := []) (cs := []) rfl rfl hw ?_)
    simp [-getElem?_pos, frzsL, L11]
  · have h5 := hl2 h4
    simp [-getElem?_pos, frzsL, h4, h5]
    refine .inl (call_pv [] (fs := []) (xs := []) (cs := []) rfl rfl hw ?_)
    simp [-getElem?_pos, frzsL, L11]
open Go.ChangeShapes Go.WideShapes Go.Deep in
theorem rq_runA {H : Type} {enc : TypeId × Value → H} {W : World} {sp : Nat → Bool} {held : Bool} {r : Reach} {base : Nat} {v : Value} {fuel : Nat} {x : DataW H × List MemPlace} (hok : Value.okWide Try.prog W r base 70 v) (h : DataW.trod enc Try.prog W 0 sp held fuel 70 v.cells.toList = some x) :
    ∃ q : Rq, (fit64 q.hours ∧ fit64 q.ready) ∧ RdP W.mem v q.pv := by
  obtain ⟨cs, rfl, hsz⟩ := okWide_struct Try.underlying70 hok
  rw [cqU] at hsz
  have h' : DataW.trod enc Try.prog W 0 sp held fuel 70 cs.toList = some x := h
  obtain ⟨q, hw, h1, h2, h3, h4⟩ := rq_run h' (by simpa using hsz)
  exact ⟨q, hw, .agg _ _ (by simpa [Rq.pv, PV.cells] using hsz) (fun d hd => h3 d (by simpa using hd)) (fun j d c k1 k2 => h4 j d c (by simpa using k1) k2)⟩
def stN (q : Qu) (Rs : List PV) (X : List (Site × Box)) (c a n V : Int) (r : Rq) : AS := ⟨[(14, .pv (.int .i64 n)), (34, .pv (.int .i64 n)), (1, .pv (.int .u8 c)), (2, .pv (.int .u8 a)), (9, .ptr (.loc 9 0) 0), (11, .pv (.int .i64 V)), (12, .pv (.bool true)), (13, .ptr (.loc 13 0) 0)],
  (.loc 13 0, .cells [.vec (.loc 33 0) 1 0 q.ms.length, .vec (.loc 33 1) 3 0 q.rs.length]) :: (.loc 33 0, .arr 84 1 (q.ms.map rgsP)) :: (.loc 33 1, .arr 70 3 Rs) :: (.loc 9 0, .cells [.pv (.int .i64 r.hours), .pv (.int .i64 r.ready), .pv (onP r.on)]) :: X⟩
section
variable {F : Nat} {q : Qu} {c a n : Int} {r : Rq}
abbrev easK : AEx → AS → Prop := finQ (retF L11.res fun r B => r = .pv (.bool true) ∧ B = [])
theorem same_hl (c V : Int) (h : V = firstV F q) : q.light = true → (c.tmod 5 = 4 → V ≤ firstV F q) ∧ (c.tmod 5 ≠ 4 → firstV F q ≤ V) := fun _ => ⟨fun _ => by omega, fun _ => by omega⟩
set_option maxHeartbeats 8000000 in
/-- One more run. -/
theorem eas4 (hF : 407 < F) (hq : q.ok) (h4 : c.tmod 5 = 4) : awp Try.prog (.seq eP5 easT) easK (stN q (q.rs.map Rq.pv) [] c a n (firstV F q) r) := by
  have hh := hq.r
  have hlen6 : q.rs.length + 1 ≤ 1000000 := by omega
  have hlen9 : q.rs.length ≤ 999999 := by omega
  have ht1 : List.take q.ms.length (List.map rgsP q.ms) = List.map rgsP q.ms := List.take_of_length_le (by simp)
  have ht2 : ∀ y : PV, List.take (q.rs.length + 1) (List.map Rq.pv q.rs ++ [y]) = List.map Rq.pv q.rs ++ [y] := fun y => List.take_of_length_le (by simp)
  refine awp_seqS ?_
  simp [-getElem?_pos, -List.getElem?_map, eP5, lcA, lcB, L11, stN, h4, hlen6, hlen9, nble, nblt]
  refine tail_c hF ⟨q.ms, q.rs ++ [r]⟩ c (firstV F q) (fun hl => ⟨fun _ => first_le hF (Qu.light_of hl).2.2.1 hq fun T h => more_feas h, fun h => absurd h4 h⟩) ?_
  simp [-getElem?_pos, -List.getElem?_map, hd1, easT, lcB, L11]
  refine Clo.sub ((Sub.mk ?_ ?_).trans' (Sub.frzs [.loc 33 0, .loc 76 0] _)) rfl
  · simp [frzsL, Qu.pv, ht1, ht2, Rq.pv]
  · simp [frzsL, Qu.cells, ht1, ht2, Rq.pv]
theorem mod_at {x : Int} {k : Nat} (hx : 0 ≤ x) (hk : 0 < k) : ∃ j : Nat, x.tmod (k : Int) = (j : Int) ∧ j < k := by
  have a1 := Int.tmod_eq_emod_of_nonneg (b := (k : Int)) hx
  have a2 := Int.emod_nonneg x (b := (k : Int)) (by omega)
  have a3 := Int.emod_lt_of_pos x (b := (k : Int)) (by omega)
  exact ⟨(x.tmod (k : Int)).toNat, by omega, by omega⟩
set_option maxHeartbeats 8000000 in
/-- A stop less. -/
theorem eas0 (hF : 407 < F) (hq : q.ok) (h0 : c.tmod 5 = 0) (hm : q.ms ≠ []) (ha : 0 ≤ a ∧ a < 256) : awp Try.prog (.seq eP5 easT) easK (stN q (q.rs.map Rq.pv) [] c a n (firstV F q) r) := by
  have hmp : 0 < q.ms.length := List.length_pos_iff.2 hm
  have hm4 := hq.m
  have hr6 := hq.r
  obtain ⟨k, hk, hkn⟩ := mod_at ha.1 hmp
  have w1 : IntKind.i64.wrap a = a := wrap64 (by omega)
  have hn0 : ¬ (q.ms.length : Int) = 0 := by omega
  obtain ⟨l, hl⟩ : ∃ l, q.ms[k]? = some l := ⟨q.ms[k], List.getElem?_eq_getElem hkn⟩
  have hl6 := hq.s l (List.mem_of_getElem? hl)
  have hg : (q.ms.map rgsP)[k]? = some (.lst false 2 (l.map Rg.pv)) := by rw [List.getElem?_map, hl]; rfl
  have ht1 : List.take q.ms.length (List.map rgsP q.ms) = List.map rgsP q.ms := List.take_of_length_le (by simp)
  have ht2 : List.take q.rs.length (List.map Rq.pv q.rs) = List.map Rq.pv q.rs := List.take_of_length_le (by simp)
  by_cases hl0 : l = []
  · subst hl0
    refine awp_seqS ?_
    simp [-getElem?_pos, -List.getElem?_map, eP5, lcA, lcB, L11, stN, h0, hm, hmp, hn0, w1, hk, hkn, hg, nblt, nble]
    refine tail_c hF q c (firstV F q) (same_hl c _ rfl) ?_
    simp [-getElem?_pos, -List.getElem?_map, hd1, easT, lcB, L11]
    refine Clo.sub ((Sub.mk ?_ ?_).trans' (Sub.frzs [.loc 33 0, .loc 33 1] _)) rfl
    · simp [frzsL, Qu.pv, ht1, ht2, -List.getElem?_map]
    · simp [frzsL, Qu.cells, ht1, ht2, -List.getElem?_map]
  · have hlp : 0 < l.length := List.length_pos_iff.2 hl0
    have w2 : IntKind.i64.wrap ((l.length : Int) - 1) = ((l.length - 1 : Nat) : Int) := by rw [wrap64 (by omega)]; omega
    have hle : l.length - 1 ≤ l.length := by omega
    have ht3 : ∀ x : PV, List.take q.ms.length ((List.map rgsP q.ms).set k x) = (List.map rgsP q.ms).set k x := fun x => List.take_of_length_le (by simp)
    have hmap : (q.ms.set k (l.take (l.length - 1))).map rgsP = (q.ms.map rgsP).set k (.lst false 2 ((l.map Rg.pv).take (l.length - 1))) := by rw [List.map_set]; simp [rgsP, List.map_take]
    refine awp_seqS ?_
    simp [-getElem?_pos, -List.getElem?_map, -List.map_take, eP5, lcA, lcB, L11, stN, h0, hm, hmp, hn0, w1, w2, hk, hkn, hg, nblt, nble, hlp, hl0, hle, setAt]
    refine tail_c hF ⟨q.ms.set k (l.take (l.length - 1)), q.rs⟩ c (firstV F q) (fun hl' => ⟨fun h => absurd (h0.symm.trans h) (by decide), fun _ => first_le hF hq (Qu.light_of hl').2.2.1 fun T h => mPut_feas hq hl h⟩) ?_
    simp [-getElem?_pos, -List.getElem?_map, hd1, easT, lcB, L11]
    refine Clo.sub ((Sub.mk ?_ ?_).trans' (Sub.frzs [.loc 33 0, .loc 33 1] _)) rfl
    · simp [frzsL, Qu.pv, ht3, ht2, -List.getElem?_map, -List.map_set, -List.map_take, hmap]
    · simp [frzsL, Qu.cells, ht3, ht2, -List.getElem?_map, -List.map_set, -List.map_take, hmap]
set_option maxHeartbeats 8000000 in
/-- No runs. -/
theorem easU (hF : 407 < F) (h0 : c.tmod 5 = 0 → q.ms = []) (h4 : c.tmod 5 ≠ 4) (hr : q.rs = []) : awp Try.prog (.seq eP5 easT) easK (stN q (q.rs.map Rq.pv) [] c a n (firstV F q) r) := by
  have ht1 : List.take q.ms.length (List.map rgsP q.ms) = List.map rgsP q.ms := List.take_of_length_le (by simp)
  refine awp_seqS ?_
  by_cases h0' : c.tmod 5 = 0
  · have hm := h0 h0'
    simp [-getElem?_pos, -List.getElem?_map, eP5, lcA, lcB, L11, stN, h4, hr, hm, h0']
    refine tail_c hF q c (firstV F q) (same_hl c _ rfl) ?_
    simp [-getElem?_pos, -List.getElem?_map, hd1, easT, lcB, L11]
    refine Clo.sub ((Sub.mk ?_ ?_).trans' (Sub.frzs [.loc 33 0, .loc 33 1] _)) rfl
    · simp [frzsL, Qu.pv, hr, hm]
    · simp [frzsL, Qu.cells, hr, hm]
  · simp [-getElem?_pos, -List.getElem?_map, eP5, lcA, lcB, L11, stN, h4, hr, h0']
    refine tail_c hF q c (firstV F q) (same_hl c _ rfl) ?_
    simp [-getElem?_pos, -List.getElem?_map, hd1, easT, lcB, L11]
    refine Clo.sub ((Sub.mk ?_ ?_).trans' (Sub.frzs [.loc 33 0, .loc 33 1] _)) rfl
    · simp [frzsL, Qu.pv, hr, ht1]
    · simp [frzsL, Qu.cells, hr, ht1]
set_option maxHeartbeats 8000000 in
/-- No machines: no flags. -/
theorem easE (hF : 407 < F) (hq : q.ok) (h5 : c.tmod 5 = 0 ∨ c.tmod 5 = 3) (hm : q.ms = []) (hr : q.rs ≠ []) (ha : 0 ≤ a ∧ a < 256) : awp Try.prog (.seq eP5 easT) easK (stN q (q.rs.map Rq.pv) [] c a n (firstV F q) r) := by
  have hrp : 0 < q.rs.length := List.length_pos_iff.2 hr
  have hr6 := hq.r
  obtain ⟨k, hk, hkn⟩ := mod_at ha.1 hrp
  have w1 : IntKind.i64.wrap a = a := wrap64 (by omega)
  have hn0 : ¬ (q.rs.length : Int) = 0 := by omega
  obtain ⟨y, hy⟩ : ∃ y, q.rs[k]? = some y := ⟨q.rs[k], List.getElem?_eq_getElem hkn⟩
  have hon : y.on = [] := List.eq_nil_of_length_eq_zero (by rw [hq.f y (List.mem_of_getElem? hy), hm]; rfl)
  have hg : (q.rs.map Rq.pv)[k]? = some (.agg [.int .i64 y.hours, .int .i64 y.ready, .lst false 1 []]) := by rw [List.getElem?_map, hy]; simp [Rq.pv, onP, hon]
  have ht2 : List.take q.rs.length (List.map Rq.pv q.rs) = List.map Rq.pv q.rs := List.take_of_length_le (by simp)
  refine awp_seqS ?_
  rcases h5 with h5 | h5
  all_goals
    simp [-getElem?_pos, -List.getElem?_map, eP5, lcA, lcB, L11, stN, h5, hm, hrp, hn0, w1, hk, hkn, hg, nblt, nble, hr]
    refine tail_c hF q c (firstV F q) (same_hl c _ rfl) ?_
    simp [-getElem?_pos, -List.getElem?_map, hd1, easT, lcB, L11]
    refine Clo.sub ((Sub.mk ?_ ?_).trans' (Sub.frzs [.loc 33 0, .loc 33 1] _)) rfl
    · simp [frzsL, Qu.pv, hm, ht2, -List.getElem?_map]
    · simp [frzsL, Qu.cells, hm, ht2, -List.getElem?_map]
set_option maxHeartbeats 8000000 in
/-- Fewer hours, or an earlier hour. -/
theorem eas12 (hF : 407 < F) (hq : q.ok) (h5 : c.tmod 5 = 1 ∨ c.tmod 5 = 2) (hr : q.rs ≠ []) (ha : 0 ≤ a ∧ a < 256) (hn : 0 ≤ n ∧ n < 7) : awp Try.prog (.seq eP5 easT) easK (stN q (q.rs.map Rq.pv) [] c a n (firstV F q) r) := by
  have hrp : 0 < q.rs.length := List.length_pos_iff.2 hr
  have hr6 := hq.r
  obtain ⟨k, hk, hkn⟩ := mod_at ha.1 hrp
  have w1 : IntKind.i64.wrap a = a := wrap64 (by omega)
  have hn0 : ¬ (q.rs.length : Int) = 0 := by omega
  obtain ⟨y, hy⟩ : ∃ y, q.rs[k]? = some y := ⟨q.rs[k], List.getElem?_eq_getElem hkn⟩
  have hyh := hq.h y (List.mem_of_getElem? hy)
  have hyd := hq.d y (List.mem_of_getElem? hy)
  have w2 : IntKind.i64.wrap (y.hours - n) = y.hours - n := wrap64 (by omega)
  have w3 : IntKind.i64.wrap (y.ready - n) = y.ready - n := wrap64 (by omega)
  have hg : (q.rs.map Rq.pv)[k]? = some (.agg [.int .i64 y.hours, .int .i64 y.ready, onP y.on]) := by rw [List.getElem?_map, hy]; rfl
  have ht1 : List.take q.ms.length (List.map rgsP q.ms) = List.map rgsP q.ms := List.take_of_length_le (by simp)
  have ht2 : ∀ x : PV, List.take q.rs.length ((List.map Rq.pv q.rs).set k x) = (List.map Rq.pv q.rs).set k x := fun x => List.take_of_length_le (by simp)
  refine awp_seqS ?_
  rcases h5 with h5 | h5
  · have hmap : (q.rs.set k ⟨if n < y.hours then y.hours - n else 0, y.ready, y.on⟩).map Rq.pv = (q.rs.map Rq.pv).set k (.agg [.int .i64 (if n < y.hours then y.hours - n else 0), .int .i64 y.ready, onP y.on]) := by rw [List.map_set]; rfl
    simp [-getElem?_pos, -List.getElem?_map, eP5, lcA, lcB, L11, stN, h5, hrp, hn0, w1, w2, hk, hkn, hg, nblt, nble, hr, setAt]
    refine tail_c hF ⟨q.ms, q.rs.set k ⟨if n < y.hours then y.hours - n else 0, y.ready, y.on⟩⟩ c (firstV F q) (fun hl' => ⟨fun h => absurd (h5.symm.trans h) (by decide), fun _ => first_le hF hq (Qu.light_of hl').2.2.1 fun T h => rPut_feas (r' := ⟨if n < y.hours then y.hours - n else 0, y.ready, y.on⟩) hq hy (by dsimp only; split <;> omega) (Int.le_refl _) (fun _ h => h) h⟩) ?_
    simp [-getElem?_pos, -List.getElem?_map, hd1, easT, lcB, L11]
    refine Clo.sub ((Sub.mk ?_ ?_).trans' (Sub.frzs [.loc 33 0, .loc 33 1] _)) rfl
    · simp [frzsL, Qu.pv, ht1, ht2, -List.getElem?_map, -List.map_set, hmap]
    · simp [frzsL, Qu.cells, ht1, ht2, -List.getElem?_map, -List.map_set, hmap]
  · have hmap : (q.rs.set k ⟨y.hours, if n < y.ready then y.ready - n else 0, y.on⟩).map Rq.pv = (q.rs.map Rq.pv).set k (.agg [.int .i64 y.hours, .int .i64 (if n < y.ready then y.ready - n else 0), onP y.on]) := by rw [List.map_set]; rfl
    simp [-getElem?_pos, -List.getElem?_map, eP5, lcA, lcB, L11, stN, h5, hrp, hn0, w1, w3, hk, hkn, hg, nblt, nble, hr, setAt]
    refine tail_c hF ⟨q.ms, q.rs.set k ⟨y.hours, if n < y.ready then y.ready - n else 0, y.on⟩⟩ c (firstV F q) (fun hl' => ⟨fun h => absurd (h5.symm.trans h) (by decide), fun _ => first_le hF hq (Qu.light_of hl').2.2.1 fun T h => rPut_feas (r' := ⟨y.hours, if n < y.ready then y.ready - n else 0, y.on⟩) hq hy ⟨hyh.1, Int.le_refl _⟩ (by dsimp only; split <;> omega) (fun _ h => h) h⟩) ?_
    simp [-getElem?_pos, -List.getElem?_map, hd1, easT, lcB, L11]
    refine Clo.sub ((Sub.mk ?_ ?_).trans' (Sub.frzs [.loc 33 0, .loc 33 1] _)) rfl
    · simp [frzsL, Qu.pv, ht1, ht2, -List.getElem?_map, -List.map_set, hmap]
    · simp [frzsL, Qu.cells, ht1, ht2, -List.getElem?_map, -List.map_set, hmap]
set_option maxHeartbeats 8000000 in
/-- One more machine for a run. -/
theorem eas3 (hF : 407 < F) (hq : q.ok) (h5 : c.tmod 5 = 3) (hm : q.ms ≠ []) (hr : q.rs ≠ []) {k : Nat} {y : Rq} (hk : a.tmod (q.rs.length : Int) = (k : Int)) (hkn : k < q.rs.length) (hy : q.rs[k]? = some y) (D : Value) (ha : 0 ≤ a ∧ a < 256) (hn : 0 ≤ n ∧ n < 7) :
    awp Try.prog (.seq eP5 easT) easK (stN q ((q.rs.map Rq.pv).set k (y.raw D)) [(.loc 33 2, .ext (lkE D 4 1 (y.on.map PV.bool)))] c a n (firstV F q) r) := by
  have hrp : 0 < q.rs.length := List.length_pos_iff.2 hr
  have hmp : 0 < q.ms.length := List.length_pos_iff.2 hm
  have hm4 := hq.m
  have hr6 := hq.r
  have w1 : IntKind.i64.wrap a = a := wrap64 (by omega)
  have hn0 : ¬ (q.rs.length : Int) = 0 := by omega
  have hof := hq.f y (List.mem_of_getElem? hy)
  have hop : 0 < y.on.length := by omega
  obtain ⟨j, hj, hjn⟩ := mod_at hn.1 hop
  have hon0 : ¬ (y.on.length : Int) = 0 := by omega
  have hoe : y.on ≠ [] := List.length_pos_iff.1 hop
  have hg : ((q.rs.map Rq.pv).set k (y.raw D))[k]? = some (.agg [.int .i64 y.hours, .int .i64 y.ready, .raw D]) := List.getElem?_set_self (by simpa using hkn)
  have hgo : (y.on.map PV.bool)[j]? = some (.bool y.on[j]) := by rw [List.getElem?_map, List.getElem?_eq_getElem hjn]; rfl
  have ht1 : List.take q.ms.length (List.map rgsP q.ms) = List.map rgsP q.ms := List.take_of_length_le (by simp)
  have ht2 : ∀ z : PV, List.take q.rs.length ((List.map Rq.pv q.rs).set k z) = (List.map Rq.pv q.rs).set k z := fun z => List.take_of_length_le (by simp)
  refine awp_seqA ?_
  unfold eP5
  simp only [lcA, lcB, L11]
  refine awp_blk (awp_seqS ?_)
  simp [-getElem?_pos, -List.getElem?_map, -List.map_set, stN, h5]
  refine awp_cF (by simp) (awp_seqS ?_)
  simp [-getElem?_pos, -List.getElem?_map, -List.map_set, h5]
  refine awp_cF (by simp) (awp_seqS ?_)
  simp [-getElem?_pos, -List.getElem?_map, -List.map_set, h5, hrp, nblt, nble]
  refine awp_cT (by simp) (awp_seqS ?_)
  simp [-getElem?_pos, -List.getElem?_map, -List.map_set, h5, w1, hn0, hk, hkn, hr, nblt, nble]
  refine awp_seqS ?_
  simp [-getElem?_pos, -List.getElem?_map, -List.map_set, h5, w1, hn0, hk, hkn, hr, nblt, nble]
  refine awp_blk (awp_seqS ?_)
  simp [-getElem?_pos, -List.getElem?_map, -List.map_set, h5, w1, hn0, hk, hkn, hr, nblt, nble]
  refine awp_cF (by simp) (awp_seqS ?_)
  simp [-getElem?_pos, -List.getElem?_map, -List.map_set, h5, w1, hn0, hk, hkn, hr, nblt, nble]
  refine awp_cF (by simp) (awp_seqA (awp_cut 4 (by simp) ?_))
  simp [-getElem?_pos, -List.getElem?_map, -List.map_set, h5, w1, hn0, hk, hkn, hr, nblt, nble, hg]
  refine Clo.hand (t := 97) (s := .loc 33 2) (n := 1) (e := 4) (xs := y.on.map PV.bool) (D := D) (by simp) (by simp) (opsS_wp ?_)
  simp [-getElem?_pos, -List.getElem?_map, -List.map_set, h5, w1, hn0, hk, hkn, hr, nblt, nble, hop]
  refine awp_cT (by simp) ?_
  refine awp_cut 9 (by simp) ?_
  simp [-getElem?_pos, -List.getElem?_map, -List.map_set, h5, w1, hn0, hk, hkn, hr, nblt, nble, hg]
  refine Clo.join (Clo.hand (t := 103) (s := .loc 33 2) (n := 1) (e := 4) (xs := y.on.map PV.bool) (D := D) (by simp) (by simp) (Clo.hand (t := 108) (s := .loc 33 2) (n := 1) (e := 4) (xs := y.on.map PV.bool) (D := D) (by simp) (by simp) (opsS_wp ?_)))
  simp [-getElem?_pos, -List.getElem?_map, -List.map_set, h5, w1, hn0, hk, hkn, hr, nblt, nble, hop, hon0, hj, hjn, hoe]
  refine osel_storeE (s := .loc 33 2) (n' := 1) (i := j) (off := 0) (D := D) (e := 4) (xs := y.on.map PV.bool) (z := .bool y.on[j]) (p := .bool true) (by simp) (by simp) (by simp) hgo (by decide) rfl (.inr rfl) (by simp [PV.cells]) ?_
  simp [-getElem?_pos, -List.getElem?_map, -List.map_set, setAt]
  have hmap : (q.rs.set k ⟨y.hours, y.ready, y.on.set j true⟩).map Rq.pv = (q.rs.map Rq.pv).set k (.agg [.int .i64 y.hours, .int .i64 y.ready, .lst false 1 ((y.on.map PV.bool).set j (.bool true))]) := by rw [List.map_set]; simp [Rq.pv, onP, List.map_set]
  refine tail_c hF ⟨q.ms, q.rs.set k ⟨y.hours, y.ready, y.on.set j true⟩⟩ c (firstV F q) (fun hl' => ⟨fun h => absurd (h5.symm.trans h) (by decide), fun _ => first_le hF hq (Qu.light_of hl').2.2.1 fun T h => rPut_feas (r' := ⟨y.hours, y.ready, y.on.set j true⟩) hq hy ⟨(hq.h y (List.mem_of_getElem? hy)).1, Int.le_refl _⟩ (Int.le_refl _) (fun m hm => ?_) h⟩) ?_
  · rcases Nat.decEq j m with hne | rfl
    · rw [List.getElem?_set_ne hne]; exact hm
    · rw [List.getElem?_set_self hjn]
  simp [-getElem?_pos, -List.getElem?_map, -List.map_set, hd1, easT, lcB, L11]
  refine Clo.join (Clo.back (s1 := .loc 33 1) (s2 := .loc 33 2) (k := k) (off := 2) (e1 := 70) (n1 := 3) (n := 1) (e := 4) (ys := (q.rs.map Rq.pv).set k (y.raw D)) (l := [.int .i64 y.hours, .int .i64 y.ready, .raw D]) (xs := (y.on.map PV.bool).set j (.bool true)) (D := D) (by simp) (by simp) hg rfl ?_)
  refine Clo.sub ((Sub.mk ?_ ?_).trans' (Sub.frzs [.loc 33 0, .loc 33 1] _)) rfl
  · simp [frzsL, Qu.pv, ht1, ht2, -List.getElem?_map, -List.map_set, hmap]
  · simp [frzsL, Qu.cells, ht1, ht2, -List.getElem?_map, -List.map_set, hmap]
end
set_option maxHeartbeats 16000000 in
theorem easier_law (q : Qu) (c a b : Int) (hc : 0 ≤ c ∧ c < 256) (ha : 0 ≤ a ∧ a < 256) (hb : 0 ≤ b ∧ b < 256) (r : Rq) : Gives Try.prog 11 [q.pv, .int .u8 c, .int .u8 a, .int .u8 b, r.pv] (.bool true) := by
  have hF : 407 < 408 := by decide
  generalize 408 = F at hF
  have hw := wakes_c
  refine calls_of_awp mixed L11_ok (Nat.le_of_ble_eq_true rfl) ?_
  rw [eas_code]
  refine awp_seqS ?_
  simp [-getElem?_pos, eP0, lcA, lcB, L11, Qu.pv, Rq.pv]
  refine awp_seqS ?_
  simp [-getElem?_pos, eP1, lcA, lcB, L11]
  refine call_gives (k := 0) (fs := []) (xs := [q.pv]) (cs := []) rfl rfl (light_c q) rfl ?_
  by_cases ht : q.light = true
  case neg =>
    simp [-getElem?_pos, ht]
    refine call_gives (k := 0) (fs := []) (xs := []) (cs := []) rfl rfl hw rfl ?_
    simp [-getElem?_pos, L11]
  obtain ⟨hs, hck, hq, _⟩ := Qu.light_of ht
  have hf1 := first_c hF hs hck
  have hqc := queue_of hs
  have h1 := hs.m
  have h2 := hs.r
  have h3 : ∀ l ∈ q.ms, l.length ≤ 1000 := fun l h => by have := hs.s l h; omega
  have h4 : ∀ r ∈ q.rs, r.on.length ≤ 1000 := fun l h => by have := hs.f l h; omega
  obtain ⟨n, hn, hn7⟩ := mod_at (k := 7) hb.1 (by decide)
  have hn' : b.tmod 7 = n := hn
  obtain ⟨w, hw5, hwl⟩ := mod_at (k := 5) hc.1 (by decide)
  have hw' : c.tmod 5 = w := hw5
  have wb : IntKind.i64.wrap b = b := wrap64 (by omega)
  simp [-getElem?_pos, ht]
  refine awp_seqS ?_
  simp [-getElem?_pos, eP2, lcA, lcB, L11]
  refine .inl (call_pv [] (fs := []) (xs := [q.pv]) (cs := []) rfl rfl hf1 ?_)
  simp [-getElem?_pos, frzsL]
  refine awp_seqS ?_
  simp [-getElem?_pos, eP3, lcA, lcB, L11]
  refine .inl (call_pv [] (fs := []) (xs := [q.pv]) (cs := []) rfl rfl hqc ?_)
  simp [-getElem?_pos, frzsL]
  by_cases h3c : c.tmod 5 = 3 ∧ q.ms ≠ [] ∧ q.rs ≠ []
  · obtain ⟨h5, hm, hr⟩ := h3c
    have hrp : 0 < q.rs.length := List.length_pos_iff.2 hr
    have hmp : 0 < q.ms.length := List.length_pos_iff.2 hm
    obtain ⟨k, hk, hkn⟩ := mod_at ha.1 hrp
    obtain ⟨y, hy⟩ : ∃ y, q.rs[k]? = some y := ⟨q.rs[k], List.getElem?_eq_getElem hkn⟩
    have hoe : y.on ≠ [] := List.length_pos_iff.1 (by rw [hq.f y (List.mem_of_getElem? hy)]; exact hmp)
    have hbo := back_k q (by omega) (by omega) h3 h4 hy hoe
    refine call_lent (as' := [.pv q.pv]) (B := []) (fs := []) (cs := []) 33 [] ?_ rfl rfl rfl ?_ ?_ hbo ?_
    · rfl
    · rfl
    · rfl
    rintro x B ⟨rfl, D, rfl⟩
    refine ⟨rfl, by simp, ?_⟩
    simp [-getElem?_pos, -List.getElem?_map, -List.map_set]
    refine awp_seqA ?_
    unfold eP4
    simp only [lcA, lcB, L11]
    refine awp_cut 3 (by simp) ?_
    simp [-getElem?_pos, -List.getElem?_map, -List.map_set, wb, hn']
    refine Clo.sub (τ := ⟨(stN q ((q.rs.map Rq.pv).set k (y.raw D)) [(.loc 33 2, .ext (lkE D 4 1 (y.on.map PV.bool)))] c a n (firstV F q) r).tm.tail, (stN q ((q.rs.map Rq.pv).set k (y.raw D)) [(.loc 33 2, .ext (lkE D 4 1 (y.on.map PV.bool)))] c a n (firstV F q) r).bx⟩) (Sub.mk ?_ ?_) (opsS_wp ?_)
    · simp [stN]
    · simp [stN, -List.map_set]
    simp [-getElem?_pos, -List.getElem?_map, -List.map_set, stN]
    exact eas3 hF hq h5 hm hr hk hkn hy D ha ⟨by omega, by omega⟩
  · have hbo := back_o q (by omega) (by omega) h3 h4
    refine call_lent (as' := [.pv q.pv]) (B := []) (fs := []) (cs := []) 33 [] ?_ rfl rfl rfl ?_ ?_ hbo ?_
    · rfl
    · rfl
    · rfl
    rintro x B ⟨rfl, rfl⟩
    refine ⟨rfl, by simp, ?_⟩
    simp [-getElem?_pos, -List.getElem?_map, -List.map_set]
    refine awp_seqA ?_
    unfold eP4
    simp only [lcA, lcB, L11]
    refine awp_cut 3 (by simp) ?_
    simp [-getElem?_pos, -List.getElem?_map, -List.map_set, wb, hn']
    refine Clo.sub (τ := ⟨(stN q (q.rs.map Rq.pv) [] c a n (firstV F q) r).tm.tail, (stN q (q.rs.map Rq.pv) [] c a n (firstV F q) r).bx⟩) (Sub.mk ?_ ?_) (opsS_wp ?_)
    · simp [stN]
    · simp [stN]
    simp [-getElem?_pos, -List.getElem?_map, -List.map_set, stN]
    show awp Try.prog (.seq eP5 easT) easK (stN q (q.rs.map Rq.pv) [] c a n (firstV F q) r)
    by_cases h4' : c.tmod 5 = 4
    · exact eas4 hF hq h4'
    by_cases h0' : c.tmod 5 = 0 ∧ q.ms ≠ []
    · exact eas0 hF hq h0'.1 h0'.2 ha
    by_cases hr0 : q.rs = []
    · exact easU hF (fun h => Classical.byContradiction fun hm => h0' ⟨h, hm⟩) h4' hr0
    by_cases h12 : c.tmod 5 = 1 ∨ c.tmod 5 = 2
    · exact eas12 hF hq h12 hr0 ha ⟨by omega, by omega⟩
    have h03 : c.tmod 5 = 0 ∨ c.tmod 5 = 3 := by omega
    refine easE hF hq h03 (Classical.byContradiction fun hm => ?_) hr0 ha
    rcases h03 with h | h
    · exact h0' ⟨h, hm⟩
    · exact h3c ⟨h, hm, hr0⟩
end Go.Proofs.Ytohhjnpiiackjaa

/-! The statement QueueEasier holds: for every input the law answers true, and its arguments read behind the call as before. No conditions. -/
namespace Go.Proofs.Ytohhjnpiiackjaa
open Go.ChangeShapes Go.WideShapes Go.ChangeAt Go.RowKit

set_option maxRecDepth 100000 in
theorem walkQueueEasier (v0 v1 v2 v3 v4 : Value) (W : World) {H : Type} {enc : TypeId × Value → H} {base : Nat} {sp : Nat → Bool} {hd : Bool} {d0 d1 d2 d3 d4 : DataW H} {p0 p1 p2 p3 p4 : List MemPlace}
    (k0 : Value.okWide Try.prog W .any base 25 v0) (h0 : DataW.Trod enc Try.prog W 0 sp hd 25 v0 d0 p0)
    (k1 : Value.okWide Try.prog W .any base 5 v1) (h1 : DataW.Trod enc Try.prog W 0 sp hd 5 v1 d1 p1)
    (k2 : Value.okWide Try.prog W .any base 5 v2) (h2 : DataW.Trod enc Try.prog W 0 sp hd 5 v2 d2 p2)
    (k3 : Value.okWide Try.prog W .any base 5 v3) (h3 : DataW.Trod enc Try.prog W 0 sp hd 5 v3 d3 p3)
    (k4 : Value.okWide Try.prog W .any base 70 v4) (h4 : DataW.Trod enc Try.prog W 0 sp hd 70 v4 d4 p4) :
    Calls Try.prog 11 #[v0, v1, v2, v3, v4] W fun e w' => e = .returned (.bool true) ∧ Keep [] W w' := by
  obtain ⟨n0, h0⟩ := h0
  obtain ⟨s0, w0, r0⟩ := rq_queue k0 h0
  obtain ⟨s1, rfl, rfl, rfl, w1⟩ := open_int Try.underlying5 k1 h1
  obtain ⟨s2, rfl, rfl, rfl, w2⟩ := open_int Try.underlying5 k2 h2
  obtain ⟨s3, rfl, rfl, rfl, w3⟩ := open_int Try.underlying5 k3 h3
  obtain ⟨n4, h4⟩ := h4
  obtain ⟨s4, w4, r4⟩ := rq_runA k4 h4
  refine calls_bool (xs := [s0.pv, .int .u8 s1, .int .u8 s2, .int .u8 s3, s4.pv]) (b := true) ((easier_law s0 s1 s2 s3 (u8_bd w1) (u8_bd w2) (u8_bd w3) s4).mono (fun _ _ h => h.1)) rfl (fun j v x e1 e2 => ?_)
  match j with
  | 0 => simp at e1 e2; subst e1 e2; exact r0
  | 1 => simp at e1 e2; subst e1 e2; exact .int .u8 s1
  | 2 => simp at e1 e2; subst e1 e2; exact .int .u8 s2
  | 3 => simp at e1 e2; subst e1 e2; exact .int .u8 s3
  | 4 => simp at e1 e2; subst e1 e2; exact r4
  | j + 5 => simp at e1
set_option maxRecDepth 100000 in
theorem liftedQueueEasier (os : Os) (started : os.Started) (H : Type) (enc : TypeId × Value → H) :
    ReturnsInHanded {} Try.checked os 11 .any (Rows.queueEasierSpec.pre6 enc Try.prog Try.f11 Rows.queueEasierRow.domain false) (Rows.queueEasierSpec.post enc Try.prog Try.f11 false true false false) := by
  refine returnsInHanded_of_change (C := Try.checked) own started (by kernel_rfl) Try.func11
    (ChangeSpec.witness6 (enc := enc) (C := Try.checked) false ⟨#[], #[.agg #[.slice none 0 0, .slice none 0 0], .int .u8 0, .int .u8 0, .int .u8 0, .agg #[.int .i64 0, .int .i64 0, .slice none 0 0]], []⟩ 8 (by kernel_rfl) (by kernel_rfl) (by kernel_rfl) (by kernel_rfl)) ?_
  intro W base args ds gs before hval0 hW hcnd _
  have hval : ∀ (j : Nat) t v, Try.f11.params[j]? = some t → args[j]? = some v → Value.okWide Try.prog W .any base t v := hval0
  have hW' := hW
  obtain ⟨p, q, hA0, hV, rfl, hfz, hnd⟩ := hW
  have hA : DataW.TrodAll enc Try.prog W 0 (fun _ => true) true Try.f11.params.toList args.toList ds p := hA0
  rw [Try.params11] at hA hval
  obtain ⟨v0, vs0, d0, ds0, p0, q0, hargs, rfl, rfl, h0, r0⟩ := trodAll_cons hA
  obtain ⟨v1, vs1, d1, ds1, p1, q1, rfl, rfl, rfl, h1, r1⟩ := trodAll_cons r0
  obtain ⟨v2, vs2, d2, ds2, p2, q2, rfl, rfl, rfl, h2, r2⟩ := trodAll_cons r1
  obtain ⟨v3, vs3, d3, ds3, p3, q3, rfl, rfl, rfl, h3, r3⟩ := trodAll_cons r2
  obtain ⟨v4, vs4, d4, ds4, p4, q4, rfl, rfl, rfl, h4, r4⟩ := trodAll_cons r3
  obtain ⟨rfl, rfl, rfl⟩ := trodAll_nil r4
  have hargs' : args = #[v0, v1, v2, v3, v4] := by
    apply Array.ext'
    exact hargs
  subst hargs'
  have k0 := hval 0 _ v0 rfl rfl
  have k1 := hval 1 _ v1 rfl rfl
  have k2 := hval 2 _ v2 rfl rfl
  have k3 := hval 3 _ v3 rfl rfl
  have k4 := hval 4 _ v4 rfl rfl
  obtain ⟨rfl, rfl⟩ := trodVars_none hV
  refine (walkQueueEasier v0 v1 v2 v3 v4 W k0 h0 k1 h1 k2 h2 k3 h3 k4 h4).mono fun e W' ⟨he, hk⟩ => ?_
  subst he
  exact ⟨_, rfl, post_law (tb := 4) laidP rowedP fullP (by decide +kernel) rfl rfl rfl Try.underlying4 hW' hk⟩
theorem overQueueEasier : Rows.queueEasierRow.holds Try.pinned (OpenSpec.ofChange Rows.queueEasierSpec) :=
  OpenClaim.holds_of_wide 11 Try.f11 rfl rfl rfl rfl rfl rfl rfl ⟨rfl, rfl, rfl, rfl, rfl⟩ rfl rfl rfl rfl rfl (by kernel_rfl) Try.func11 (by kernel_rfl)
    (of_decide_eq_true (by kernel_rfl)) (by unfold Func.isWrapper; first | (rw [if_pos (by decide +kernel)]; kernel_rfl) | (rw [if_neg (by decide +kernel)]; exact ⟨rfl, rfl⟩))
    (fun os started H enc _ => liftedQueueEasier os started H enc)
theorem provedQueueEasier : Rows.QueueEasierSaid := overQueueEasier
end Go.Proofs.Ytohhjnpiiackjaa
