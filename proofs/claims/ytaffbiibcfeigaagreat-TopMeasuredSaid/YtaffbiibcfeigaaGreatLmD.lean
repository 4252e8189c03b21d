/- Contracts of layer 1 (curve): the least load of a point, if none before it drops (it knows what it was asked). (Several texts in one.) -/
import Derived.Test.YtaffbiibcfeigaaGreatLmC
import Derived.Test.YtaffbiibcfeigaaGreatBaseD
set_option linter.unusedVariables false
set_option linter.unusedSimpArgs false
/-! Contracts of layer 1 (curve): the least load of a point, if none before it drops (it knows what it was asked). -/
namespace Go.Proofs.YtaffbiibcfeigaaGreat
open Go.RowKit
set_option maxRecDepth 10000
set_option linter.unusedSimpArgs false
theorem leM_in {r : Rl} {ps : List Pt} (hp : cvOk ps = true) (hd : 1 ≤ r.drop) : ∀ {i : Nat}, i < ps.length → 0 ≤ leM r ps i ∧ leM r ps i ≤ 100000
  | 0, h => by have := cv_ok hp h; show 0 ≤ (ptD ps 0).lo ∧ _; unfold leM; omega
  | i + 1, h => by
    have h1 := leM_in hp hd (i := i) (by omega)
    have h2 := cv_ok hp h
    show 0 ≤ max _ _ ∧ max _ _ ≤ 100000
    omega
def keyL (r : Rl) (i : Nat) : PV := .agg [.int .i64 i, .int .i64 r.drop]
/-- What is known is right. -/
def MOk (r : Rl) (ps : List Pt) (es : List (PV × PV)) : Prop := ∀ p ∈ es, ∃ j : Nat, p = (keyL r j, .int .i64 (leM r ps j))
theorem eqK_keyL {r : Rl} {i j : Nat} : eqK (keyL r i) (keyL r j) = decide (i = j) := by
  simp only [eqK, keyL, PV.cells, eqL, eqC, Bool.and_true]
  rw [Bool.eq_iff_iff]
  simp
  omega
theorem MOk.keys {r : Rl} {ps : List Pt} {es : List (PV × PV)} (h : MOk r ps es) : keysOk ⟨true, [.int .i64, .int .i64]⟩ es = true := by
  unfold keysOk
  rw [List.all_eq_true]
  intro p hp
  obtain ⟨j, rfl⟩ := h p hp
  rfl
theorem MOk.find {r : Rl} {ps : List Pt} : ∀ {es : List (PV × PV)}, MOk r ps es → ∀ {i : Nat} {v : PV}, findV (keyL r i) es = some v → v = .int .i64 (leM r ps i)
  | [], _, i, v, h => by cases h
  | p :: es, hM, i, v, h => by
    obtain ⟨j, rfl⟩ := hM p List.mem_cons_self
    have hf : findV (keyL r i) ((keyL r j, .int .i64 (leM r ps j)) :: es) = match eqK (keyL r i) (keyL r j) with
      | true => some (.int .i64 (leM r ps j))
      | false => findV (keyL r i) es := rfl
    rw [hf, eqK_keyL] at h
    by_cases e : i = j
    · subst e; simp at h; exact h.symm
    · simp [e] at h
      exact MOk.find (fun q hq => hM q (List.mem_cons_of_mem _ hq)) h
theorem MOk.put {r : Rl} {ps : List Pt} : ∀ {es : List (PV × PV)}, MOk r ps es → ∀ (i : Nat), MOk r ps (putK (keyL r i) (.int .i64 (leM r ps i)) es)
  | [], _, i => fun p hp => by simp [putK] at hp; exact ⟨i, hp⟩
  | p :: es, hM, i => by
    obtain ⟨j, rfl⟩ := hM p List.mem_cons_self
    have hr : MOk r ps es := fun q hq => hM q (List.mem_cons_of_mem _ hq)
    have hf : putK (keyL r i) (.int .i64 (leM r ps i)) ((keyL r j, .int .i64 (leM r ps j)) :: es) = match eqK (keyL r i) (keyL r j) with
      | true => (keyL r i, .int .i64 (leM r ps i)) :: es
      | false => (keyL r j, .int .i64 (leM r ps j)) :: putK (keyL r i) (.int .i64 (leM r ps i)) es := rfl
    rw [hf]
    cases eqK (keyL r i) (keyL r j)
    · intro q hq
      rcases List.mem_cons.1 hq with rfl | hq
      · exact ⟨j, rfl⟩
      · exact MOk.put hr i q hq
    · intro q hq
      rcases List.mem_cons.1 hq with rfl | hq
      · exact ⟨i, rfl⟩
      · exact hr q hq
/-- All orders come to one of some states. -/
theorem ltS_seqJ {P : Program} {t r : LT} {K : AS → Prop} {σ : AS} (J : AS → Prop) (h1 : opsTS P t (fun τ' => ∃ τ, Sub τ τ' ∧ J τ) σ) (h2 : ∀ τ, J τ → opsTS P r K τ) : opsTS P (.seq t r) K σ := ⟨J, h1, h2⟩
section
attribute [local simp] Box.purge Site.isLoc
attribute [local simp] retFz frzL AS.frz AV.frz AV.frzL Box.frz AS.tidy AS.frzC frzsL
attribute [local simp] AS.exp expG Box.ren AV.map AV.mapL outsOk noRet Site.isRet Box.allS AV.allS AV.allSL retB dropL AS.adds renL outG outOk lentBx inG fnOf lookA List.findIdx?_cons
def knX (ps : List Pt) (r : Rl) (es : List (PV × PV)) : List (Site × Box) := [(.par 0, .cells [.mp (.par 1)]), (.par 1, .map es), (.par 2, leX ps r (.par 0) (.par 2))]
def leJ (ps : List Pt) (r : Rl) (i : Nat) (n m : Int) (es : List (PV × PV)) : AS := ⟨[(1, .ptr (.par 0) 0), (2, .pv (rdgR ps r)), (3, .ptr (.par 2) 0), (4, .ptr (.loc 4 0) 0), (28, .pv (.int .i64 n)), (36, .pv (.int .i64 m)), (38, .pv (.int .i64 r.drop))], (.loc 4 0, .cells [.pv (.int .i64 i), .pv (.int .i64 r.drop)]) :: knX ps r es⟩
set_option maxHeartbeats 8000000 in
theorem least1_c (ps : List Pt) (r : Rl) (hp : cvOk ps = true) (hr : r.ok = true) : ∀ (i : Nat), i < ps.length → ∀ (es : List (PV × PV)), MOk r ps es →
    CallsA Tryz.prog 227 [.pv (keyL r i), .ptr (.par 0) 0, .pv (rdgR ps r), .ptr (.par 2) 0] (knX ps r es) (fun q B => q = .pv (.int .i64 (leM r ps i)) ∧ ∃ es', MOk r ps es' ∧ B = knX ps r es') := by
  have hr' := hr
  unfold Rl.ok at hr'
  simp only [decide_eq_true_eq] at hr'
  have hlen := cv_len hp
  intro i
  induction i with
  | zero =>
    intro hi es hes
    have hk := hes.keys
    have hf := fun v => hes.find (i := 0) (v := v)
    have hpu := hes.put 0
    have hg := ptv_at hi
    have hle : leM r ps 0 = (ptD ps 0).lo := rfl
    refine calls_of_awpB [.par 0, .par 1, .par 2] mixed L227_ok (Nat.le_of_ble_eq_true rfl) ?_
    unfold keyL at hf hpu
    cases hfv : findV (.agg [.int .i64 (0 : Nat), .int .i64 r.drop]) es with
    | some v =>
      have := hf v hfv
      subst this
      simp at hfv
      simp [-getElem?_pos, L227, keyL, knX, leX, rdgR, hk, hfv]
      exact hes
    | none =>
      simp at hfv hpu
      rw [hle] at hpu
      simp [-getElem?_pos, -List.getElem?_map, L227, keyL, knX, leX, rdgR, ptsP, hk, hfv, hg, hle, hi, nblt]
      exact hpu
  | succ j ih =>
    intro hi es hes
    have hk := hes.keys
    have hf := fun v => hes.find (i := j + 1) (v := v)
    have hg := ptv_at hi
    have hle : leM r ps (j + 1) = max (ptD ps (j + 1)).lo (leM r ps j - r.drop + 1) := rfl
    refine calls_of_awpB [.par 0, .par 1, .par 2] mixed L227_ok (Nat.le_of_ble_eq_true rfl) ?_
    unfold keyL at hf
    generalize hN : j + 1 = N at *
    cases hfv : findV (.agg [.int .i64 N, .int .i64 r.drop]) es with
    | some v =>
      have := hf v hfv
      subst this
      simp [-getElem?_pos, L227, keyL, knX, leX, rdgR, hk, hfv]
      exact hes
    | none =>
      have h1 := ih (by omega) es hes
      have hb := leM_in hp hr'.1 (i := j) (by omega)
      have hN0 : 0 < N := by omega
      have hwN : IntKind.i64.wrap ((N : Int) - 1) = (j : Int) := by rw [wrap64 (by omega)]; omega
      have hgr := greatest_c (ptD ps N).lo (leM r ps j - r.drop + 1)
      have w1 : IntKind.i64.wrap (leM r ps j - r.drop) = leM r ps j - r.drop := wrap64 (by omega)
      have w2 : IntKind.i64.wrap (leM r ps j - r.drop + 1) = leM r ps j - r.drop + 1 := wrap64 (by omega)
      rw [← hle] at hgr
      unfold keyL at h1
      simp [-getElem?_pos, -List.getElem?_map, L227, keyL, knX, leX, rdgR, ptsP, hk, hfv, hg, hi, nblt, hN0, hwN]
      refine ltS_seqJ (fun τ => ∃ es', MOk r ps es' ∧ τ = leJ ps r N (ptD ps N).lo (leM r ps j) es') ?_ ?_
      · simp [ltS_alt, ltS_no, -getElem?_pos]
        repeat' (with_reducible refine And.intro ?_ ?_)
        all_goals
          refine call_lent (as' := [.pv (.agg [.int .i64 j, .int .i64 r.drop]), .ptr (.par 0) 0, .pv (rdgR ps r), .ptr (.par 2) 0]) (B := knX ps r es) (fs := []) (cs := [.ptr (.par 0) 0, .pv (rdgR ps r), .ptr (.par 2) 0]) 36 [.par 0, .par 1, .par 2] ?_ rfl rfl ?_ ?_ ?_ h1 ?_
          · rfl
          · simp [knX, leX, rdgR, ptsP]
          · rfl
          · rfl
          rintro r0 B0 ⟨rfl, es', hes', rfl⟩
          refine ⟨rfl, by simp [knX, leX], ?_⟩
          simp [-getElem?_pos, knX, leX]
          exact ⟨_, Sub.mk (by simp [leJ, rdgR, ptsP]) (by simp [leJ, knX, leX, rdgR, ptsP]), es', hes', rfl⟩
      · rintro τ ⟨es', hes', rfl⟩
        have hpu := hes'.put N
        have hk' := hes'.keys
        unfold keyL at hpu
        simp [ltS_alt, ltS_no, -getElem?_pos, leJ, knX, leX, w1, w2]
        refine .inl (call_pv [.loc 41 0] (fs := []) (xs := [intsR [(ptD ps N).lo, leM r ps j - r.drop + 1]]) (cs := []) rfl ?_ hgr ?_)
        · simp [intsR, intR]
        simp [-getElem?_pos, hk', fnA, knX, leX, unpvs]
        exact ⟨_, hpu, rfl, rfl⟩
end
end Go.Proofs.YtaffbiibcfeigaaGreat
/-! Contracts of layer 1 (curve): the iterator over the points that may be the yield point. -/
namespace Go.Proofs.YtaffbiibcfeigaaGreat
open Go.RowKit
set_option maxRecDepth 10000
set_option linter.unusedSimpArgs false
def yPr (r : Rl) (ps : List Pt) (i : Nat) : List Int × List Int := (bkL r ps i (frM r ps i), bkL r ps i (ptD ps i).hi)
def yFo (r : Rl) (ps : List Pt) (k : Nat) : Option (List Int × List Int) := ((yIs r ps k).map (yPr r ps)).foldl (enS r ps 1) none
theorem yIs_next {r : Rl} {ps : List Pt} {k : Nat} : yIs r ps (k + 1) = yIs r ps k ++ if yOk r ps k = true then [k] else [] := by
  unfold yIs
  rw [List.range_succ, List.filter_append, List.filter_cons, List.filter_nil]
theorem yFo_next {r : Rl} {ps : List Pt} {k : Nat} : yFo r ps (k + 1) = if yOk r ps k = true then enS r ps 1 (yFo r ps k) (yPr r ps k) else yFo r ps k := by
  unfold yFo
  rw [yIs_next, List.map_append, List.foldl_append]
  split <;> rfl
theorem yIs_stop {r : Rl} {ps : List Pt} {k : Nat} (h : (ptD ps k).hi < leM r ps k) : ∀ {m : Nat}, yIs r ps (k + m) = yIs r ps k
  | 0 => rfl
  | m + 1 => by
    have hno : yOk r ps (k + m) = false := by
      unfold yOk
      rw [Bool.and_eq_false_iff]
      refine .inl (List.all_eq_false.2 ⟨k, by rw [List.mem_range]; omega, ?_⟩)
      simp only [decide_eq_true_eq]
      omega
    rw [← Nat.add_assoc, yIs_next, hno, yIs_stop h]
    simp
theorem yOk_at {r : Rl} {ps : List Pt} {k : Nat} (h : ∀ j, j < k → leM r ps j ≤ (ptD ps j).hi) (hk : leM r ps k ≤ (ptD ps k).hi) : yOk r ps k = decide (frM r ps k ≤ (ptD ps k).hi) := by
  unfold yOk
  have : ((List.range (k + 1)).all fun j => decide (leM r ps j ≤ (ptD ps j).hi)) = true := by
    rw [List.all_eq_true]
    intro j hj
    rw [List.mem_range] at hj
    rcases Nat.lt_or_ge j k with h1 | h1
    · exact decide_eq_true (h j h1)
    · obtain rfl : j = k := by omega
      exact decide_eq_true hk
  rw [this, Bool.true_and]
theorem yFo_live {r : Rl} {ps : List Pt} (hp : cvOk ps = true) (hr : 1 ≤ r.drop) : ∀ {k : Nat}, k ≤ ps.length → enL ps (yFo r ps k)
  | 0, _ => fun t h => by cases h
  | k + 1, hk => by
    rw [yFo_next]
    split
    · rename_i hy
      have h1 := yOk_fr hy
      have h2 := leM_in hp hr (i := k) (by omega)
      have h3 := cv_ok hp (i := k) (by omega)
      have h4 : leM r ps k ≤ frM r ps k := by unfold frM; omega
      exact enL_step (yFo_live hp hr (by omega)) ⟨bkL_loads hp hr (by omega) (by omega), bkL_loads hp hr (by omega) (by omega)⟩
    · exact yFo_live hp hr (by omega)
section
attribute [local simp] Box.purge Site.isLoc
attribute [local simp] retFz frzL AS.frz AV.frz AV.frzL Box.frz AS.tidy AS.frzC frzsL
attribute [local simp] AS.exp expG Box.ren AV.map AV.mapL outsOk noRet Site.isRet Box.allS AV.allS AV.allSL retB dropL AS.adds renL outG outOk lentBx inG fnOf lookA List.findIdx?_cons
theorem mapPV_frz {s : Site} {e : Nat} {ys : List PV} : ∀ l : List PV, AV.frzL s e ys (l.map AV.pv) = l.map AV.pv
  | [] => rfl
  | x :: l => by rw [List.map_cons]; simp only [AV.frzL, AV.frz, mapPV_frz l]
theorem mapPV_frzA {s : Site} {e : Nat} {ys : List PV} {A B : List PV} : AV.frzL s e ys (A.map AV.pv ++ B.map AV.pv) = A.map AV.pv ++ B.map AV.pv := by rw [← List.map_append]; exact mapPV_frz _
noncomputable def yeB (ps : List Pt) (r : Rl) (s : Option (List Int × List Int)) (es : List (PV × PV)) : List (Site × Box) := laid 0 (enX ps r 1 s ++ [.cells [.mp (.par 5)], .map es, leX ps r (.par 4) (.par 6)])
def yeT (ps : List Pt) (r : Rl) (D : List PV) (k : Nat) : List (Nat × AV) := [(0, .yld (.par 0)), (1, .pv (rdgR ps r)), (2, .ptr (.par 6) 0), (3, .pv (.ref [.fn 229 [] [rdgR ps r]])), (16, .pv (.lst false 3 D)), (17, .pv (.int .i64 (ps.length - 1 : Nat))), (18, .pv (.int .i64 k))]
set_option maxHeartbeats 16000000 in
theorem yields1_c (ps : List Pt) (r : Rl) (hp : cvOk ps = true) (hr : r.ok = true) : CallsA Tryz.prog 230 [.yld (.par 0), .pv (rdgR ps r), .ptr (.par 6) 0, .pv (.ref [.fn 229 [] [rdgR ps r]])] (yeB ps r none [])
    (fun q B => q = .pv (.tup []) ∧ ∃ es, B = yeB ps r (yFo r ps (ps.length - 1)) es) := by
  have hr' := hr
  unfold Rl.ok at hr'
  simp only [decide_eq_true_eq] at hr'
  have hlen := cv_len hp
  have hw0 : IntKind.i64.wrap ((ps.length : Int) - 1) = ((ps.length - 1 : Nat) : Int) := by rw [wrap64 (by omega)]; omega
  refine calls_of_awpB [.par 0, .par 1, .par 2, .par 3, .par 4, .par 5, .par 6] mixed L230_ok (Nat.le_of_ble_eq_true rfl) ?_
  generalize hR : (fun (q : AV) (B : List (Site × Box)) => q = .pv (.tup []) ∧ ∃ es, B = yeB ps r (yFo r ps (ps.length - 1)) es) = R
  have hD1 : ((ps.map Pt.pv).take (ps.length - 1)).length = ps.length - 1 := by simp
  have hD2 : ∀ k, k < ps.length - 1 → ((ps.map Pt.pv).take (ps.length - 1))[k]? = some (.agg [.int .i64 (ptD ps k).st, .int .i64 (ptD ps k).lo, .int .i64 (ptD ps k).hi]) := fun k hk => by rw [List.getElem?_take, if_pos hk, ptv_at (by omega)]
  have hle0 : ps.length - 1 ≤ ps.length := by omega
  simp [-getElem?_pos, L230, rdgR, ptsP, hw0, nble, hle0]
  generalize hDD : List.take (ps.length - 1) (List.map Pt.pv ps) = D at *
  refine awp_loopS (fun n τ => ∃ k es, k ≤ ps.length - 1 ∧ n = ps.length - 1 - k ∧ MOk r ps es ∧ (∀ j, j < k → leM r ps j ≤ (ptD ps j).hi) ∧ τ = ⟨yeT ps r D k, yeB ps r (yFo r ps k) es⟩) ⟨_, ⟨yeT ps r D 0, yeB ps r (yFo r ps 0) []⟩, Sub.mk (by simp [yeT, rdgR, ptsP]) (by simp [yeB, enX, laid, yFo, yIs]), 0, [], Nat.zero_le _, rfl, (fun p h => nomatch h), (fun j h => absurd h (Nat.not_lt_zero j)), rfl⟩ ?_
  rintro J hJ n τ ⟨k, es, hk, rfl, hes, hpre, rfl⟩
  by_cases hlt : k < ps.length - 1
  · have hround := fun es' (h : MOk r ps es') h2 => hJ _ _ ⟨k + 1, es', hlt, rfl, h, h2, rfl⟩
    clear hJ
    have hg := hD2 k hlt
    have hkl : k < ps.length := by omega
    have hleast := least1_c ps r hp hr k hkl es hes
    unfold keyL at hleast
    simp [-getElem?_pos, -List.getElem?_map, yeT, yeB, enX, laid, leX, rdgR, ptsP, hlt, hg, hD1, nblt]
    refine call_lent (as' := [.pv (.agg [.int .i64 k, .int .i64 r.drop]), .ptr (.par 0) 0, .pv (rdgR ps r), .ptr (.par 2) 0]) (B := knX ps r es) (fs := []) (cs := [.ptr (.par 4) 0, .pv (rdgR ps r), .ptr (.par 6) 0]) 29 [.par 4, .par 5, .par 6] ?_ rfl rfl ?_ ?_ ?_ hleast ?_
    · rfl
    · simp [knX, leX, rdgR, ptsP]
    · rfl
    · rfl
    rintro r0 B0 ⟨rfl, es', hes', rfl⟩
    refine ⟨rfl, by simp [knX, leX], ?_⟩
    by_cases hst : (ptD ps k).hi < leM r ps k
    · have hyf : yFo r ps (ps.length - 1) = yFo r ps k := by
        have := yIs_stop hst (m := ps.length - 1 - k)
        rw [show k + (ps.length - 1 - k) = ps.length - 1 by omega] at this
        unfold yFo
        rw [this]
      simp [-getElem?_pos, -List.getElem?_map, knX, leX, rdgR, ptsP, hst, purge_comp, mapPV_allA, mapPV_mapA]
      rw [← hR, hyf]
      exact ⟨rfl, es', by simp [yeB, enX, laid, leX, rdgR, ptsP]⟩
    · have hk1 : IntKind.i64.wrap ((k : Int) + 1) = ((k + 1 : Nat) : Int) := by rw [wrap64 (by omega)]; omega
      have hkl1 : k + 1 < ps.length := by omega
      have hg2 := ptv_at hkl1
      have hb2 := cv_ok hp hkl1
      have hb1 := cv_ok hp hkl
      have hbl := leM_in hp hr'.1 hkl
      have w1 : IntKind.i64.wrap ((ptD ps (k + 1)).lo + r.drop) = (ptD ps (k + 1)).lo + r.drop := wrap64 (by omega)
      have hgr : Gives Tryz.prog 228 [intsR [leM r ps k, (ptD ps (k + 1)).lo + r.drop]] (.int .i64 (frM r ps k)) := greatest_c _ _
      have hpre1 : ∀ j, j < k + 1 → leM r ps j ≤ (ptD ps j).hi := fun j hj => by
        rcases Nat.lt_or_ge j k with h | h
        · exact hpre j h
        · obtain rfl : j = k := by omega
          omega
      have hround1 := hround es' hes' hpre1
      have hyat := yOk_at hpre (by omega)
      clear hround
      simp [-getElem?_pos, -List.getElem?_map, knX, leX, rdgR, ptsP, hst, hk1, hg2, hkl1, w1, nblt, purge_comp, mapPV_allA, mapPV_mapA]
      refine .inl (call_pv [.loc 49 0] (fs := []) (xs := [intsR [leM r ps k, (ptD ps (k + 1)).lo + r.drop]]) (cs := []) rfl ?_ hgr ?_)
      · simp [intsR, intR]
      have hfl : leM r ps k ≤ frM r ps k := by unfold frM; omega
      have hfm : yFo r ps (k + 1) = if frM r ps k ≤ (ptD ps k).hi then enS r ps 1 (yFo r ps k) (yPr r ps k) else yFo r ps k := by rw [yFo_next, hyat]; simp
      by_cases hfr : frM r ps k ≤ (ptD ps k).hi
      · rw [if_pos hfr] at hfm
        have hc1 := back1_c ps r hp hr k hkl (frM r ps k) (by omega)
        have hc2 := back1_c ps r hp hr k hkl (ptD ps k).hi (by omega)
        have hx1 := padX_len (l := bkL r ps k (frM r ps k)) (by rw [bkL_len]; omega)
        have hx2 := padX_len (l := bkL r ps k (ptD ps k).hi) (by rw [bkL_len]; omega)
        have hyl := (enI ps r hp hr 1 (by omega)).yields (yFo r ps k) () k (yPr r ps k) (yFo_live hp hr'.1 (by omega)) ⟨bkL_loads hp hr'.1 hkl (by omega), bkL_loads hp hr'.1 hkl (by omega)⟩
        have hyl1 : YieldsA Tryz.prog 0 [.pv (.int .i64 k), .pv (trP (yPr r ps k))] (laid 0 (enX ps r 1 (yFo r ps k))) (fun r0 B => r0 = .pv (.bool true) ∧ B = laid 0 (enX ps r 1 (yFo r ps (k + 1)))) := by rw [hfm]; exact hyl
        clear hyl
        unfold trP yPr at hyl1
        unfold padP at hc1 hc2
        generalize padX (bkL r ps k (frM r ps k)) = XL at *
        generalize padX (bkL r ps k (ptD ps k).hi) = XH at *
        simp [-getElem?_pos, -List.getElem?_map, fnA, unpvs, hfr, purge_comp, mapPV_allA, mapPV_mapA, mapPV_frzA]
        refine call_pv [] (fs := []) (xs := [.int .i64 k, .int .i64 (frM r ps k)]) (cs := [rdgR ps r]) rfl rfl hc1 ?_
        simp [-getElem?_pos, -List.getElem?_map, frzsL, purge_comp]
        refine .inl (call_pv [] (fs := []) (xs := [.int .i64 k, .int .i64 (ptD ps k).hi]) (cs := [rdgR ps r]) rfl rfl hc2 ?_)
        simp [-getElem?_pos, -List.getElem?_map, frzsL, purge_comp, hx1, hx2, drop_z40, unpvs_app2]
        refine yield_lent 70 0 [.par 0, .par 1, .par 2, .par 3] (as' := [.pv (.int .i64 k), .pv (.agg (XL ++ XH))]) rfl rfl rfl rfl ?_ rfl rfl hyl1 ?_
        · simp [enX, laid, rdgR, ptsP, mapPV_allA, mapPV_mapA]
        rintro q B' ⟨rfl, rfl⟩
        refine ⟨rfl, fun p hq => laid_ok (n := 4) (L := enX ps r 1 (yFo r ps (k + 1))) (by simp [enX]) ((enI ps r hp hr 1 (by omega)).cl (yFo r ps (k + 1)) ()) p hq, ?_⟩
        simp [-getElem?_pos, -List.getElem?_map, enX, laid, purge_comp, mapPV_allA, mapPV_mapA]
        exact ⟨_, _, (by omega : ps.length - 1 - (k + 1) < ps.length - 1 - k), Sub.mk (by simp [yeT, rdgR, ptsP, hk1]) (by simp [yeB, enX, laid, leX, rdgR, ptsP, purge_comp]), hround1⟩
      · rw [if_neg hfr] at hfm
        rw [hfm] at hround1
        simp [-getElem?_pos, -List.getElem?_map, fnA, unpvs, hfr, purge_comp, mapPV_allA, mapPV_mapA, mapPV_frzA]
        exact ⟨_, _, (by omega : ps.length - 1 - (k + 1) < ps.length - 1 - k), Sub.mk (by simp [yeT, rdgR, ptsP, hk1]) (by simp [yeB, enX, laid, leX, rdgR, ptsP]), hround1⟩
  · have he : k = ps.length - 1 := by omega
    subst he
    clear hJ
    simp [-getElem?_pos, -List.getElem?_map, yeT, yeB, enX, laid, leX, rdgR, ptsP, purge_comp, mapPV_allA, mapPV_mapA]
    rw [← hR]
    exact ⟨rfl, es, by simp [yeB, enX, laid, leX, rdgR, ptsP]⟩
end
end Go.Proofs.YtaffbiibcfeigaaGreat
/-! Contracts of layer 1 (curve): the iterator over the points where the line may be met. -/
namespace Go.Proofs.YtaffbiibcfeigaaGreat
open Go.RowKit
set_option maxRecDepth 10000
set_option linter.unusedSimpArgs false
def mPr (r : Rl) (ps : List Pt) (i : Nat) : List Int × List Int := (mLe r ps i, mMo r ps i)
def mFo (r : Rl) (ps : List Pt) (k : Nat) : Option (List Int × List Int) := ((mIs r ps k).map (mPr r ps)).foldl (enS r ps 2) none
theorem mIs_next {r : Rl} {ps : List Pt} {k : Nat} : mIs r ps (k + 1) = mIs r ps k ++ if mOk r ps k = true then [k] else [] := by
  unfold mIs
  rw [List.range_succ, List.filter_append, List.filter_cons, List.filter_nil]
theorem mFo_next {r : Rl} {ps : List Pt} {k : Nat} : mFo r ps (k + 1) = if mOk r ps k = true then enS r ps 2 (mFo r ps k) (mPr r ps k) else mFo r ps k := by
  unfold mFo
  rw [mIs_next, List.map_append, List.foldl_append]
  split <;> rfl
theorem mIs_stop {r : Rl} {ps : List Pt} {k : Nat} (h : (ptD ps k).hi ≤ lnM r ps k) : ∀ {m : Nat}, mIs r ps (k + 1 + m) = mIs r ps (k + 1)
  | 0 => rfl
  | m + 1 => by
    have hno : mOk r ps (k + 1 + m) = false := by
      unfold mOk
      rw [Bool.and_eq_false_iff]
      refine .inl (List.all_eq_false.2 ⟨k, by rw [List.mem_range]; omega, ?_⟩)
      simp only [decide_eq_true_eq]
      omega
    rw [← Nat.add_assoc, mIs_next, hno, mIs_stop h]
    simp
theorem mOk_at {r : Rl} {ps : List Pt} {k : Nat} (h : ∀ j, j < k → lnM r ps j < (ptD ps j).hi) : mOk r ps k = decide ((ptD ps k).lo ≤ lnM r ps k) := by
  unfold mOk
  have : ((List.range k).all fun j => decide (lnM r ps j < (ptD ps j).hi)) = true := by
    rw [List.all_eq_true]
    intro j hj
    rw [List.mem_range] at hj
    exact decide_eq_true (h j hj)
  rw [this, Bool.true_and]
theorem mPr_loads {r : Rl} {ps : List Pt} (hp : cvOk ps = true) {k : Nat} (hk : k < ps.length) (hm : mOk r ps k = true) : loadsB ps (mLe r ps k) ∧ loadsB ps (mMo r ps k) := by
  obtain ⟨h1, h2⟩ := mOk_hi hm
  have h0 := cv_ok hp hk
  refine ⟨⟨mLe_len, fun i hi => ?_⟩, ⟨mMo_len, fun i hi => ?_⟩⟩
  · rw [mLe_get hk hi]
    have h3 := cv_ok hp hi
    split
    · omega
    · split
      · have := h1 i (by omega); omega
      · omega
  · rw [mMo_get hk hi]
    have h3 := cv_ok hp hi
    split
    · subst_vars; omega
    · omega
theorem mFo_live {r : Rl} {ps : List Pt} (hp : cvOk ps = true) : ∀ {k : Nat}, k ≤ ps.length → enL ps (mFo r ps k)
  | 0, _ => fun t h => by cases h
  | k + 1, hk => by
    rw [mFo_next]
    split
    · rename_i hm
      exact enL_step (mFo_live hp (by omega)) (mPr_loads hp (by omega) hm)
    · exact mFo_live hp (by omega)
theorem set_tcd {α : Type} {l : List α} {k : Nat} {x : α} (h : k < l.length) : List.take k l ++ x :: List.drop (k + 1) l = l.set k x := by
  rw [← splice_set h]
  simp [splice]
/-- The cells of two truths. -/
def meC (a b : List Int) : List AV := padC a ++ padC b
theorem meC_len {a b : List Int} (h1 : a.length ≤ 20) (h2 : b.length ≤ 20) : (meC a b).length = 40 := by unfold meC; rw [List.length_append, padC_len h1, padC_len h2]
theorem meC_set1 {a b : List Int} (h1 : a.length ≤ 20) {k : Nat} (hk : k < a.length) {x : Int} : List.take k (meC a b) ++ AV.pv (.int .i64 x) :: List.drop (k + 1) (meC a b) = meC (a.set k x) b := by
  have hl := padC_len h1
  rw [set_tcd (by unfold meC; rw [List.length_append]; omega)]
  unfold meC
  rw [List.set_append_left _ _ (by omega), padC_set hk]
theorem meC_set2 {a b : List Int} (h1 : a.length ≤ 20) (h2 : b.length ≤ 20) {k : Nat} (hk : k < b.length) {x : Int} : List.take (20 + k) (meC a b) ++ AV.pv (.int .i64 x) :: List.drop (20 + k + 1) (meC a b) = meC a (b.set k x) := by
  have hl := padC_len h1
  have hl2 := padC_len h2
  rw [set_tcd (by unfold meC; rw [List.length_append]; omega)]
  unfold meC
  rw [List.set_append_right _ _ (by omega), hl, show 20 + k - 20 = k by omega, padC_set hk]
theorem meC_un {a b : List Int} : unpvs (meC a b) = some (padX a ++ padX b) := unpvs_app2
theorem meC_purge {a b : List Int} (d : Nat) : (meC a b).map (AV.purge d) = meC a b := by unfold meC; rw [List.map_append, padC_purge, padC_purge]
theorem meC_frz {a b : List Int} {s : Site} {e : Nat} {ys : List PV} : AV.frzL s e ys (meC a b) = meC a b := mapPV_frzA
section
attribute [local simp] Box.purge Site.isLoc
attribute [local simp] retFz frzL AS.frz AV.frz AV.frzL Box.frz AS.tidy AS.frzC frzsL
attribute [local simp] AS.exp expG Box.ren AV.map AV.mapL outsOk noRet Site.isRet Box.allS AV.allS AV.allSL retB dropL AS.adds renL outG outOk lentBx inG fnOf lookA List.findIdx?_cons
noncomputable def mgB (ps : List Pt) (r : Rl) (s : Option (List Int × List Int)) : List (Site × Box) := laid 0 (enX ps r 2 s)
def mgT (ps : List Pt) (r : Rl) (k : Nat) : List (Nat × AV) := [(0, .yld (.par 0)), (1, .pv (rdgR ps r)), (8, .pv (ptsP ps)), (9, .pv (.int .i64 ps.length)), (10, .pv (.int .i64 k))]
def mgI (ps : List Pt) (r : Rl) (k : Nat) : List (Nat × AV) := (3, .pv (.int .i64 k)) :: (4, .ptr (.loc 4 0) 0) :: mgT ps r k
set_option maxHeartbeats 16000000 in
theorem meetings1_c (ps : List Pt) (r : Rl) (hp : cvOk ps = true) (hr : r.ok = true) : CallsA Tryz.prog 231 [.yld (.par 0), .pv (rdgR ps r)] (mgB ps r none)
    (fun q B => q = .pv (.tup []) ∧ B = mgB ps r (enM r ps 2)) := by
  have hr' := hr
  unfold Rl.ok at hr'
  simp only [decide_eq_true_eq] at hr'
  have hlen := cv_len hp
  refine calls_of_awpB [.par 0, .par 1, .par 2, .par 3] mixed L231_ok (Nat.le_of_ble_eq_true rfl) ?_
  generalize hR : (fun (q : AV) (B : List (Site × Box)) => q = .pv (.tup []) ∧ B = mgB ps r (enM r ps 2)) = R
  have hpl : (ps.map Pt.pv).length = ps.length := by simp
  simp [-getElem?_pos, L231, rdgR, ptsP]
  refine awp_loopS (fun n τ => ∃ k, k ≤ ps.length ∧ n = ps.length - k ∧ (∀ j, j < k → lnM r ps j < (ptD ps j).hi) ∧ τ = ⟨mgT ps r k, mgB ps r (mFo r ps k)⟩) ⟨_, ⟨mgT ps r 0, mgB ps r (mFo r ps 0)⟩, Sub.mk (by simp [mgT, rdgR, ptsP]) (by simp [mgB, enX, laid, mFo, mIs]), 0, Nat.zero_le _, rfl, (fun j h => absurd h (Nat.not_lt_zero j)), rfl⟩ ?_
  rintro J hJ n τ ⟨k, hk, rfl, hpre, rfl⟩
  by_cases hlt : k < ps.length
  · have hround := fun h2 => hJ _ _ ⟨k + 1, hlt, rfl, h2, rfl⟩
    clear hJ
    have hg := ptv_at hlt
    have hline := line_c ps r k hlt hp hr
    have hyat := mOk_at hpre
    have hgk := cv_ok hp hlt
    have hhi := hil_c ps r hlen.2
    have hkw : IntKind.i64.wrap ((k : Int) + 1) = ((k + 1 : Nat) : Int) := by rw [wrap64 (by omega)]; omega
    simp [-getElem?_pos, -List.getElem?_map, mgT, mgB, enX, laid, rdgR, ptsP, hlt, hg, nblt]
    refine call_pv [] (fs := []) (xs := [rdgP ps r, .int .i64 k]) (cs := []) rfl rfl hline ?_
    by_cases hlo : (ptD ps k).lo ≤ lnM r ps k
    · simp [-getElem?_pos, -List.getElem?_map, frzsL, hlo, purge_comp, mapPV_allA, mapPV_mapA]
      have hll : (hiL ps).length = ps.length := by simp [hiL]
      have hxh := padX_len (l := hiL ps) (by omega)
      have hzz := meC_un (a := hiL ps) (b := hiL ps)
      have hm40 : List.map AV.pv (padX (hiL ps)) ++ List.map AV.pv (padX (hiL ps)) = meC (hiL ps) (hiL ps) := rfl
      have hml := meC_len (a := hiL ps) (b := hiL ps) (by omega) (by omega)
      have hmt : List.take 40 (meC (hiL ps) (hiL ps)) = meC (hiL ps) (hiL ps) := List.take_of_length_le (by omega)
      refine ltS_seq ⟨(5, .ptr (.loc 5 0) 0) :: (26, .pv (.agg (padX (hiL ps) ++ padX (hiL ps)))) :: mgI ps r k, (.loc 5 0, .cells (List.replicate 40 (.pv (.int .i64 0)))) :: (.loc 4 0, .cells [.pv (.int .i64 (ptD ps k).st), .pv (.int .i64 (ptD ps k).lo), .pv (.int .i64 (ptD ps k).hi)]) :: mgB ps r (mFo r ps k)⟩ ?_ ?_
      · simp [ltS_alt, ltS_no, -getElem?_pos]
        repeat' (with_reducible refine And.intro ?_ ?_)
        all_goals
          refine call_pv [] (fs := []) (xs := [rdgP ps r]) (cs := []) rfl rfl hhi ?_
          simp [ltS_alt, ltS_no, -getElem?_pos, frzsL, purge_comp, mapPV_allA, mapPV_mapA, hxh]
          repeat' (with_reducible refine And.intro ?_ ?_)
          all_goals
            refine .inl (call_pv [] (fs := []) (xs := [rdgP ps r]) (cs := []) rfl rfl hhi ?_)
            simp [ltS_alt, ltS_no, -getElem?_pos, frzsL, purge_comp, mapPV_allA, mapPV_mapA, padP, hxh, drop_z40, unpvs_app2]
            exact Sub.mk (by simp [mgI, mgT, rdgR, ptsP]) (by simp [mgB, enX, laid, rdgR, ptsP, purge_comp])
      · have hkb : k.blt 20 = true := by rw [nblt]; exact decide_eq_true (by omega)
        have hk40 : (k + 1).ble 40 = true := by rw [nble]; exact decide_eq_true (by omega)
        have hk41 : (20 + k + 1).ble 40 = true := by rw [nble]; exact decide_eq_true (by omega)
        have hmin : (if lnM r ps k < (ptD ps k).hi then lnM r ps k else (ptD ps k).hi) = min (ptD ps k).hi (lnM r ps k) := by split <;> omega
        have hs1 := meC_set1 (a := hiL ps) (b := hiL ps) (by omega) (k := k) (by omega) (x := (ptD ps k).lo)
        have hml1 := meC_len (a := (hiL ps).set k (ptD ps k).lo) (b := hiL ps) (by rw [List.length_set]; omega) (by omega)
        have hs2 := meC_set2 (a := (hiL ps).set k (ptD ps k).lo) (b := hiL ps) (by rw [List.length_set]; omega) (by omega) (k := k) (by omega) (x := min (ptD ps k).hi (lnM r ps k))
        simp [ltS_alt, ltS_no, -getElem?_pos, mgI, mgT, mgB, enX, laid, rdgR, ptsP, hm40, hml, hmt, hkb]
        refine ltS_seq ⟨(28, .pv (.int .i64 k)) :: (41, .ptr (.loc 5 0) 20) :: (38, .pv (.int .i64 (min (ptD ps k).hi (lnM r ps k)))) :: (5, .ptr (.loc 5 0) 0) :: mgI ps r k, (.loc 5 0, .cells (meC ((hiL ps).set k (ptD ps k).lo) (hiL ps))) :: (.loc 4 0, .cells [.pv (.int .i64 (ptD ps k).st), .pv (.int .i64 (ptD ps k).lo), .pv (.int .i64 (ptD ps k).hi)]) :: mgB ps r (mFo r ps k)⟩ ?_ ?_
        · simp [ltS_alt, ltS_no, -getElem?_pos, hml, hs1, hk40]
          repeat' (with_reducible refine And.intro ?_ ?_)
          all_goals
            refine call_pv [] (fs := []) (xs := [rdgP ps r, .int .i64 k]) (cs := []) rfl rfl hline ?_
            simp [ltS_alt, ltS_no, -getElem?_pos, frzsL, purge_comp, mapPV_allA, mapPV_mapA, hml, hs1, hk40, hmin, meC_purge]
            repeat' (with_reducible refine And.intro ?_ ?_)
            all_goals exact Sub.mk (by simp [mgI, mgT, rdgR, ptsP]) (by simp [mgB, enX, laid, rdgR, ptsP, purge_comp])
        · simp [ltS_alt, ltS_no, -getElem?_pos, mgI, mgT, mgB, enX, laid, rdgR, ptsP, hkb, hml1, hs2, hk41]
          have hmt : mOk r ps k = true := by rw [hyat]; exact decide_eq_true hlo
          have hfm : mFo r ps (k + 1) = enS r ps 2 (mFo r ps k) (mPr r ps k) := by rw [mFo_next, hmt]; simp
          have hyl := (enI ps r hp hr 2 (by omega)).yields (mFo r ps k) () k (mPr r ps k) (mFo_live hp (by omega)) (mPr_loads hp hlt hmt)
          have hyl1 : YieldsA Tryz.prog 0 [.pv (.int .i64 k), .pv (trP (mPr r ps k))] (laid 0 (enX ps r 2 (mFo r ps k))) (fun r0 B => r0 = .pv (.bool true) ∧ B = laid 0 (enX ps r 2 (mFo r ps (k + 1)))) := by rw [hfm]; exact hyl
          clear hyl
          unfold trP mPr at hyl1
          have hB : (hiL ps).set k (min (ptD ps k).hi (lnM r ps k)) = mMo r ps k := rfl
          have hleL := mLe_len (r := r) (ps := ps) (i := k)
          have hmoL := mMo_len (r := r) (ps := ps) (i := k)
          have hun := meC_un (a := mLe r ps k) (b := mMo r ps k)
          have hl40 := meC_len (a := mLe r ps k) (b := mMo r ps k) (by omega) (by omega)
          have ht40 : List.take 40 (meC (mLe r ps k) (mMo r ps k)) = meC (mLe r ps k) (mMo r ps k) := List.take_of_length_le (by omega)
          rw [hB]
          by_cases hk0 : 0 < k
          · have hw1 : IntKind.i64.wrap ((k : Int) - 1) = ((k - 1 : Nat) : Int) := by rw [wrap64 (by omega)]; omega
            have hgj := ptv_at (ps := ps) (k := k - 1) (by omega)
            have hlj := line_c ps r (k - 1) (by omega) hp hr
            have hbj := lnM_bd hp hr' (i := k - 1) (by omega)
            have hw2 : IntKind.i64.wrap (lnM r ps (k - 1) + 1) = lnM r ps (k - 1) + 1 := wrap64 (by omega)
            have hgr := greatest_c (ptD ps (k - 1)).lo (lnM r ps (k - 1) + 1)
            have hkj : (k - 1).blt 20 = true := by rw [nblt]; exact decide_eq_true (by omega)
            have hkj40 : (k - 1 + 1).ble 40 = true := by rw [nble]; exact decide_eq_true (by omega)
            have hkj41 : k.ble 40 = true := by rw [nble]; exact decide_eq_true (by omega)
            have hs3 := meC_set1 (a := (hiL ps).set k (ptD ps k).lo) (b := mMo r ps k) (by rw [List.length_set]; omega) (k := k - 1) (by rw [List.length_set]; omega) (x := max (ptD ps (k - 1)).lo (lnM r ps (k - 1) + 1))
            have hA : ((hiL ps).set k (ptD ps k).lo).set (k - 1) (max (ptD ps (k - 1)).lo (lnM r ps (k - 1) + 1)) = mLe r ps k := by
              obtain ⟨j, rfl⟩ : ∃ j, k = j + 1 := ⟨k - 1, by omega⟩
              rfl
            rw [hA] at hs3
            have hl41 := meC_len (a := (hiL ps).set k (ptD ps k).lo) (b := mMo r ps k) (by rw [List.length_set]; omega) (by omega)
            have hp1 := fun d => meC_purge (a := (hiL ps).set k (ptD ps k).lo) (b := mMo r ps k) d
            have hf1 := fun s e ys => meC_frz (a := (hiL ps).set k (ptD ps k).lo) (b := mMo r ps k) (s := s) (e := e) (ys := ys)
            generalize meC ((hiL ps).set k (ptD ps k).lo) (mMo r ps k) = C1 at *
            generalize hj : k - 1 = j at *
            simp [-getElem?_pos, -List.getElem?_map, hk0, hw1, hgj]
            refine call_pv [] (fs := []) (xs := [rdgP ps r, .int .i64 j]) (cs := []) rfl rfl hlj ?_
            simp [-getElem?_pos, -List.getElem?_map, frzsL, hw2, purge_comp, hp1]
            refine .inl (call_pv [.loc 61 0] (fs := []) (xs := [intsR [(ptD ps j).lo, lnM r ps j + 1]]) (cs := []) rfl ?_ hgr ?_)
            · simp [intsR, intR]
            simp [-getElem?_pos, -List.getElem?_map, fnA, unpvs, purge_comp, hp1, hf1, hkj, hl41, hkj40, hs3, ht40, hl40, hun, mapPV_frzA]
            refine yield_lent 68 0 [.par 0, .par 1, .par 2, .par 3] (as' := [.pv (.int .i64 k), .pv (.agg (padX (mLe r ps k) ++ padX (mMo r ps k)))]) rfl rfl rfl rfl ?_ rfl rfl hyl1 ?_
            · simp [enX, laid, rdgR, ptsP, mapPV_allA, mapPV_mapA, mapPV_frzA, purge_comp]
            rintro q B' ⟨rfl, rfl⟩
            refine ⟨rfl, fun p hq => laid_ok (n := 4) (L := enX ps r 2 (mFo r ps (k + 1))) (by simp [enX]) ((enI ps r hp hr 2 (by omega)).cl (mFo r ps (k + 1)) ()) p hq, ?_⟩
            simp [-getElem?_pos, -List.getElem?_map, enX, laid, purge_comp, mapPV_allA, mapPV_mapA]
            refine call_pv [] (fs := []) (xs := [rdgP ps r, .int .i64 k]) (cs := []) rfl rfl hline ?_
            by_cases hst : (ptD ps k).hi ≤ lnM r ps k
            · have hem : enM r ps 2 = mFo r ps (k + 1) := by
                have := mIs_stop hst (m := ps.length - (k + 1))
                rw [show k + 1 + (ps.length - (k + 1)) = ps.length by omega] at this
                show ((mIs r ps ps.length).map (mPr r ps)).foldl (enS r ps 2) none = _
                rw [this]; rfl
              simp [-getElem?_pos, -List.getElem?_map, frzsL, hst, purge_comp, mapPV_allA, mapPV_mapA]
              rw [← hR]
              exact ⟨rfl, by simp [hem, mgB, enX, laid, rdgR, ptsP]⟩
            · have hround1 := hround (fun j hj => by
                rcases Nat.lt_or_ge j k with h | h
                · exact hpre j h
                · obtain rfl : j = k := by omega
                  omega)
              simp [-getElem?_pos, -List.getElem?_map, frzsL, hst, purge_comp, mapPV_allA, mapPV_mapA]
              exact ⟨_, _, (by omega : ps.length - (k + 1) < ps.length - k), Sub.mk (by simp [mgT, rdgR, ptsP, hkw]) (by simp [mgB, enX, laid, rdgR, ptsP, purge_comp]), hround1⟩
          · have hA : (hiL ps).set k (ptD ps k).lo = mLe r ps k := by
              obtain rfl : k = 0 := by omega
              rfl
            rw [hA]
            simp [-getElem?_pos, -List.getElem?_map, hk0, ht40, hl40, hun]
            refine yield_lent 68 0 [.par 0, .par 1, .par 2, .par 3] (as' := [.pv (.int .i64 k), .pv (.agg (padX (mLe r ps k) ++ padX (mMo r ps k)))]) rfl rfl rfl rfl ?_ rfl rfl hyl1 ?_
            · simp [enX, laid, rdgR, ptsP, mapPV_allA, mapPV_mapA, mapPV_frzA, purge_comp]
            rintro q B' ⟨rfl, rfl⟩
            refine ⟨rfl, fun p hq => laid_ok (n := 4) (L := enX ps r 2 (mFo r ps (k + 1))) (by simp [enX]) ((enI ps r hp hr 2 (by omega)).cl (mFo r ps (k + 1)) ()) p hq, ?_⟩
            simp [-getElem?_pos, -List.getElem?_map, enX, laid, purge_comp, mapPV_allA, mapPV_mapA]
            refine call_pv [] (fs := []) (xs := [rdgP ps r, .int .i64 k]) (cs := []) rfl rfl hline ?_
            by_cases hst : (ptD ps k).hi ≤ lnM r ps k
            · have hem : enM r ps 2 = mFo r ps (k + 1) := by
                have := mIs_stop hst (m := ps.length - (k + 1))
                rw [show k + 1 + (ps.length - (k + 1)) = ps.length by omega] at this
                show ((mIs r ps ps.length).map (mPr r ps)).foldl (enS r ps 2) none = _
                rw [this]; rfl
              simp [-getElem?_pos, -List.getElem?_map, frzsL, hst, purge_comp, mapPV_allA, mapPV_mapA]
              rw [← hR]
              exact ⟨rfl, by simp [hem, mgB, enX, laid, rdgR, ptsP]⟩
            · have hround1 := hround (fun j hj => by
                rcases Nat.lt_or_ge j k with h | h
                · exact hpre j h
                · obtain rfl : j = k := by omega
                  omega)
              simp [-getElem?_pos, -List.getElem?_map, frzsL, hst, purge_comp, mapPV_allA, mapPV_mapA]
              exact ⟨_, _, (by omega : ps.length - (k + 1) < ps.length - k), Sub.mk (by simp [mgT, rdgR, ptsP, hkw]) (by simp [mgB, enX, laid, rdgR, ptsP, purge_comp]), hround1⟩
    · have hmn : mOk r ps k = false := by rw [hyat]; exact decide_eq_false hlo
      have hfm : mFo r ps (k + 1) = mFo r ps k := by rw [mFo_next, hmn]; simp
      have hnh : ¬ (ptD ps k).hi ≤ lnM r ps k := by omega
      have hround1 := hround (fun j hj => by
        rcases Nat.lt_or_ge j k with h | h
        · exact hpre j h
        · obtain rfl : j = k := by omega
          omega)
      rw [hfm] at hround1
      simp [-getElem?_pos, -List.getElem?_map, frzsL, hlo, purge_comp, mapPV_allA, mapPV_mapA]
      refine call_pv [] (fs := []) (xs := [rdgP ps r, .int .i64 k]) (cs := []) rfl rfl hline ?_
      simp [-getElem?_pos, -List.getElem?_map, frzsL, hnh, purge_comp, mapPV_allA, mapPV_mapA]
      exact ⟨_, _, (by omega : ps.length - (k + 1) < ps.length - k), Sub.mk (by simp [mgT, rdgR, ptsP, hkw]) (by simp [mgB, enX, laid, rdgR, ptsP, purge_comp]), hround1⟩
  · have he : k = ps.length := by omega
    subst he
    clear hJ
    have hem : enM r ps 2 = mFo r ps ps.length := rfl
    simp [-getElem?_pos, -List.getElem?_map, mgT, mgB, enX, laid, rdgR, ptsP, purge_comp, mapPV_allA, mapPV_mapA]
    rw [← hR]
    exact ⟨rfl, by simp [hem, mgB, enX, laid, rdgR, ptsP]⟩
end
end Go.Proofs.YtaffbiibcfeigaaGreat
