/- Contracts of layer 1's law (curve): Thin, Fault, Curve, Rule, Picked. (Several texts in one.) -/
import Derived.Test.YtaffbiibcfeigaaGreatLmB
import Derived.Test.YtaffbiibcfeigaaGreatLmA
import Derived.Test.YtaffbiibcfeigaaGreatBaseD
set_option linter.unusedVariables false
set_option linter.unusedSimpArgs false
/-! Contracts of layer 1's law (curve): Thin, Fault, Curve, Rule, Picked. -/
namespace Go.Proofs.YtaffbiibcfeigaaGreat
open Go.RowKit
attribute [local simp] Box.purge Site.isLoc
set_option maxRecDepth 10000
set_option linter.unusedSimpArgs false
theorem rule_c (r : Rl) : Gives Tryz.prog 35 [r.pv] r.pv := by
  refine calls_of_awpS mixed L35_ok (Nat.le_of_ble_eq_true rfl) ?_
  simp [-getElem?_pos, L35, Rl.pv]
section
attribute [local simp] retFz frzL AS.frz AV.frz AV.frzL Box.frz AS.tidy AS.frzC
def cvK (ps : List Pt) (k : Nat) : AS := ⟨[(1, .ptr (.loc 1 0) 0), (2, .ptr (.loc 2 0) 0), (3, .ptr (.loc 3 0) 0), (4, .pv (.int .i64 k))], [(.loc 31 0, .arr 206 3 ((ps.take k).map Pt.pv)), (.loc 3 0, .cells [.vec (.loc 31 0) 3 0 k]), (.loc 1 0, .cells [.pv (ptsP ps)]), (.loc 2 0, .cells [.pv (.emp (some true))])]⟩
theorem curve_c (ps : List Pt) (h1 : ps.length ≤ 1000) : Gives Tryz.prog 34 [cvP ps] (cvP ps) := by
  refine calls_of_awpF [.loc 31 0] mixed L34_ok (Nat.le_of_ble_eq_true rfl) ?_
  generalize hR : (fun (q : AV) (B : List (Site × Box)) => q = .pv (cvP ps) ∧ B = []) = R
  simp [-getElem?_pos, L34, cvP, ptsP]
  refine awp_loopS (fun n τ => ∃ k : Nat, k ≤ ps.length ∧ n = ps.length - k ∧ τ = cvK ps k) ⟨ps.length, cvK ps 0, Sub.trans' (Sub.mk (by simp [cvK, AS.vecC]) (by simp [cvK, AS.vecC, ptsP])) (vecC 31 206 3 (s := .loc 3 0) (cs := [.pv (.emp (some true))]) 0 rfl rfl (by decide)), 0, by omega, rfl, rfl⟩ ?_
  rintro J hJ n τ ⟨k, hk, rfl, rfl⟩
  by_cases hlt : k < ps.length
  · have hg := ptv_at hlt
    have hw := wrapR (k := k) (by omega)
    have hround := hJ _ _ ⟨k + 1, hlt, rfl, rfl⟩
    have htk : (ps.take (k + 1)).map Pt.pv = (ps.take k).map Pt.pv ++ [.agg [.int .i64 (ptD ps k).st, .int .i64 (ptD ps k).lo, .int .i64 (ptD ps k).hi]] := by rw [List.take_add_one, ptD_get hlt]; simp [Pt.pv]
    have hk6 : k + 1 ≤ 1000000 := by omega
    have htl : ((ps.take k).map Pt.pv).length = k := by rw [List.length_map, List.length_take]; omega
    have hmeas : ps.length - (k + 1) < ps.length - k := by omega
    clear hJ
    generalize hTL : (ps.take k).map Pt.pv = TL at *
    simp [-getElem?_pos, -List.getElem?_map, -decide_eq_true_eq, cvK, ptsP, hlt, hg, nble, nblt, hw, hk6, hTL, htl]
    refine ⟨_, _, hmeas, Sub.mk ?_ ?_, hround⟩
    · simp [cvK]
    · simp [cvK, ptsP, -List.map_take, -List.take_succ_cons, htk, hTL]
  have he : k = ps.length := by omega
  subst he
  clear hJ
  have hm2 : (ps.map Pt.pv).take ps.length = ps.map Pt.pv := List.take_of_length_le (by simp)
  simp [-getElem?_pos, -List.getElem?_map, -decide_eq_true_eq, cvK, ptsP, hm2]
  rw [← hR]
  simp [cvP, ptsP]
end
/-- A point is as it should be, behind the one before it. -/
def prB (ps : List Pt) : Nat → Bool
  | 0 => true
  | j + 1 => decide ((ptD ps j).st < (ptD ps (j + 1)).st)
def cfB (ps : List Pt) (k : Nat) : Bool := inR (ptD ps k).st 0 1000 && prB ps k && (inR (ptD ps k).lo 0 (ptD ps k).hi && decide ((ptD ps k).hi ≤ 100000))
theorem cf_bad {ps : List Pt} {k : Nat} (hk : k < ps.length) (h : cfB ps k = false) : cvOk ps = false := by
  cases e : cvOk ps
  · rfl
  · have h1 := cv_ok e hk
    have : cfB ps k = true := by
      unfold cfB inR
      simp only [Bool.and_eq_true, decide_eq_true_eq]
      refine ⟨⟨⟨h1.1, h1.2.1⟩, ?_⟩, ⟨h1.2.2.1, h1.2.2.2.1⟩, h1.2.2.2.2⟩
      cases k with
      | zero => rfl
      | succ j => exact decide_eq_true (cv_rise e hk)
    rw [h] at this; cases this
theorem cf_ok {ps : List Pt} (h0 : 0 < ps.length) (h1 : ps.length ≤ 20) (h : ∀ k, k < ps.length → cfB ps k = true) : cvOk ps = true := by
  have hp : ∀ k, k < ps.length → (ptD ps k).ok = true ∧ (∀ j, k = j + 1 → (ptD ps j).st < (ptD ps k).st) := fun k hk => by
    have := h k hk
    unfold cfB inR at this
    simp only [Bool.and_eq_true, decide_eq_true_eq] at this
    obtain ⟨⟨⟨a1, a2⟩, a3⟩, ⟨a4, a5⟩, a6⟩ := this
    refine ⟨by unfold Pt.ok; simp only [decide_eq_true_eq]; exact ⟨a1, a2, a4, a5, a6⟩, fun j hj => ?_⟩
    subst hj
    exact of_decide_eq_true a3
  unfold cvOk
  simp only [Bool.and_eq_true, decide_eq_true_eq, List.all_eq_true]
  refine ⟨⟨h0, h1⟩, fun p hpm => ?_, riseK fun j hj => (hp (j + 1) hj).2 j rfl⟩
  obtain ⟨i, hi, rfl⟩ := List.mem_iff_getElem.1 hpm
  have h2 := (hp i hi).1
  have h3 := ptD_get hi
  rw [List.getElem?_eq_getElem hi] at h3
  rw [Option.some.inj h3]
  exact h2
def cfK (ps : List Pt) (k : Nat) : AS := ⟨[(1, .ptr (.loc 1 0) 0), (3, .pv (.int .i64 k))], [(.loc 1 0, .cells [.pv (ptsP ps)])]⟩
set_option maxHeartbeats 4000000 in
theorem cfault_c (ps : List Pt) (h1 : ps.length ≤ 1000) : Gives Tryz.prog 39 [cvP ps] (.int .i64 (cvErr ps)) := by
  refine calls_of_awpS mixed L39_ok (Nat.le_of_ble_eq_true rfl) ?_
  generalize hR : (fun (q : AV) (B : List (Site × Box)) => q = .pv (.int .i64 (cvErr ps)) ∧ B = []) = R
  simp [-getElem?_pos, L39, cvP, ptsP]
  cases h2 : decide (20 < ps.length)
  case true =>
    have he : cvErr ps = 3 := by unfold cvErr; rw [if_pos (of_decide_eq_true h2)]
    have hd : decide ((ps.length : Int) > 20) = true := by have := of_decide_eq_true h2; simp; omega
    simp [-decide_eq_true_eq, -decide_eq_false_iff_not, -gt_iff_lt, hd]
    rw [← hR, he]
    exact ⟨rfl, rfl⟩
  have h2' := of_decide_eq_false h2
  have hd : decide ((ps.length : Int) > 20) = false := by simp; omega
  simp [-decide_eq_true_eq, -decide_eq_false_iff_not, -gt_iff_lt, hd]
  refine awp_loopS (fun n τ => ∃ k : Nat, k ≤ ps.length ∧ n = ps.length - k ∧ (∀ j, j < k → cfB ps j = true) ∧ τ = cfK ps k) ⟨ps.length, cfK ps 0, Sub.mk (by simp [cfK]) (by simp [cfK, ptsP]), 0, Nat.zero_le _, rfl, (fun j hj => by omega), rfl⟩ ?_
  rintro J hJ n τ ⟨k, hk, rfl, hinv, rfl⟩
  by_cases hlt : k < ps.length
  · have hg := ptv_at hlt
    have hw := wrapR (k := k) (by omega)
    have hmeas : ps.length - (k + 1) < ps.length - k := by omega
    have hround : cfB ps k = true → _ := fun h => hJ _ _ ⟨k + 1, hlt, rfl, (fun j hj => by
      rcases Nat.lt_or_ge j k with h5 | h5
      · exact hinv j h5
      · obtain rfl : j = k := by omega
        exact h), rfl⟩
    have hbad : cfB ps k = false → cvErr ps = 1 := fun h => by unfold cvErr; rw [if_neg h2', cf_bad hlt h]; rfl
    have i1 := cin_c (ptD ps k).st 0 1000
    have i2 := cin_c (ptD ps k).lo 0 (ptD ps k).hi
    have hpre : (k = 0 ∧ decide (0 < k) = false ∧ prB ps k = true) ∨ ∃ j : Nat, decide (0 < k) = true ∧ IntKind.i64.wrap ((k : Int) - 1) = (j : Int) ∧ (ps.map Pt.pv)[j]? = some (.agg [.int .i64 (ptD ps j).st, .int .i64 (ptD ps j).lo, .int .i64 (ptD ps j).hi]) ∧ prB ps k = !decide ((ptD ps k).st ≤ (ptD ps j).st) := by
      cases k with
      | zero => exact .inl ⟨rfl, rfl, rfl⟩
      | succ j =>
        refine .inr ⟨j, rfl, by rw [wrap64 (by omega)]; omega, ptv_at (by omega), ?_⟩
        show decide _ = !decide _
        rw [Bool.eq_iff_iff]
        simp
    have hcf : cfB ps k = (inR (ptD ps k).st 0 1000 && prB ps k && (inR (ptD ps k).lo 0 (ptD ps k).hi && decide ((ptD ps k).hi ≤ 100000))) := rfl
    simp [-getElem?_pos, -List.getElem?_map, -decide_eq_true_eq, -decide_eq_false_iff_not, -gt_iff_lt, cfK, ptsP, hlt, hg, nblt]
    refine call_give (k := 0) (fs := []) (xs := [.int .i64 (ptD ps k).st, .int .i64 0, .int .i64 1000]) (cs := []) rfl rfl i1 rfl ?_
    cases e1 : inR (ptD ps k).st 0 1000
    · rw [e1] at hcf
      simp [-getElem?_pos, -List.getElem?_map, -decide_eq_true_eq, -decide_eq_false_iff_not, -gt_iff_lt]
      rw [← hR, hbad (by rw [hcf]; first | rfl | (simp))]
      exact ⟨rfl, rfl⟩
    rw [e1] at hcf
    rcases hpre with ⟨h0, c1, c2⟩ | ⟨j, c1, c2, c3, c4⟩
    · rw [c2] at hcf
      simp [-getElem?_pos, -List.getElem?_map, -decide_eq_true_eq, -decide_eq_false_iff_not, -gt_iff_lt, c1]
      refine call_give (k := 0) (fs := []) (xs := [.int .i64 (ptD ps k).lo, .int .i64 0, .int .i64 (ptD ps k).hi]) (cs := []) rfl rfl i2 rfl ?_
      cases e2 : inR (ptD ps k).lo 0 (ptD ps k).hi
      · rw [e2] at hcf
        simp [-getElem?_pos, -List.getElem?_map, -decide_eq_true_eq, -decide_eq_false_iff_not, -gt_iff_lt]
        rw [← hR, hbad (by rw [hcf]; first | rfl | (simp))]
        exact ⟨rfl, rfl⟩
      rw [e2] at hcf
      cases e3 : decide ((ptD ps k).hi > 100000)
      · have hd3 : decide ((ptD ps k).hi ≤ 100000) = true := by have := of_decide_eq_false e3; exact decide_eq_true (by omega)
        rw [hd3] at hcf
        simp [-getElem?_pos, -List.getElem?_map, -decide_eq_true_eq, -decide_eq_false_iff_not, -gt_iff_lt, e3, hw]
        exact ⟨_, _, hmeas, Sub.mk (by simp [cfK]) (by simp [cfK, ptsP]), hround hcf⟩
      · have hd3 : decide ((ptD ps k).hi ≤ 100000) = false := by have := of_decide_eq_true e3; exact decide_eq_false (by omega)
        rw [hd3] at hcf
        simp [-getElem?_pos, -List.getElem?_map, -decide_eq_true_eq, -decide_eq_false_iff_not, -gt_iff_lt, e3]
        rw [← hR, hbad (by rw [hcf]; first | rfl | (simp))]
        exact ⟨rfl, rfl⟩
    · rw [c4] at hcf
      simp [-getElem?_pos, -List.getElem?_map, -decide_eq_true_eq, -decide_eq_false_iff_not, -gt_iff_lt, c1, c2, c3, ptsP]
      cases e4 : decide ((ptD ps k).st ≤ (ptD ps j).st)
      case true =>
        rw [e4] at hcf
        simp [-getElem?_pos, -List.getElem?_map, -decide_eq_true_eq, -decide_eq_false_iff_not, -gt_iff_lt, e4]
        rw [← hR, hbad (by rw [hcf]; first | rfl | (simp))]
        exact ⟨rfl, rfl⟩
      rw [e4] at hcf
      simp [-getElem?_pos, -List.getElem?_map, -decide_eq_true_eq, -decide_eq_false_iff_not, -gt_iff_lt, e4]
      refine call_give (k := 0) (fs := []) (xs := [.int .i64 (ptD ps k).lo, .int .i64 0, .int .i64 (ptD ps k).hi]) (cs := []) rfl rfl i2 rfl ?_
      cases e2 : inR (ptD ps k).lo 0 (ptD ps k).hi
      · rw [e2] at hcf
        simp [-getElem?_pos, -List.getElem?_map, -decide_eq_true_eq, -decide_eq_false_iff_not, -gt_iff_lt]
        rw [← hR, hbad (by rw [hcf]; first | rfl | (simp))]
        exact ⟨rfl, rfl⟩
      rw [e2] at hcf
      cases e3 : decide ((ptD ps k).hi > 100000)
      · have hd3 : decide ((ptD ps k).hi ≤ 100000) = true := by have := of_decide_eq_false e3; exact decide_eq_true (by omega)
        rw [hd3] at hcf
        simp [-getElem?_pos, -List.getElem?_map, -decide_eq_true_eq, -decide_eq_false_iff_not, -gt_iff_lt, e3, hw]
        exact ⟨_, _, hmeas, Sub.mk (by simp [cfK]) (by simp [cfK, ptsP]), hround hcf⟩
      · have hd3 : decide ((ptD ps k).hi ≤ 100000) = false := by have := of_decide_eq_true e3; exact decide_eq_false (by omega)
        rw [hd3] at hcf
        simp [-getElem?_pos, -List.getElem?_map, -decide_eq_true_eq, -decide_eq_false_iff_not, -gt_iff_lt, e3]
        rw [← hR, hbad (by rw [hcf]; first | rfl | (simp))]
        exact ⟨rfl, rfl⟩
  · have he : k = ps.length := by omega
    subst he
    simp [-getElem?_pos, -List.getElem?_map, -decide_eq_true_eq, -decide_eq_false_iff_not, -gt_iff_lt, cfK, ptsP]
    cases h0 : decide (ps = [])
    · have hne := of_decide_eq_false h0
      have h0l : 0 < ps.length := by
        cases ps with
        | nil => exact absurd rfl hne
        | cons a r => simp
      have he : cvErr ps = 0 := by unfold cvErr; rw [if_neg h2', if_pos (cf_ok h0l (by omega) hinv)]
      simp [-getElem?_pos, -List.getElem?_map, -decide_eq_true_eq, -decide_eq_false_iff_not, -gt_iff_lt, h0]
      rw [← hR, he]
      exact ⟨rfl, rfl⟩
    · have hne := of_decide_eq_true h0
      simp [-getElem?_pos, -List.getElem?_map, -decide_eq_true_eq, -decide_eq_false_iff_not, -gt_iff_lt, h0]
      rw [← hR, hne]
      exact ⟨rfl, rfl⟩
end Go.Proofs.YtaffbiibcfeigaaGreat
/-! Layer 1 (curve): reading a rule, a list of curves. -/
namespace Go.Proofs.YtaffbiibcfeigaaGreat
open Go.RowKit Go.ChangeShapes Go.WideShapes Go.Deep
set_option maxRecDepth 100000
section
variable {H : Type} {enc : TypeId × Value → H} {W : World} {sp : Nat → Bool} {held : Bool} {r : Reach} {base : Nat}
theorem lr1 : Tryz.prog.cellsOf 3 = 1 := by kernel_rfl
theorem lrU : Tryz.prog.cellsOf 100 = 3 := by kernel_rfl
theorem lr_int {n : Nat} {d : Value} {x : DataW H × List MemPlace} (h : DataW.trod enc Tryz.prog W 0 sp held n 3 [d] = some x) : ∃ m : Int, d = .int .i64 m := by
  obtain ⟨m, e, _, _⟩ := rd_int Tryz.underlying3 h
  simp at e
  exact ⟨m, e⟩
theorem rk_rule {v : Value} {fuel : Nat} {x : DataW H × List MemPlace} (hok : Value.okWide Tryz.prog W r base 100 v) (h : DataW.trod enc Tryz.prog W 0 sp held fuel 100 v.cells.toList = some x) :
    ∃ q : Rl, True ∧ RdP W.mem v q.pv := by
  obtain ⟨cs, rfl, hsz⟩ := okWide_struct Tryz.underlying100 hok
  rw [lrU] at hsz
  obtain ⟨l⟩ := cs
  match l, hsz with
  | [a, b, c], _ =>
  obtain ⟨xs, n, _, _, _, hxl, hf⟩ := DataW.trod_struct Tryz.underlying100 h
  have hxl' : xs.length = 3 := hxl
  have h0 : DataW.trod enc Tryz.prog W 0 sp held n 3 (([a, b, c].drop 0).take (Tryz.prog.cellsOf 3)) = xs[0]? := hf 0 _ rfl
  have h1 : DataW.trod enc Tryz.prog W 0 sp held n 3 (([a, b, c].drop 1).take (Tryz.prog.cellsOf 3)) = xs[1]? := hf 1 _ rfl
  have h2 : DataW.trod enc Tryz.prog W 0 sp held n 3 (([a, b, c].drop 2).take (Tryz.prog.cellsOf 3)) = xs[2]? := hf 2 _ rfl
  rw [lr1, List.getElem?_eq_getElem (by omega)] at h0 h1 h2
  obtain ⟨m0, rfl⟩ := lr_int h0
  obtain ⟨m1, rfl⟩ := lr_int h1
  obtain ⟨m2, rfl⟩ := lr_int h2
  refine ⟨⟨m0, m1, m2⟩, trivial, .agg _ _ rfl ?_ ?_⟩
  · intro d hd
    simp at hd
    rcases hd with rfl | rfl | rfl <;> rfl
  · intro j d e k1 k2
    match j with
    | 0 => simp at k1 k2; subst k1 k2; exact .int .i64 _
    | 1 => simp at k1 k2; subst k1 k2; exact .int .i64 _
    | 2 => simp at k1 k2; subst k1 k2; exact .int .i64 _
    | j + 3 => simp at k1
end
end Go.Proofs.YtaffbiibcfeigaaGreat
/-! Contracts of layer 1 (curve): the points that may be the yield point: greatest, least, back. -/
namespace Go.Proofs.YtaffbiibcfeigaaGreat
open Go.RowKit
set_option maxRecDepth 10000
set_option linter.unusedSimpArgs false
section
attribute [local simp] Box.purge Site.isLoc
attribute [local simp] retFz frzL AS.frz AV.frz AV.frzL Box.frz AS.tidy AS.frzC frzsL
theorem max2_c (a b : Int) : Gives Tryz.prog 204 [intsR [a, b]] (.int .i64 (max a b)) := by
  refine calls_of_awpS mixed L204_ok (Nat.le_of_ble_eq_true rfl) ?_
  generalize hR : (fun (q : AV) (B : List (Site × Box)) => q = .pv (.int .i64 (max a b)) ∧ B = []) = R
  simp [-getElem?_pos, L204, intsR, intR]
  refine awp_loopS (fun n τ => ∃ k : Nat, (k = 1 ∨ k = 2) ∧ n = 2 - k ∧ τ = ⟨[(0, .pv (intsR [a, b])), (3, .pv (.int .i64 (if k = 1 then a else max a b))), (4, .pv (.int .i64 k))], []⟩) ⟨1, _, Sub.mk (by simp [intsR, intR]) (by simp), 1, .inl rfl, rfl, rfl⟩ ?_
  rintro J hJ n τ ⟨k, hk, rfl, rfl⟩
  rcases hk with rfl | rfl
  · have hround := hJ _ _ ⟨2, .inr rfl, rfl, rfl⟩
    clear hJ
    have hm : (if b > a then b else a) = max a b := by split <;> omega
    have hw : IntKind.i64.wrap 2 = 2 := rfl
    simp [-getElem?_pos, -gt_iff_lt, intsR, intR, hm, hw]
    exact ⟨_, _, (by omega : 0 < 1), Sub.mk (by simp [intsR, intR, hw]) (by simp), hround⟩
  · clear hJ
    simp [-getElem?_pos, intsR, intR]
    rw [← hR]
    simp
theorem greatest_c (a b : Int) : Gives Tryz.prog 228 [intsR [a, b]] (.int .i64 (max a b)) := by
  have h := max2_c a b
  refine calls_of_awpS mixed L228_ok (Nat.le_of_ble_eq_true rfl) ?_
  simp [-getElem?_pos, L228, intsR]
  refine call_gives (k := 0) (fs := []) (xs := [intsR [a, b]]) (cs := []) rfl rfl h rfl ?_
  simp [-getElem?_pos]
end
end Go.Proofs.YtaffbiibcfeigaaGreat
/-! Contracts of layer 1 (curve): the truth of a yield point. -/
namespace Go.Proofs.YtaffbiibcfeigaaGreat
open Go.RowKit
set_option maxRecDepth 10000
set_option linter.unusedSimpArgs false
/-- .. of which j loads ahead of the point have been told. -/
def bkJ (r : Rl) (ps : List Pt) (at_ : Nat) (load : Int) (j : Nat) : List Int := (List.range ps.length).map fun k => if k ≤ at_ ∧ at_ ≤ k + j then bkA r ps at_ load (at_ - k) else (ptD ps k).lo
theorem bkJ_len {r : Rl} {ps : List Pt} {a : Nat} {load : Int} {j : Nat} : (bkJ r ps a load j).length = ps.length := by simp [bkJ]
theorem bkJ_at {r : Rl} {ps : List Pt} {a : Nat} {load : Int} {j k : Nat} (h : k < ps.length) : (bkJ r ps a load j)[k]? = some (if k ≤ a ∧ a ≤ k + j then bkA r ps a load (a - k) else (ptD ps k).lo) := by
  unfold bkJ
  rw [List.getElem?_map, List.getElem?_range h]; rfl
theorem bkJ_get {r : Rl} {ps : List Pt} {a : Nat} {load : Int} {j : Nat} (h : a < ps.length) (hj : j ≤ a) : (bkJ r ps a load j).getD (a - j) 0 = bkA r ps a load j := by
  rw [List.getD_eq_getElem?_getD, bkJ_at (by omega), if_pos (by omega), show a - (a - j) = j by omega]; rfl
theorem bkJ_set {r : Rl} {ps : List Pt} {a : Nat} {load : Int} {j : Nat} (h : a < ps.length) (hj : j + 1 ≤ a) : (bkJ r ps a load j).set (a - (j + 1)) (bkA r ps a load (j + 1)) = bkJ r ps a load (j + 1) := by
  refine List.ext_getElem? fun k => ?_
  by_cases hk : k < ps.length
  · rw [List.getElem?_set, bkJ_at hk, bkJ_at hk, bkJ_len]
    by_cases e : a - (j + 1) = k
    · subst e
      rw [if_pos rfl, if_pos (by omega), if_pos (by omega), show a - (a - (j + 1)) = j + 1 by omega]
    · rw [if_neg e]
      by_cases c : k ≤ a ∧ a ≤ k + j
      · rw [if_pos c, if_pos (by omega)]
      · rw [if_neg c, if_neg (by omega)]
  · rw [List.getElem?_eq_none (by rw [List.length_set, bkJ_len]; omega), List.getElem?_eq_none (by rw [bkJ_len]; omega)]
theorem bkJ_zero {r : Rl} {ps : List Pt} {a : Nat} {load : Int} (h : a < ps.length) : (loL ps).set a load = bkJ r ps a load 0 := by
  refine List.ext_getElem? fun k => ?_
  by_cases hk : k < ps.length
  · rw [List.getElem?_set, bkJ_at hk]
    by_cases e : a = k
    · subst e
      rw [if_pos rfl, if_pos (by simp [loL]; omega), if_pos (by omega), Nat.sub_self]; rfl
    · rw [if_neg e, if_neg (by omega)]
      unfold loL
      rw [List.getElem?_map, ptD_get hk]; rfl
  · rw [List.getElem?_eq_none (by simp [loL]; omega), List.getElem?_eq_none (by rw [bkJ_len]; omega)]
theorem bkJ_full {r : Rl} {ps : List Pt} {a : Nat} {load : Int} : bkJ r ps a load a = bkL r ps a load := by
  unfold bkJ bkL
  refine List.map_congr_left fun k _ => ?_
  by_cases h : k ≤ a
  · rw [if_pos ⟨h, by omega⟩, if_pos h]
  · rw [if_neg (fun x => h x.1), if_neg h]
theorem bkA_in {r : Rl} {ps : List Pt} (hp : cvOk ps = true) (hd : 1 ≤ r.drop) {a : Nat} (ha : a < ps.length) {load : Int} (hl : 0 ≤ load ∧ load ≤ 100000) : ∀ {j : Nat}, j ≤ a → 0 ≤ bkA r ps a load j ∧ bkA r ps a load j ≤ 100000
  | 0, _ => hl
  | j + 1, hj => by
    have h1 := bkA_in hp hd ha hl (j := j) (by omega)
    have h2 := cv_ok hp (i := a - (j + 1)) (by omega)
    show 0 ≤ min _ _ ∧ min _ _ ≤ 100000
    omega
theorem bkL_loads {r : Rl} {ps : List Pt} (hp : cvOk ps = true) (hd : 1 ≤ r.drop) {a : Nat} (ha : a < ps.length) {load : Int} (hl : 0 ≤ load ∧ load ≤ 100000) : loadsB ps (bkL r ps a load) := ⟨bkL_len, fun i hi => by
  rw [bkL_get hi]
  split
  · exact bkA_in hp hd ha hl (by omega)
  · have := cv_ok hp hi; omega⟩
section
attribute [local simp] Box.purge Site.isLoc
attribute [local simp] frzsL
def bcK (r : Rl) (ps : List Pt) (a : Nat) (load : Int) (j : Nat) : AS := ⟨[(2, .pv (rdgR ps r)), (5, .ptr (.loc 5 0) 0), (6, .ptr (.loc 6 0) 0), (7, .pv (.int .i64 ((a : Int) - 1 - j)))], [(.loc 6 0, .cells (padC (bkJ r ps a load j))), (.loc 5 0, .cells [.pv (.int .i64 0), .pv (.int .i64 0), .pv (.int .i64 0), .pv (.int .i64 0), .pv (.int .i64 0), .pv (.int .i64 0), .pv (.int .i64 0), .pv (.int .i64 0), .pv (.int .i64 0), .pv (.int .i64 0), .pv (.int .i64 0), .pv (.int .i64 0), .pv (.int .i64 0), .pv (.int .i64 0), .pv (.int .i64 0), .pv (.int .i64 0), .pv (.int .i64 0), .pv (.int .i64 0), .pv (.int .i64 0), .pv (.int .i64 0)])]⟩
set_option maxHeartbeats 4000000 in
theorem back1_c (ps : List Pt) (r : Rl) (hp : cvOk ps = true) (hr : r.ok = true) (a : Nat) (ha : a < ps.length) (load : Int) (hl : 0 ≤ load ∧ load ≤ 100000) : Gives Tryz.prog 229 [.int .i64 a, .int .i64 load, rdgR ps r] (padP (bkL r ps a load)) := by
  have hlen := cv_len hp
  have hr' := hr
  unfold Rl.ok at hr'
  simp only [decide_eq_true_eq] at hr'
  have hlo := lol_c ps r hlen.2
  have hll : (loL ps).length = ps.length := by simp [loL]
  have hpl := padX_len (l := loL ps) (by omega)
  have hset := padC_set (l := loL ps) (k := a) (x := load) (by omega)
  rw [bkJ_zero (r := r) ha] at hset
  have hsp : List.take a (List.map AV.pv (padX (loL ps))) ++ AV.pv (.int .i64 load) :: List.drop (a + 1) (List.map AV.pv (padX (loL ps))) = padC (bkJ r ps a load 0) := by
    have := splice_set (l := padC (loL ps)) (k := a) (x := AV.pv (.int .i64 load)) (by rw [padC_len (by omega)]; omega)
    rw [hset] at this
    rw [← this]
    unfold padC
    simp [splice]
  have ha20 : a < 20 := by omega
  have ha21 : a + 1 ≤ 20 := by omega
  have hw0 : IntKind.i64.wrap ((a : Int) - 1) = (a : Int) - 1 := wrap64 (by omega)
  have hd20 : List.drop 20 [AV.pv (.int .i64 0), .pv (.int .i64 0), .pv (.int .i64 0), .pv (.int .i64 0), .pv (.int .i64 0), .pv (.int .i64 0), .pv (.int .i64 0), .pv (.int .i64 0), .pv (.int .i64 0), .pv (.int .i64 0), .pv (.int .i64 0), .pv (.int .i64 0), .pv (.int .i64 0), .pv (.int .i64 0), .pv (.int .i64 0), .pv (.int .i64 0), .pv (.int .i64 0), .pv (.int .i64 0), .pv (.int .i64 0), .pv (.int .i64 0)] = [] := rfl
  unfold padP at hlo
  generalize padX (loL ps) = XL at *
  refine calls_of_awpS mixed L229_ok (Nat.le_of_ble_eq_true rfl) ?_
  generalize hR : (fun (q : AV) (B : List (Site × Box)) => q = .pv (padP (bkL r ps a load)) ∧ B = []) = R
  simp [-getElem?_pos, L229, rdgR]
  refine .inl (call_pv [] (fs := []) (xs := [rdgP ps r]) (cs := []) rfl rfl hlo ?_)
  simp [-getElem?_pos, hpl, nble, nblt, ha20, ha21, hw0, purge_comp]
  refine awp_loopS (fun n τ => ∃ j : Nat, j ≤ a ∧ n = a - j ∧ τ = bcK r ps a load j) ⟨a, bcK r ps a load 0, Sub.mk (by simp [bcK, rdgR]) (by simp [bcK, hsp, hd20]), 0, Nat.zero_le _, rfl, rfl⟩ ?_
  rintro J hJ n τ ⟨j, hj, rfl, rfl⟩
  by_cases hlt : j < a
  · have hround := hJ _ _ ⟨j + 1, hlt, rfl, rfl⟩
    clear hJ
    have hmeas : a - (j + 1) < a - j := by omega
    have hk : ((a : Int) - 1 - j) = ((a - (j + 1) : Nat) : Int) := by omega
    have hk1 : IntKind.i64.wrap (((a - (j + 1) : Nat) : Int) + 1) = ((a - j : Nat) : Int) := by rw [wrap64 (by omega)]; omega
    have hk2 : IntKind.i64.wrap (((a - (j + 1) : Nat) : Int) - 1) = (a : Int) - 1 - (j + 1 : Nat) := by rw [wrap64 (by omega)]; omega
    have hge : decide (((a - (j + 1) : Nat) : Int) ≥ 0) = true := decide_eq_true (by omega)
    have hg := ptv_at (ps := ps) (k := a - (j + 1)) (by omega)
    have hb := bkA_in (r := r) hp hr'.1 ha hl (j := j) (by omega)
    have hgt := padC_get (l := bkJ r ps a load j) (i := a - j) (by omega)
    rw [bkJ_get ha (by omega)] at hgt
    have hset := padC_set (l := bkJ r ps a load j) (k := a - (j + 1)) (x := bkA r ps a load (j + 1)) (by rw [bkJ_len]; omega)
    rw [bkJ_set ha (by omega)] at hset
    have hpl2 := padC_len (l := bkJ r ps a load j) (by rw [bkJ_len]; omega)
    have hA : bkA r ps a load (j + 1) = if bkA r ps a load j + r.drop - 1 < (ptD ps (a - (j + 1))).hi then bkA r ps a load j + r.drop - 1 else (ptD ps (a - (j + 1))).hi := by
      show min _ _ = _
      split <;> omega
    have w1 : IntKind.i64.wrap (bkA r ps a load j + r.drop) = bkA r ps a load j + r.drop := wrap64 (by omega)
    have w2 : IntKind.i64.wrap (bkA r ps a load j + r.drop - 1) = bkA r ps a load j + r.drop - 1 := wrap64 (by omega)
    unfold bcK at hround
    unfold bcK
    rw [hk]
    generalize a - (j + 1) = k at *
    generalize bkA r ps a load (j + 1) = N at *
    generalize bkA r ps a load j = M at *
    have hk20 : k < 20 := by omega
    have hk21 : k + 1 ≤ 20 := by omega
    have hk22 : a - j < 20 := by omega
    have hk23 : a - j ≤ 19 := by omega
    have hk24 : a - j + 1 ≤ 20 := by omega
    have hsp2 : List.take k (padC (bkJ r ps a load j)) ++ AV.pv (.int .i64 N) :: List.drop (k + 1) (padC (bkJ r ps a load j)) = padC (bkJ r ps a load (j + 1)) := by
      have := splice_set (l := padC (bkJ r ps a load j)) (k := k) (x := AV.pv (.int .i64 N)) (by omega)
      rw [hset] at this
      rw [← this]
      simp [splice]
    simp [-getElem?_pos, -List.getElem?_map, rdgR, ptsP, hge, hg, hgt, hk1, hk2, w1, w2, ← hA, nble, nblt, hpl2, hk20, hk21, hk22, hk23, hk24]
    exact ⟨_, _, hmeas, Sub.mk (by simp [rdgR, ptsP, hk2]) (by simp [hsp2]), hround⟩
  · have he : j = a := by omega
    subst he
    have hlt0 : ((j : Int) - 1 - j) = -1 := by omega
    have hpl2 := padC_len (l := bkL r ps j load) (by rw [bkL_len]; omega)
    have hxl2 := padX_len (l := bkL r ps j load) (by rw [bkL_len]; omega)
    have hxt2 := padX_take20 (l := bkL r ps j load) (by rw [bkL_len]; omega)
    have ht2 := padC_take (l := bkL r ps j load) (by rw [bkL_len]; omega)
    unfold bcK
    rw [bkJ_full, hlt0]
    have ht3 : List.take 20 (List.map AV.pv (padX (bkL r ps j load))) = List.map AV.pv (padX (bkL r ps j load)) := ht2
    simp [-getElem?_pos, hpl2, ht2, ht3, padC_un, unpvs_pv, hxl2, hd20, hxt2]
    rw [← hR]
    simp [padP]
end
end Go.Proofs.YtaffbiibcfeigaaGreat
