/- Contracts of layer 1's law (curve): Thin, Fault, Curve, Rule, Picked. (Several texts in one.) -/
import Derived.Test.YtaffbiibcfeigaaGreatLmB
import Derived.Test.YtaffbiibcfeigaaGreatStT
import Derived.Test.YtaffbiibcfeigaaGreatStE
import Derived.Test.YtaffbiibcfeigaaGreatStSh
import Derived.Test.YtaffbiibcfeigaaGreatStB
import Derived.Test.YtaffbiibcfeigaaGreatLmA
import Derived.Test.YtaffbiibcfeigaaGreatBaseD
import Derived.Test.YtaffbiibcfeigaaGreatProg
set_option linter.unusedVariables false
set_option linter.unusedSimpArgs false
/-! Contracts of layer 1's law (curve): Thin, Fault, Curve, Rule, Picked. -/
namespace Go.Proofs.YtaffbiibcfeigaaGreat
open Go.RowKit
attribute [local simp] Box.purge Site.isLoc
set_option maxRecDepth 10000
set_option linter.unusedSimpArgs false
theorem cthin_c (ps : List Pt) : Gives Tryz.prog 38 [cvP ps] (.bool (decide (ps.length ≤ 25))) := by
  refine calls_of_awpS mixed L38_ok (Nat.le_of_ble_eq_true rfl) ?_
  simp [-getElem?_pos, L38, cvP, ptsP]
  omega
theorem rule_c (r : Rl) : Gives Tryz.prog 35 [r.pv] r.pv := by
  refine calls_of_awpS mixed L35_ok (Nat.le_of_ble_eq_true rfl) ?_
  simp [-getElem?_pos, L35, Rl.pv]
section
attribute [local simp] retFz frzL AS.frz AV.frz AV.frzL Box.frz AS.tidy AS.frzC
def cvK (ps : List Pt) (k : Nat) : AS := ⟨[(1, .ptr (.loc 1 0) 0), (2, .ptr (.loc 2 0) 0), (3, .ptr (.loc 3 0) 0), (4, .pv (.int .i64 k))], [(.loc 31 0, .arr 206 3 ((ps.take k).map Pt.pv)), (.loc 3 0, .cells [.vec (.loc 31 0) 3 0 k]), (.loc 1 0, .cells [.pv (ptsP ps)]), (.loc 2 0, .cells [.pv (.emp (some true))])]⟩
theorem curve_c (ps : List Pt) (h1 : ps.length ≤ 1000) : Gives Tryz.prog 34 [cvP ps] (cvP ps) := by
  refine calls_of_awpF [.loc 31 0] mixed L34_ok (Nat.le_of_ble_eq_true rfl) ?_
  generalize hR : (fun (q : AV) (B : List (Site × Box)) => q = .pv (cvP ps) ∧ B = []) = R
  simp [-getElem?_pos, L34, cvP, ptsP]
  refine awp_loopS (fun n τ => ∃ k : Nat, k ≤ ps.length ∧ n = ps.length - k ∧ τ = cvK ps k) ⟨ps.length, cvK ps 0, Sub.trans' (Sub.mk (by simp [cvK, AS.vecC]) (by simp [cvK, AS.vecC, ptsP])) (vecC 31 206 3 (s := .loc 3 0) (cs := [.pv (.emp (some true))]) 0 rfl rfl (by decide)), 0, by omega, rfl, rfl⟩ ?_
  rintro J hJ n τ ⟨k, hk, rfl, rfl⟩
  by_cases hlt : k < ps.length
  · have hg := ptv_at hlt
    have hw := wrapR (k := k) (by omega)
    have hround := hJ _ _ ⟨k + 1, hlt, rfl, rfl⟩
    have htk : (ps.take (k + 1)).map Pt.pv = (ps.take k).map Pt.pv ++ [.agg [.int .i64 (ptD ps k).st, .int .i64 (ptD ps k).lo, .int .i64 (ptD ps k).hi]] := by rw [List.take_add_one, ptD_get hlt]; simp [Pt.pv]
    have hk6 : k + 1 ≤ 1000000 := by omega
    have htl : ((ps.take k).map Pt.pv).length = k := by rw [List.length_map, List.length_take]; omega
    have hmeas : ps.length - (k + 1) < ps.length - k := by omega
    clear hJ
    generalize hTL : (ps.take k).map Pt.pv = TL at *
    simp [-getElem?_pos, -List.getElem?_map, -decide_eq_true_eq, cvK, ptsP, hlt, hg, nble, nblt, hw, hk6, hTL, htl]
    refine ⟨_, _, hmeas, Sub.mk ?_ ?_, hround⟩
    · simp [cvK]
    · simp [cvK, ptsP, -List.map_take, -List.take_succ_cons, htk, hTL]
  have he : k = ps.length := by omega
  subst he
  clear hJ
  have hm2 : (ps.map Pt.pv).take ps.length = ps.map Pt.pv := List.take_of_length_le (by simp)
  simp [-getElem?_pos, -List.getElem?_map, -decide_eq_true_eq, cvK, ptsP, hm2]
  rw [← hR]
  simp [cvP, ptsP]
end
/-- A point is as it should be, behind the one before it. -/
def prB (ps : List Pt) : Nat → Bool
  | 0 => true
  | j + 1 => decide ((ptD ps j).st < (ptD ps (j + 1)).st)
def cfB (ps : List Pt) (k : Nat) : Bool := inR (ptD ps k).st 0 1000 && prB ps k && (inR (ptD ps k).lo 0 (ptD ps k).hi && decide ((ptD ps k).hi ≤ 100000))
theorem cf_bad {ps : List Pt} {k : Nat} (hk : k < ps.length) (h : cfB ps k = false) : cvOk ps = false := by
  cases e : cvOk ps
  · rfl
  · have h1 := cv_ok e hk
    have : cfB ps k = true := by
      unfold cfB inR
      simp only [Bool.and_eq_true, decide_eq_true_eq]
      refine ⟨⟨⟨h1.1, h1.2.1⟩, ?_⟩, ⟨h1.2.2.1, h1.2.2.2.1⟩, h1.2.2.2.2⟩
      cases k with
      | zero => rfl
      | succ j => exact decide_eq_true (cv_rise e hk)
    rw [h] at this; cases this
theorem cf_ok {ps : List Pt} (h0 : 0 < ps.length) (h1 : ps.length ≤ 20) (h : ∀ k, k < ps.length → cfB ps k = true) : cvOk ps = true := by
  have hp : ∀ k, k < ps.length → (ptD ps k).ok = true ∧ (∀ j, k = j + 1 → (ptD ps j).st < (ptD ps k).st) := fun k hk => by
    have := h k hk
    unfold cfB inR at this
    simp only [Bool.and_eq_true, decide_eq_true_eq] at this
    obtain ⟨⟨⟨a1, a2⟩, a3⟩, ⟨a4, a5⟩, a6⟩ := this
    refine ⟨by unfold Pt.ok; simp only [decide_eq_true_eq]; exact ⟨a1, a2, a4, a5, a6⟩, fun j hj => ?_⟩
    subst hj
    exact of_decide_eq_true a3
  unfold cvOk
  simp only [Bool.and_eq_true, decide_eq_true_eq, List.all_eq_true]
  refine ⟨⟨h0, h1⟩, fun p hpm => ?_, riseK fun j hj => (hp (j + 1) hj).2 j rfl⟩
  obtain ⟨i, hi, rfl⟩ := List.mem_iff_getElem.1 hpm
  have h2 := (hp i hi).1
  have h3 := ptD_get hi
  rw [List.getElem?_eq_getElem hi] at h3
  rw [Option.some.inj h3]
  exact h2
def cfK (ps : List Pt) (k : Nat) : AS := ⟨[(1, .ptr (.loc 1 0) 0), (3, .pv (.int .i64 k))], [(.loc 1 0, .cells [.pv (ptsP ps)])]⟩
set_option maxHeartbeats 4000000 in
theorem cfault_c (ps : List Pt) (h1 : ps.length ≤ 1000) : Gives Tryz.prog 39 [cvP ps] (.int .i64 (cvErr ps)) := by
  refine calls_of_awpS mixed L39_ok (Nat.le_of_ble_eq_true rfl) ?_
  generalize hR : (fun (q : AV) (B : List (Site × Box)) => q = .pv (.int .i64 (cvErr ps)) ∧ B = []) = R
  simp [-getElem?_pos, L39, cvP, ptsP]
  cases h2 : decide (20 < ps.length)
  case true =>
    have he : cvErr ps = 3 := by unfold cvErr; rw [if_pos (of_decide_eq_true h2)]
    have hd : decide ((ps.length : Int) > 20) = true := by have := of_decide_eq_true h2; simp; omega
    simp [-decide_eq_true_eq, -decide_eq_false_iff_not, -gt_iff_lt, hd]
    rw [← hR, he]
    exact ⟨rfl, rfl⟩
  have h2' := of_decide_eq_false h2
  have hd : decide ((ps.length : Int) > 20) = false := by simp; omega
  simp [-decide_eq_true_eq, -decide_eq_false_iff_not, -gt_iff_lt, hd]
  refine awp_loopS (fun n τ => ∃ k : Nat, k ≤ ps.length ∧ n = ps.length - k ∧ (∀ j, j < k → cfB ps j = true) ∧ τ = cfK ps k) ⟨ps.length, cfK ps 0, Sub.mk (by simp [cfK]) (by simp [cfK, ptsP]), 0, Nat.zero_le _, rfl, (fun j hj => by omega), rfl⟩ ?_
  rintro J hJ n τ ⟨k, hk, rfl, hinv, rfl⟩
  by_cases hlt : k < ps.length
  · have hg := ptv_at hlt
    have hw := wrapR (k := k) (by omega)
    have hmeas : ps.length - (k + 1) < ps.length - k := by omega
    have hround : cfB ps k = true → _ := fun h => hJ _ _ ⟨k + 1, hlt, rfl, (fun j hj => by
      rcases Nat.lt_or_ge j k with h5 | h5
      · exact hinv j h5
      · obtain rfl : j = k := by omega
        exact h), rfl⟩
    have hbad : cfB ps k = false → cvErr ps = 1 := fun h => by unfold cvErr; rw [if_neg h2', cf_bad hlt h]; rfl
    have i1 := cin_c (ptD ps k).st 0 1000
    have i2 := cin_c (ptD ps k).lo 0 (ptD ps k).hi
    have hpre : (k = 0 ∧ decide (0 < k) = false ∧ prB ps k = true) ∨ ∃ j : Nat, decide (0 < k) = true ∧ IntKind.i64.wrap ((k : Int) - 1) = (j : Int) ∧ (ps.map Pt.pv)[j]? = some (.agg [.int .i64 (ptD ps j).st, .int .i64 (ptD ps j).lo, .int .i64 (ptD ps j).hi]) ∧ prB ps k = !decide ((ptD ps k).st ≤ (ptD ps j).st) := by
      cases k with
      | zero => exact .inl ⟨rfl, rfl, rfl⟩
      | succ j =>
        refine .inr ⟨j, rfl, by rw [wrap64 (by omega)]; omega, ptv_at (by omega), ?_⟩
        show decide _ = !decide _
        rw [Bool.eq_iff_iff]
        simp
    have hcf : cfB ps k = (inR (ptD ps k).st 0 1000 && prB ps k && (inR (ptD ps k).lo 0 (ptD ps k).hi && decide ((ptD ps k).hi ≤ 100000))) := rfl
    simp [-getElem?_pos, -List.getElem?_map, -decide_eq_true_eq, -decide_eq_false_iff_not, -gt_iff_lt, cfK, ptsP, hlt, hg, nblt]
    refine call_give (k := 0) (fs := []) (xs := [.int .i64 (ptD ps k).st, .int .i64 0, .int .i64 1000]) (cs := []) rfl rfl i1 rfl ?_
    cases e1 : inR (ptD ps k).st 0 1000
    · rw [e1] at hcf
      simp [-getElem?_pos, -List.getElem?_map, -decide_eq_true_eq, -decide_eq_false_iff_not, -gt_iff_lt]
      rw [← hR, hbad (by rw [hcf]; first | rfl | (simp))]
      exact ⟨rfl, rfl⟩
    rw [e1] at hcf
    rcases hpre with ⟨h0, c1, c2⟩ | ⟨j, c1, c2, c3, c4⟩
    · rw [c2] at hcf
      simp [-getElem?_pos, -List.getElem?_map, -decide_eq_true_eq, -decide_eq_false_iff_not, -gt_iff_lt, c1]
      refine call_give (k := 0) (fs := []) (xs := [.int .i64 (ptD ps k).lo, .int .i64 0, .int .i64 (ptD ps k).hi]) (cs := []) rfl rfl i2 rfl ?_
      cases e2 : inR (ptD ps k).lo 0 (ptD ps k).hi
      · rw [e2] at hcf
        simp [-getElem?_pos, -List.getElem?_map, -decide_eq_true_eq, -decide_eq_false_iff_not, -gt_iff_lt]
        rw [← hR, hbad (by rw [hcf]; first | rfl | (simp))]
        exact ⟨rfl, rfl⟩
      rw [e2] at hcf
      cases e3 : decide ((ptD ps k).hi > 100000)
      · have hd3 : decide ((ptD ps k).hi ≤ 100000) = true := by have := of_decide_eq_false e3; exact decide_eq_true (by omega)
        rw [hd3] at hcf
        simp [-getElem?_pos, -List.getElem?_map, -decide_eq_true_eq, -decide_eq_false_iff_not, -gt_iff_lt, e3, hw]
        exact ⟨_, _, hmeas, Sub.mk (by simp [cfK]) (by simp [cfK, ptsP]), hround hcf⟩
      · have hd3 : decide ((ptD ps k).hi ≤ 100000) = false := by have := of_decide_eq_true e3; exact decide_eq_false (by omega)
        rw [hd3] at hcf
        simp [-getElem?_pos, -List.getElem?_map, -decide_eq_true_eq, -decide_eq_false_iff_not, -gt_iff_lt, e3]
        rw [← hR, hbad (by rw [hcf]; first | rfl | (simp))]
        exact ⟨rfl, rfl⟩
    · rw [c4] at hcf
      simp [-getElem?_pos, -List.getElem?_map, -decide_eq_true_eq, -decide_eq_false_iff_not, -gt_iff_lt, c1, c2, c3, ptsP]
      cases e4 : decide ((ptD ps k).st ≤ (ptD ps j).st)
      case true =>
        rw [e4] at hcf
        simp [-getElem?_pos, -List.getElem?_map, -decide_eq_true_eq, -decide_eq_false_iff_not, -gt_iff_lt, e4]
        rw [← hR, hbad (by rw [hcf]; first | rfl | (simp))]
        exact ⟨rfl, rfl⟩
      rw [e4] at hcf
      simp [-getElem?_pos, -List.getElem?_map, -decide_eq_true_eq, -decide_eq_false_iff_not, -gt_iff_lt, e4]
      refine call_give (k := 0) (fs := []) (xs := [.int .i64 (ptD ps k).lo, .int .i64 0, .int .i64 (ptD ps k).hi]) (cs := []) rfl rfl i2 rfl ?_
      cases e2 : inR (ptD ps k).lo 0 (ptD ps k).hi
      · rw [e2] at hcf
        simp [-getElem?_pos, -List.getElem?_map, -decide_eq_true_eq, -decide_eq_false_iff_not, -gt_iff_lt]
        rw [← hR, hbad (by rw [hcf]; first | rfl | (simp))]
        exact ⟨rfl, rfl⟩
      rw [e2] at hcf
      cases e3 : decide ((ptD ps k).hi > 100000)
      · have hd3 : decide ((ptD ps k).hi ≤ 100000) = true := by have := of_decide_eq_false e3; exact decide_eq_true (by omega)
        rw [hd3] at hcf
        simp [-getElem?_pos, -List.getElem?_map, -decide_eq_true_eq, -decide_eq_false_iff_not, -gt_iff_lt, e3, hw]
        exact ⟨_, _, hmeas, Sub.mk (by simp [cfK]) (by simp [cfK, ptsP]), hround hcf⟩
      · have hd3 : decide ((ptD ps k).hi ≤ 100000) = false := by have := of_decide_eq_true e3; exact decide_eq_false (by omega)
        rw [hd3] at hcf
        simp [-getElem?_pos, -List.getElem?_map, -decide_eq_true_eq, -decide_eq_false_iff_not, -gt_iff_lt, e3]
        rw [← hR, hbad (by rw [hcf]; first | rfl | (simp))]
        exact ⟨rfl, rfl⟩
  · have he : k = ps.length := by omega
    subst he
    simp [-getElem?_pos, -List.getElem?_map, -decide_eq_true_eq, -decide_eq_false_iff_not, -gt_iff_lt, cfK, ptsP]
    cases h0 : decide (ps = [])
    · have hne := of_decide_eq_false h0
      have h0l : 0 < ps.length := by
        cases ps with
        | nil => exact absurd rfl hne
        | cons a r => simp
      have he : cvErr ps = 0 := by unfold cvErr; rw [if_neg h2', if_pos (cf_ok h0l (by omega) hinv)]
      simp [-getElem?_pos, -List.getElem?_map, -decide_eq_true_eq, -decide_eq_false_iff_not, -gt_iff_lt, h0]
      rw [← hR, he]
      exact ⟨rfl, rfl⟩
    · have hne := of_decide_eq_true h0
      simp [-getElem?_pos, -List.getElem?_map, -decide_eq_true_eq, -decide_eq_false_iff_not, -gt_iff_lt, h0]
      rw [← hR, hne]
      exact ⟨rfl, rfl⟩
end Go.Proofs.YtaffbiibcfeigaaGreat
/-! Contracts of layer 1's law (curve): a truth picked by words. -/
namespace Go.Proofs.YtaffbiibcfeigaaGreat
open Go.RowKit
attribute [local simp] Box.purge Site.isLoc
set_option maxRecDepth 10000
set_option linter.unusedSimpArgs false
def u16R (n : Int) : PV := .int .u16 n
def u16sR (l : List Int) : PV := .lst false 1 (l.map u16R)
def pkW (ws : List Int) (k : Nat) : Int := match ws with
  | [] => 1
  | a :: r => (a :: r).getD (k % (a :: r).length) 0
def pkN (p : Pt) (w : Int) : Int := if w.tmod 3 = 0 then p.lo else if w.tmod 3 = 1 then p.hi else p.lo + (w.tdiv 3).tmod (p.hi - p.lo + 1)
def pickM (ps : List Pt) (ws : List Int) (k : Nat) : List Int := (List.range k).map fun i => pkN (ptD ps i) (pkW ws i)
theorem pkN_in {p : Pt} {w : Int} (h : p.lo ≤ p.hi) (hw : 0 ≤ w) : p.lo ≤ pkN p w ∧ pkN p w ≤ p.hi := by
  unfold pkN
  have h1 := Int.tmod_nonneg (p.hi - p.lo + 1) (Int.tdiv_nonneg hw (by omega : (0 : Int) ≤ 3))
  have h2 := Int.tmod_lt_of_pos (w.tdiv 3) (show 0 < p.hi - p.lo + 1 by omega)
  split
  · omega
  · split <;> omega
theorem pkW_at {a : Int} {r : List Int} {k : Nat} (hl : k % (a :: r).length < (a :: r).length) : pkW (a :: r) k = (a :: r)[k % (a :: r).length] := by
  show (a :: r).getD (k % (a :: r).length) 0 = _
  rw [List.getD_eq_getElem?_getD, List.getElem?_eq_getElem hl]; rfl
theorem pkW_in {ws : List Int} (h : ∀ x ∈ ws, 0 ≤ x ∧ x ≤ 65535) (k : Nat) : 0 ≤ pkW ws k ∧ pkW ws k ≤ 65535 := by
  cases ws with
  | nil => simp [pkW]
  | cons a r =>
    have hl : k % (a :: r).length < (a :: r).length := Nat.mod_lt _ (by simp)
    rw [pkW_at hl]
    exact h _ (List.getElem_mem hl)
theorem pickM_tru {ps : List Pt} {ws : List Int} (hp : cvOk ps = true) (h : ∀ x ∈ ws, 0 ≤ x ∧ x ≤ 65535) : cvTru ps (pickM ps ws ps.length) = true := tru_of (by simp [pickM]) fun i hi => by
  unfold pickM
  rw [List.getD_eq_getElem?_getD, List.getElem?_map, List.getElem?_range hi]
  exact pkN_in (cv_ok hp hi).2.2.2.1 (pkW_in h i).1
theorem pickM_next {ps : List Pt} {ws : List Int} {k : Nat} : pickM ps ws (k + 1) = pickM ps ws k ++ [pkN (ptD ps k) (pkW ws k)] := by unfold pickM; rw [List.range_succ, List.map_append]; rfl
attribute [local simp] retFz frzL AS.frz AV.frz AV.frzL Box.frz AS.tidy AS.frzC
def pkK (ps : List Pt) (ws : List Int) (k : Nat) : AS := ⟨[(1, .pv (u16sR ws)), (2, .ptr (.loc 2 0) 0), (5, .vec (.loc 59 0) 1 0 k), (6, .pv (.int .i64 k))], [(.loc 59 0, .arr 3 1 ((pickM ps ws k).map intR)), (.loc 2 0, .cells [.pv (ptsP ps)])]⟩
set_option maxHeartbeats 4000000 in
theorem picked_c (ps : List Pt) (ws : List Int) (hp : cvOk ps = true) (hws : ∀ x ∈ ws, 0 ≤ x ∧ x ≤ 65535) (hwl : ws.length ≤ 9223372036854775807) : Gives Tryz.prog 40 [cvP ps, u16sR ws] (intsR (pickM ps ws ps.length)) := by
  have hlen := cv_len hp
  refine calls_of_awpF [.loc 59 0] mixed L40_ok (Nat.le_of_ble_eq_true rfl) ?_
  generalize hR : (fun (q : AV) (B : List (Site × Box)) => q = .pv (intsR (pickM ps ws ps.length)) ∧ B = []) = R
  simp [-getElem?_pos, L40, cvP, ptsP, u16sR]
  refine awp_loopS (fun n τ => ∃ k : Nat, k ≤ ps.length ∧ n = ps.length - k ∧ τ = pkK ps ws k) ⟨ps.length, pkK ps ws 0, Sub.trans' (Sub.mk (by simp [pkK, AS.vecT, u16sR]) (by simp [pkK, AS.vecT, ptsP, pickM])) (vecT 59 3 1 5 rfl (by decide)), 0, by omega, rfl, rfl⟩ ?_
  rintro J hJ n τ ⟨k, hk, rfl, rfl⟩
  by_cases hlt : k < ps.length
  · have hg := ptv_at hlt
    have hw := wrapR (k := k) (by omega)
    have hmeas : ps.length - (k + 1) < ps.length - k := by omega
    have hround := hJ _ _ ⟨k + 1, hlt, rfl, rfl⟩
    have hok := cv_ok hp hlt
    have hnx := pickM_next (ps := ps) (ws := ws) (k := k)
    have hpl : ((pickM ps ws k).map intR).length = k := by simp [pickM]
    have hk6 : k + 1 ≤ 1000000 := by omega
    have hwi := pkW_in hws k
    have hcase : (ws = [] ∧ pkW ws k = 1) ∨ (∃ (j : Nat), decide (0 < ws.length) = true ∧ ¬ ws = [] ∧ (k : Int).tmod (ws.length : Int) = (j : Int) ∧ (ws.map u16R)[j]? = some (.int .u16 (pkW ws k)) ∧ IntKind.i64.wrap (pkW ws k) = pkW ws k) := by
      cases ws with
      | nil => exact .inl ⟨rfl, rfl⟩
      | cons a r =>
        have hl : k % (a :: r).length < (a :: r).length := Nat.mod_lt _ (by simp)
        have hpos : 0 < (a :: r).length := by simp
        refine .inr ⟨k % (a :: r).length, decide_eq_true hpos, by simp, ?_, ?_, wrap64 (by omega)⟩
        · rw [← Int.ofNat_tmod]
        · rw [List.getElem?_map, List.getElem?_eq_getElem hl, pkW_at hl]; rfl
    have hN : pkN (ptD ps k) (pkW ws k) = if (pkW ws k).tmod 3 = 0 then (ptD ps k).lo else if (pkW ws k).tmod 3 = 1 then (ptD ps k).hi else (ptD ps k).lo + ((pkW ws k).tdiv 3).tmod ((ptD ps k).hi - (ptD ps k).lo + 1) := rfl
    generalize pkW ws k = w at *
    have q1 := Int.tmod_nonneg 3 hwi.1
    have q2 := Int.tmod_lt_of_pos w (show (0 : Int) < 3 by omega)
    have q3 := Int.tdiv_nonneg hwi.1 (show (0 : Int) ≤ 3 by omega)
    have q4 : w.tdiv 3 ≤ 65535 := by
      have := Int.tmod_add_mul_tdiv w 3
      omega
    have q5 := Int.tmod_nonneg ((ptD ps k).hi - (ptD ps k).lo + 1) q3
    have q6 := Int.tmod_lt_of_pos (w.tdiv 3) (show 0 < (ptD ps k).hi - (ptD ps k).lo + 1 by omega)
    have w1 : IntKind.i64.wrap (w.tdiv 3) = w.tdiv 3 := wrap64 (by omega)
    have w2 : IntKind.i64.wrap ((ptD ps k).hi - (ptD ps k).lo) = (ptD ps k).hi - (ptD ps k).lo := wrap64 (by omega)
    have w3 : IntKind.i64.wrap ((ptD ps k).hi - (ptD ps k).lo + 1) = (ptD ps k).hi - (ptD ps k).lo + 1 := wrap64 (by omega)
    have w8 : (ptD ps k).hi - (ptD ps k).lo + 1 ≤ 100001 := by omega
    have w4 : ¬ (ptD ps k).hi - (ptD ps k).lo + 1 = 0 := by omega
    generalize hD : (ptD ps k).hi - (ptD ps k).lo + 1 = D at *
    generalize hW3 : w.tdiv 3 = W3 at *
    have w5 : IntKind.i64.wrap (W3.tmod D) = W3.tmod D := wrap64 (by omega)
    have w6 : IntKind.i64.wrap ((ptD ps k).lo + W3.tmod D) = (ptD ps k).lo + W3.tmod D := wrap64 (by omega)
    have w7 : IntKind.i64.wrap (w.tmod 3) = w.tmod 3 := wrap64 (by omega)
    generalize hM3 : w.tmod 3 = M3 at *
    generalize hWD : W3.tmod D = WD at *
    generalize pkN (ptD ps k) w = N at *
    unfold pkK at hround
    rw [hnx, List.map_append] at hround
    unfold pkK
    generalize (pickM ps ws k).map intR = PL at *
    rcases hcase with ⟨hc1, hc2⟩ | ⟨j, c1, c2, c3, c4, c5⟩
    · subst hc1
      subst hc2
      have hM : M3 = 1 := hM3.symm
      have hM2 : W3 = 0 := hW3.symm
      subst hM
      subst hM2
      rw [if_neg (by omega), if_pos rfl] at hN
      subst hN
      simp [-getElem?_pos, -List.getElem?_map, -decide_eq_true_eq, -decide_eq_false_iff_not, -gt_iff_lt, u16sR, ptsP, hlt, hg, nblt, nble, w1, w2, w3, w4, w5, w6, w7, hD, hW3, hWD, hM3, hpl, hk6, hw]
      exact ⟨_, _, hmeas, Sub.mk (by simp [u16sR]) (by simp [ptsP, intR]), hround⟩
    · by_cases m0 : M3 = 0
      · subst m0
        rw [if_pos rfl] at hN
        subst hN
        simp [-getElem?_pos, -List.getElem?_map, -decide_eq_true_eq, -decide_eq_false_iff_not, -gt_iff_lt, u16sR, ptsP, hlt, hg, nblt, nble, w1, w2, w3, w4, w5, w6, w7, hD, hW3, hWD, hM3, hpl, hk6, hw, c1, c2, c3, c4, c5]
        exact ⟨_, _, hmeas, Sub.mk (by simp [u16sR]) (by simp [ptsP, intR]), hround⟩
      · rw [if_neg m0] at hN
        have m0' : decide (M3 = 0) = false := decide_eq_false m0
        by_cases m1 : M3 = 1
        · subst m1
          rw [if_pos rfl] at hN
          subst hN
          simp [-getElem?_pos, -List.getElem?_map, -decide_eq_true_eq, -decide_eq_false_iff_not, -gt_iff_lt, u16sR, ptsP, hlt, hg, nblt, nble, w1, w2, w3, w4, w5, w6, w7, hD, hW3, hWD, hM3, hpl, hk6, hw, c1, c2, c3, c4, c5]
          exact ⟨_, _, hmeas, Sub.mk (by simp [u16sR]) (by simp [ptsP, intR]), hround⟩
        · rw [if_neg m1] at hN
          have m1' : decide (M3 = 1) = false := decide_eq_false m1
          subst hN
          simp [-getElem?_pos, -List.getElem?_map, -decide_eq_true_eq, -decide_eq_false_iff_not, -gt_iff_lt, u16sR, ptsP, hlt, hg, nblt, nble, w1, w2, w3, w4, w5, w6, w7, hD, hW3, hWD, hM3, hpl, hk6, hw, c1, c2, c3, c4, c5, m0', m1']
          exact ⟨_, _, hmeas, Sub.mk (by simp [u16sR]) (by simp [ptsP, intR]), hround⟩
  · have he : k = ps.length := by omega
    subst he
    have hpl : ((pickM ps ws ps.length).map intR).length = ps.length := by simp [pickM]
    have htk : ((pickM ps ws ps.length).map intR).take ps.length = (pickM ps ws ps.length).map intR := List.take_of_length_le (by omega)
    unfold pkK
    generalize pickM ps ws ps.length = PL at *
    simp [-getElem?_pos, -List.getElem?_map, -decide_eq_true_eq, -decide_eq_false_iff_not, -gt_iff_lt, ptsP, nble, hpl, htk]
    rw [← hR]
    simp [intsR]
end Go.Proofs.YtaffbiibcfeigaaGreat
/-! Top, layers 1 and 4: what specimens hold; one curve and one run. -/
namespace Go.Proofs.YtaffbiibcfeigaaGreat
open Go.RowKit
attribute [local simp] Box.purge Site.isLoc
set_option maxRecDepth 10000
set_option linter.unusedSimpArgs false
/-- How many levels a specimen holds. -/
def hldM (by_ n x : Int) : Int := if x.tdiv by_ < n then x.tdiv by_ else n
theorem holds_c (x by_ n : Int) (hx : 0 ≤ x ∧ x ≤ 100000) (hb : 1 ≤ by_ ∧ by_ ≤ 65536) : Gives Tryz.prog 41 [.int .i64 x, .int .i64 by_, .int .i64 n] (.int .i64 (hldM by_ n x)) := by
  have h0 : ¬ by_ = 0 := by omega
  have h1 := Int.tdiv_nonneg hx.1 (show 0 ≤ by_ by omega)
  have h2 : x.tdiv by_ ≤ x := by rw [Int.tdiv_eq_ediv_of_nonneg hx.1]; exact Int.ediv_le_self _ hx.1
  have hw : IntKind.i64.wrap (x.tdiv by_) = x.tdiv by_ := wrap64 (by omega)
  refine calls_of_awpS mixed L41_ok (Nat.le_of_ble_eq_true rfl) ?_
  simp [-getElem?_pos, L41, h0, hw, hldM]
theorem hldM_mono {by_ n x y : Int} (hb : 1 ≤ by_) (hx : 0 ≤ x) (h : x ≤ y) : hldM by_ n x ≤ hldM by_ n y := by
  have h1 : x.tdiv by_ ≤ y.tdiv by_ := by
    rw [Int.tdiv_eq_ediv_of_nonneg hx, Int.tdiv_eq_ediv_of_nonneg (by omega)]
    exact Int.ediv_le_ediv (by omega) h
  unfold hldM
  split <;> split <;> omega
theorem hldM_in {by_ n x : Int} (hb : 1 ≤ by_) (hx : 0 ≤ x) (hn : 0 ≤ n) : 0 ≤ hldM by_ n x ∧ hldM by_ n x ≤ n := by
  have h1 := Int.tdiv_nonneg hx (show 0 ≤ by_ by omega)
  unfold hldM
  split <;> omega
attribute [local simp] retFz frzL AS.frz AV.frz AV.frzL Box.frz AS.tidy AS.frzC frzsL
theorem limited_c : Gives Tryz.prog 37 [] (.bool true) := by
  have hok : cvOk [⟨5, 7, 9⟩] = true := by decide
  have hr : Rl.ok ⟨1, 1, 0⟩ = true := by decide
  have h1 := span1_c [⟨5, 7, 9⟩] ⟨1, 1, 0⟩ hok hr 0 (by omega) [7] [9] ⟨rfl, fun i hi => by
    match i, hi with
    | 0, _ => decide⟩ ⟨rfl, fun i hi => by
    match i, hi with
    | 0, _ => decide⟩ (ends0_c [⟨5, 7, 9⟩] ⟨1, 1, 0⟩ hok hr 0 (.inl rfl))
  have e1 : numM ⟨1, 1, 0⟩ [⟨5, 7, 9⟩] 0 [7] = 7 := by decide
  have e2 : numM ⟨1, 1, 0⟩ [⟨5, 7, 9⟩] 0 [9] = 9 := by decide
  rw [e1, e2] at h1
  have h2 := shake_c 3 1 [2] [false] (by decide)
  have e3 : shErr 3 1 [2] [false] = 0 := by decide
  have e4 : shOut 3 1 [2] [false] = [⟨1, 1⟩] := rfl
  rw [e3, e4] at h2
  refine calls_of_awpS mixed L37_ok (Nat.le_of_ble_eq_true rfl) ?_
  simp [-getElem?_pos, L37]
  refine .inl (call_pv [.loc 8 0] (fs := []) (xs := [cvP [⟨5, 7, 9⟩], Rl.pv ⟨1, 1, 0⟩, .int .u8 0]) (cs := []) rfl rfl h1 ?_)
  simp [-getElem?_pos]
  refine .inl (call_pv [.loc 15 0, .loc 16 0] (fs := []) (xs := [.int .i64 3, .int .i64 1, intsP [2], boolsP [false]]) (cs := []) rfl rfl h2 ?_)
  simp [-getElem?_pos, Rn.pv]
end Go.Proofs.YtaffbiibcfeigaaGreat
/-! Top, layers 1 and 4: the levels that specimens hold, by their curves; plain. -/
namespace Go.Proofs.YtaffbiibcfeigaaGreat
open Go.RowKit
set_option linter.unusedSimpArgs false
/-- What is known of a rule and of words. -/
structure Lm where
  r : Rl
  ws : List Int
  by_ : Int
  n : Int
structure Lm.ok (x : Lm) : Prop where
  r : x.r.ok = true
  w : ∀ w ∈ x.ws, 0 ≤ w ∧ w ≤ 65535
  l : x.ws.length ≤ 9223372036854775807
  b : 1 ≤ x.by_ ∧ x.by_ ≤ 65536
  n : 1 ≤ x.n ∧ x.n ≤ 8
def Lm.lo (x : Lm) (c : List Pt) : Int := hldM x.by_ x.n (numM x.r c 0 (loL c))
def Lm.hi (x : Lm) (c : List Pt) : Int := hldM x.by_ x.n (numM x.r c 0 (hiL c))
def Lm.tr (x : Lm) (c : List Pt) : Int := hldM x.by_ x.n (numM x.r c 0 (pickM c x.ws c.length))
theorem num0_bd {r : Rl} {c : List Pt} {l : List Int} (hc : cvOk c = true) (hl : loadsB c l) : 0 ≤ numM r c 0 l ∧ numM r c 0 l ≤ 100000 := by
  have h0 := cv_len hc
  have h1 := sP_bd (l := l) (B := 100000) (by omega) (k := c.length) fun i hi => (hl.2 i hi).2
  have h2 := sP_ge (l := l) (k := c.length) (i := 0) h0.1
  have h3 := hl.2 0 h0.1
  show 0 ≤ (sP l c.length).1 ∧ (sP l c.length).1 ≤ 100000
  omega
theorem num0_in {x : Lm} (hx : x.ok) {c : List Pt} (hc : cvOk c = true) : numM x.r c 0 (loL c) ≤ numM x.r c 0 (pickM c x.ws c.length) ∧ numM x.r c 0 (pickM c x.ws c.length) ≤ numM x.r c 0 (hiL c) := by
  have ht := pickM_tru hc hx.w
  constructor
  · exact sP_mono fun i hi => by rw [loL_get hi]; exact (tru_at ht hi).1
  · exact sP_mono fun i hi => by rw [hiL_get hi]; exact (tru_at ht hi).2
theorem Lm.lo_tr {x : Lm} (hx : x.ok) {c : List Pt} (hc : cvOk c = true) : x.lo c ≤ x.tr c := hldM_mono hx.b.1 (num0_bd hc (tru_loads hc (lo_tru hc))).1 (num0_in hx hc).1
theorem Lm.tr_hi {x : Lm} (hx : x.ok) {c : List Pt} (hc : cvOk c = true) : x.tr c ≤ x.hi c := hldM_mono hx.b.1 (num0_bd hc (tru_loads hc (pickM_tru hc hx.w))).1 (num0_in hx hc).2
theorem Lm.tr_in {x : Lm} (hx : x.ok) {c : List Pt} (hc : cvOk c = true) : 0 ≤ x.tr c ∧ x.tr c ≤ x.n := hldM_in hx.b.1 (num0_bd hc (tru_loads hc (pickM_tru hc hx.w))).1 (by have := hx.n; omega)
theorem sort_le {f g : List Pt → Int} {cs : List (List Pt)} (h : ∀ c ∈ cs, f c ≤ g c) {k : Nat} {a b : Int} (ha : (sortI (cs.map f))[k]? = some a) (hb : (sortI (cs.map g))[k]? = some b) : a ≤ b :=
  sortI_mono (by simp) (fun j p q h1 h2 => by
    rw [List.getElem?_map] at h1 h2
    obtain ⟨c, h3, rfl⟩ := Option.map_eq_some_iff.1 h1
    rw [h3] at h2
    cases h2
    exact h c (List.mem_of_getElem? h3)) ha hb
theorem sort_at {f : List Pt → Int} {cs : List (List Pt)} {k : Nat} (h : k < cs.length) : ∃ a, (sortI (cs.map f))[k]? = some a := ⟨(sortI (cs.map f))[k]'(by rw [sortI_len]; simpa using h), List.getElem?_eq_getElem _⟩
theorem skLims_id {a : Int} {x : Lm} (hx : x.ok) (hn : x.n = skL a) {cs : List (List Pt)} (hl : cs.length ≤ 12) (hc : ∀ c ∈ cs, cvOk c = true) : skLims a (cs.map x.tr) = cs.map x.tr := by
  unfold skLims
  rw [List.take_of_length_le (by simp; omega), List.map_map]
  refine List.map_congr_left fun c h => ?_
  have := Lm.tr_in hx (hc c h)
  show (x.tr c).tmod (skL a + 1) = x.tr c
  rw [Int.tmod_eq_of_lt this.1 (by omega)]
end Go.Proofs.YtaffbiibcfeigaaGreat
/-! Layer 1 (curve): reading a rule, a list of curves. -/
namespace Go.Proofs.YtaffbiibcfeigaaGreat
open Go.RowKit Go.ChangeShapes Go.WideShapes Go.Deep
set_option maxRecDepth 100000
section
variable {H : Type} {enc : TypeId × Value → H} {W : World} {sp : Nat → Bool} {held : Bool} {r : Reach} {base : Nat}
theorem lr1 : Tryz.prog.cellsOf 3 = 1 := by kernel_rfl
theorem lrR : Tryz.prog.cellsOf 207 = 2 := by kernel_rfl
theorem lrP : Tryz.prog.cellsOf 209 = 3 := by kernel_rfl
theorem lrLP : Tryz.prog.cellsOf 102 = 1 := by kernel_rfl
theorem lrC : Tryz.prog.cellsOf 104 = 1 := by kernel_rfl
theorem lrU : Tryz.prog.cellsOf 100 = 3 := by kernel_rfl
theorem lr_int {n : Nat} {d : Value} {x : DataW H × List MemPlace} (h : DataW.trod enc Tryz.prog W 0 sp held n 3 [d] = some x) : ∃ m : Int, d = .int .i64 m := by
  obtain ⟨m, e, _, _⟩ := rd_int Tryz.underlying3 h
  simp at e
  exact ⟨m, e⟩
theorem lr_cells {m : Mem} {n : Nat} {l : List PV} {cs : List Value} {x : PV} (hx : x.cells = l) (hn : l.length = n) (hc : cs.length = n) (h : ∀ (j : Nat) (d : Value) (c : PV), cs[j]? = some d → l[j]? = some c → d.oneCell' = true ∧ RdP m d c) : CellsP m n cs x := by
  refine ⟨hc, by rw [hx]; exact hn, fun d hd => ?_, fun j d c h1 h2 => (h j d c h1 (by rw [hx] at h2; exact h2)).2⟩
  obtain ⟨j, hj⟩ := List.mem_iff_getElem?.1 hd
  have hjl : j < l.length := by rw [hn, ← hc]; exact (List.getElem?_eq_some_iff.1 hj).1
  exact (h j d l[j] hj (List.getElem?_eq_getElem hjl)).1
theorem lr_range {fuel : Nat} {cs : List Value} {y : DataW H × List MemPlace} (h : DataW.trod enc Tryz.prog W 0 sp held fuel 207 cs = some y) (hl : cs.length = 2) : ∃ a b : Int, cs = [.int .i64 a, .int .i64 b] := by
  match cs, hl with
  | [a, b], _ =>
  obtain ⟨xs, n, _, _, _, hxl, hf⟩ := DataW.trod_struct Tryz.underlying207 h
  have hxl' : xs.length = 2 := hxl
  have h0 : DataW.trod enc Tryz.prog W 0 sp held n 3 (([a, b].drop 0).take (Tryz.prog.cellsOf 3)) = xs[0]? := hf 0 _ rfl
  have h1 : DataW.trod enc Tryz.prog W 0 sp held n 3 (([a, b].drop 1).take (Tryz.prog.cellsOf 3)) = xs[1]? := hf 1 _ rfl
  rw [lr1, List.getElem?_eq_getElem (by omega)] at h0 h1
  obtain ⟨m0, rfl⟩ := lr_int h0
  obtain ⟨m1, rfl⟩ := lr_int h1
  exact ⟨m0, m1, rfl⟩
theorem lr_point {fuel : Nat} {cs : List Value} {y : DataW H × List MemPlace} (h : DataW.trod enc Tryz.prog W 0 sp held fuel 209 cs = some y) (hl : cs.length = 3) : ∃ q : Pt, True ∧ CellsP W.mem 3 cs q.pv := by
  match cs, hl with
  | [a, b, c], _ =>
  obtain ⟨xs, n, _, _, _, hxl, hf⟩ := DataW.trod_struct Tryz.underlying209 h
  have hxl' : xs.length = 2 := hxl
  have h0 : DataW.trod enc Tryz.prog W 0 sp held n 3 (([a, b, c].drop 0).take (Tryz.prog.cellsOf 3)) = xs[0]? := hf 0 _ rfl
  have h1 : DataW.trod enc Tryz.prog W 0 sp held n 207 (([a, b, c].drop 1).take (Tryz.prog.cellsOf 207)) = xs[1]? := hf 1 _ rfl
  rw [lr1, List.getElem?_eq_getElem (by omega)] at h0
  rw [lrR, List.getElem?_eq_getElem (by omega)] at h1
  obtain ⟨m0, rfl⟩ := lr_int h0
  have h1' : DataW.trod enc Tryz.prog W 0 sp held n 207 [b, c] = some xs[1] := h1
  obtain ⟨m1, m2, e⟩ := lr_range h1' rfl
  simp at e
  obtain ⟨rfl, rfl⟩ := e
  refine ⟨⟨m0, m1, m2⟩, trivial, lr_cells (l := [.int .i64 m0, .int .i64 m1, .int .i64 m2]) rfl rfl rfl fun j d c k1 k2 => ?_⟩
  match j with
  | 0 => simp at k1 k2; subst k1 k2; exact ⟨rfl, .int .i64 _⟩
  | 1 => simp at k1 k2; subst k1 k2; exact ⟨rfl, .int .i64 _⟩
  | 2 => simp at k1 k2; subst k1 k2; exact ⟨rfl, .int .i64 _⟩
  | j + 3 => simp at k1
theorem lr_curve {fuel : Nat} {cs : List Value} {y : DataW H × List MemPlace} (h : DataW.trod enc Tryz.prog W 0 sp held fuel 104 cs = some y) (hl : cs.length = 1) : ∃ q : List Pt, q.length ≤ 9223372036854775807 ∧ CellsP W.mem 1 cs (cvP q) := by
  match cs, hl with
  | [a], _ =>
  obtain ⟨xs, n, _, _, _, hxl, hf⟩ := DataW.trod_struct Tryz.underlying104 h
  have hxl' : xs.length = 1 := hxl
  have h0 : DataW.trod enc Tryz.prog W 0 sp held n 102 (([a].drop 0).take (Tryz.prog.cellsOf 102)) = xs[0]? := hf 0 _ rfl
  rw [lrLP, List.getElem?_eq_getElem (by omega)] at h0
  have h0' : DataW.trod enc Tryz.prog W 0 sp held n 102 [a] = some xs[0] := h0
  obtain ⟨q, _, q2, q3⟩ := rd_slice2 Pt.pv (fun _ => True) Tryz.underlying102 lrP (by omega) h0' (fun k cs y hy hl => lr_point hy hl)
  refine ⟨q, q2, lr_cells (l := [ptsP q]) rfl rfl rfl fun j d c k1 k2 => ?_⟩
  match j with
  | 0 => simp at k1 k2; subst k1 k2; exact ⟨by cases q3 <;> rfl, q3⟩
  | j + 1 => simp at k1
theorem rk_curves {v : Value} {fuel : Nat} {x : DataW H × List MemPlace} (hok : Value.okWide Tryz.prog W r base 122 v) (h : DataW.trod enc Tryz.prog W 0 sp held fuel 122 v.cells.toList = some x) :
    ∃ q : List (List Pt), (∀ c ∈ q, c.length ≤ 9223372036854775807) ∧ RdP W.mem v (.lst false 1 (q.map cvP)) := by
  obtain ⟨_, _, _, rfl⟩ := okWide_slice Tryz.underlying122 hok
  obtain ⟨q, q1, _, q3⟩ := rd_slice2 cvP (fun c : List Pt => c.length ≤ 9223372036854775807) Tryz.underlying122 lrC (by omega) h (fun k cs y hy hl => lr_curve hy hl)
  exact ⟨q, q1, q3⟩
theorem rk_rule {v : Value} {fuel : Nat} {x : DataW H × List MemPlace} (hok : Value.okWide Tryz.prog W r base 100 v) (h : DataW.trod enc Tryz.prog W 0 sp held fuel 100 v.cells.toList = some x) :
    ∃ q : Rl, True ∧ RdP W.mem v q.pv := by
  obtain ⟨cs, rfl, hsz⟩ := okWide_struct Tryz.underlying100 hok
  rw [lrU] at hsz
  obtain ⟨l⟩ := cs
  match l, hsz with
  | [a, b, c], _ =>
  obtain ⟨xs, n, _, _, _, hxl, hf⟩ := DataW.trod_struct Tryz.underlying100 h
  have hxl' : xs.length = 3 := hxl
  have h0 : DataW.trod enc Tryz.prog W 0 sp held n 3 (([a, b, c].drop 0).take (Tryz.prog.cellsOf 3)) = xs[0]? := hf 0 _ rfl
  have h1 : DataW.trod enc Tryz.prog W 0 sp held n 3 (([a, b, c].drop 1).take (Tryz.prog.cellsOf 3)) = xs[1]? := hf 1 _ rfl
  have h2 : DataW.trod enc Tryz.prog W 0 sp held n 3 (([a, b, c].drop 2).take (Tryz.prog.cellsOf 3)) = xs[2]? := hf 2 _ rfl
  rw [lr1, List.getElem?_eq_getElem (by omega)] at h0 h1 h2
  obtain ⟨m0, rfl⟩ := lr_int h0
  obtain ⟨m1, rfl⟩ := lr_int h1
  obtain ⟨m2, rfl⟩ := lr_int h2
  refine ⟨⟨m0, m1, m2⟩, trivial, .agg _ _ rfl ?_ ?_⟩
  · intro d hd
    simp at hd
    rcases hd with rfl | rfl | rfl <;> rfl
  · intro j d e k1 k2
    match j with
    | 0 => simp at k1 k2; subst k1 k2; exact .int .i64 _
    | 1 => simp at k1 k2; subst k1 k2; exact .int .i64 _
    | 2 => simp at k1 k2; subst k1 k2; exact .int .i64 _
    | j + 3 => simp at k1
end
end Go.Proofs.YtaffbiibcfeigaaGreat
/-! Facts of the program that a statement asks; lists of words among the arguments. -/
namespace Go.Proofs.YtaffbiibcfeigaaGreat
open Go.RowKit Go.ChangeShapes Go.WideShapes Go.Deep
theorem own : ownKnob Tryz.prog.godebug = none := by kernel_rfl
theorem laidP : laidOutB Tryz.prog = true := by kernel_rfl
theorem rowedP : mapsRowed Tryz.prog = true := by kernel_rfl
theorem fullP : ((List.range Tryz.prog.types.size).all fun t => match Tryz.prog.underlying t with | some (.slice e) => decide (0 < Tryz.prog.cellsOf e) | _ => true) = true := by kernel_rfl
set_option maxRecDepth 100000
theorem ku8 {n : Int} (h0 : (Lit.int .u8 n).wf = true) : 0 ≤ n ∧ n ≤ 255 := by
  have e1 : IntKind.u8.min = 0 := by decide
  have e2 : IntKind.u8.max = 255 := by decide
  have h := kind_range h0
  omega
theorem ku16 {n : Int} (h0 : (Lit.int .u16 n).wf = true) : 0 ≤ n ∧ n ≤ 65535 := by
  have e1 : IntKind.u16.min = 0 := by decide
  have e2 : IntKind.u16.max = 65535 := by decide
  have h := kind_range h0
  omega
section
variable {H : Type} {enc : TypeId × Value → H} {W : World} {sp : Nat → Bool} {held : Bool} {r : Reach} {base : Nat}
theorem cq16 : Tryz.prog.cellsOf 32 = 1 := by kernel_rfl
theorem kq16 {n : Int} (h : IntKind.u16.min ≤ n ∧ n ≤ IntKind.u16.max) : 0 ≤ n ∧ n < 65536 := by
  have e1 : IntKind.u16.min = 0 := by decide
  have e2 : IntKind.u16.max = 65535 := by decide
  omega
theorem rd_u16s {v : Value} {fuel : Nat} {x : DataW H × List MemPlace} (hok : Value.okWide Tryz.prog W r base 31 v) (h : DataW.trod enc Tryz.prog W 0 sp held fuel 31 v.cells.toList = some x) :
    ∃ l : List Int, (∀ y ∈ l, 0 ≤ y ∧ y < 65536) ∧ l.length ≤ 9223372036854775807 ∧ RdP W.mem v (.lst false 1 (l.map (PV.int .u16))) := by
  obtain ⟨_, _, _, rfl⟩ := okWide_slice Tryz.underlying31 hok
  exact rd_slice2 (PV.int .u16) (fun y => 0 ≤ y ∧ y < 65536) Tryz.underlying31 cq16 (by omega) h (fun k cs y hy hl => by
    obtain ⟨m, e, g, hr⟩ := rd_int Tryz.underlying32 hy
    exact ⟨m, kq16 g, hr⟩)
end
end Go.Proofs.YtaffbiibcfeigaaGreat
