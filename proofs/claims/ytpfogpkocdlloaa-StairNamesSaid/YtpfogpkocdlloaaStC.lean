/- Contracts of the reference (tensileref04): Fault, Next, Levels. (Several texts in one.) -/
import Derived.Test.YtpfogpkocdlloaaStB
import Derived.Test.YtpfogpkocdlloaaStA
import Derived.Test.YtpfogpkocdlloaaBaseD
set_option linter.unusedVariables false
set_option linter.unusedSimpArgs false
/-! Contracts of the reference (tensileref04): Fault, Next, Levels. -/
namespace Go.Proofs.Ytpfogpkocdlloaa
open Go.RowKit
attribute [local simp] Box.purge Site.isLoc

set_option maxRecDepth 10000
set_option linter.unusedSimpArgs false

set_option maxHeartbeats 8000000 in
theorem fault_c (s : St) (hl : s.runs.length ≤ 1000000) : Gives Try.prog 34 [s.pv] (.int .i64 s.check) := by
  refine calls_of_awpS mixed L34_ok (Nat.le_of_ble_eq_true rfl) ?_
  simp [-getElem?_pos, L34, St.pv]
  refine awp_loopS (fun n τ => ∃ k : Nat, k ≤ s.runs.length ∧ n = s.runs.length - k ∧ τ = ⟨[(1, .ptr (.loc 1 0) 0), (3, .pv (.int .i64 (lostN (s.runs.take k)))), (4, .pv (.int .i64 k))],
      [(.loc 1 0, .cells [.pv (.int .i64 s.levels), .pv (.int .i64 s.start), .pv (.lst false 2 (s.runs.map Rn.pv))])]⟩)
    ⟨s.runs.length, _, Sub.mk (by simp [lostN]) (by simp), 0, by omega, rfl, rfl⟩ ?_
  rintro J hJ n τ ⟨k, hk, rfl, rfl⟩
  by_cases hlt : k < s.runs.length
  · have hx : s.runs[k]? = some s.runs[k] := List.getElem?_eq_getElem hlt
    generalize s.runs[k] = r at hx
    obtain ⟨lv, rs⟩ := r
    have hw : IntKind.i64.wrap ((k : Int) + 1) = ((k + 1 : Nat) : Int) := by rw [wrap64 (by omega)]; omega
    have hln := lost_le s.runs k
    have hw2 : IntKind.i64.wrap ((lostN (s.runs.take k) : Int) + 1) = ((lostN (s.runs.take k) + 1 : Nat) : Int) := by rw [wrap64 (by omega)]; omega
    have hls := lost_take hx
    cases hb : decide (rs = 3)
    · have hb' : ¬ rs = 3 := by simpa using hb
      simp only [hb', if_false, Nat.add_zero] at hls
      simp [-getElem?_pos, -decide_eq_true_eq, -decide_eq_false_iff_not, hlt, hx, Rn.pv, hb, hw, nblt]
      exact ⟨_, _, (by omega : s.runs.length - (k + 1) < s.runs.length - k), Sub.mk (by simp [hls]) (by simp), hJ _ _ ⟨k + 1, by omega, rfl, rfl⟩⟩
    · have hb' : rs = 3 := by simpa using hb
      simp only [hb', if_true] at hls
      simp [-getElem?_pos, -decide_eq_true_eq, -decide_eq_false_iff_not, hlt, hx, Rn.pv, hb, hw, hw2, nblt]
      exact ⟨_, _, (by omega : s.runs.length - (k + 1) < s.runs.length - k), Sub.mk (by simp [hls]) (by simp), hJ _ _ ⟨k + 1, by omega, rfl, rfl⟩⟩
  · have he : k = s.runs.length := by omega
    subst he
    rw [List.take_length]
    by_cases h1 : 14 < s.runs.length
    · have h1' : decide ((s.runs.length : Int) > 14) = true := by simp; omega
      simp [-getElem?_pos, -decide_eq_true_eq, -decide_eq_false_iff_not, h1', St.check, h1]
    · have h1' : decide ((s.runs.length : Int) > 14) = false := by simp; omega
      by_cases h2 : 6 < lostN s.runs
      · have h2' : decide ((lostN s.runs : Int) > 6) = true := by simp; omega
        simp [-getElem?_pos, -decide_eq_true_eq, -decide_eq_false_iff_not, h1', h2', St.check, h2]
      · have h2' : decide ((lostN s.runs : Int) > 6) = false := by simp; omega
        have hc0 : s.check = if s.placed = true ∧ s.runs.all s.isRun = true then 0 else 1 := by unfold St.check; rw [if_neg (by omega)]
        simp [-getElem?_pos, -decide_eq_true_eq, -decide_eq_false_iff_not, h1', h2']
        refine call_gives (k := 0) rfl rfl (in_c s.levels 1 8) rfl ?_
        cases hp : decide (1 ≤ s.levels) && decide (s.levels ≤ 8)
        · have hpl : s.placed = false := by unfold St.placed; rw [hp]; rfl
          simp [-getElem?_pos, hc0, hpl]
        · have hb : 1 ≤ s.levels ∧ s.levels ≤ 8 := by simpa using hp
          have hw : IntKind.i64.wrap (s.levels - 1) = s.levels - 1 := wrap64 (by omega)
          simp [-getElem?_pos, hw]
          refine call_gives (k := 0) rfl rfl (in_c s.start 0 (s.levels - 1)) rfl ?_
          cases hq : decide (0 ≤ s.start) && decide (s.start ≤ s.levels - 1)
          · have hpl : s.placed = false := by unfold St.placed; rw [hp, hq]; rfl
            simp [-getElem?_pos, hc0, hpl]
          · have hpl : s.placed = true := by unfold St.placed; rw [hp, hq]; rfl
            simp [-getElem?_pos]
            refine awp_loopS (fun n τ => ∃ k : Nat, k ≤ s.runs.length ∧ n = s.runs.length - k ∧ (s.runs.take k).all s.isRun = true ∧ τ = ⟨[(1, .ptr (.loc 1 0) 0), (5, .pv (.int .i64 k))],
                [(.loc 1 0, .cells [.pv (.int .i64 s.levels), .pv (.int .i64 s.start), .pv (.lst false 2 (s.runs.map Rn.pv))])]⟩)
              ⟨s.runs.length, _, Sub.mk (by simp) (by simp), 0, by omega, rfl, rfl, rfl⟩ ?_
            rintro J hJ n τ ⟨k, hk, rfl, hall, rfl⟩
            by_cases hlt : k < s.runs.length
            · have hx : s.runs[k]? = some s.runs[k] := List.getElem?_eq_getElem hlt
              have hts : s.runs.take (k + 1) = s.runs.take k ++ [s.runs[k]] := by rw [List.take_add_one, hx]; rfl
              have hmem : s.runs[k] ∈ s.runs := List.getElem_mem hlt
              generalize s.runs[k] = r at hx hts hmem
              obtain ⟨lv, rs⟩ := r
              have hwk : IntKind.i64.wrap ((k : Int) + 1) = ((k + 1 : Nat) : Int) := by rw [wrap64 (by omega)]; omega
              simp [-getElem?_pos, hlt, hx, Rn.pv, nblt, hw]
              refine call_give (k := 0) rfl rfl (in_c lv (-1) (s.levels - 1)) rfl ?_
              have hbad : ∀ b : Bool, s.isRun ⟨lv, rs⟩ = false → s.check = 1 := fun b hbf => by
                rw [hc0, if_neg]
                rintro ⟨_, h⟩
                rw [List.all_eq_true.1 h _ hmem] at hbf; cases hbf
              cases hr : decide (-1 ≤ lv) && decide (lv ≤ s.levels - 1)
              · have := hbad true (by unfold St.isRun; rw [hr]; rfl)
                simp [-getElem?_pos, this]
              · cases hr2 : decide (rs > 3)
                · have hok : s.isRun ⟨lv, rs⟩ = true := by
                    unfold St.isRun
                    rw [hr]
                    simp at hr2 ⊢; omega
                  simp [-getElem?_pos, -decide_eq_true_eq, -decide_eq_false_iff_not, hr2, hwk, hx, hlt, Rn.pv, nblt]
                  exact ⟨_, _, (by omega : s.runs.length - (k + 1) < s.runs.length - k), Sub.mk (by simp) (by simp), hJ _ _ ⟨k + 1, by omega, rfl, by rw [hts, List.all_append, hall]; simp [hok], rfl⟩⟩
                · have := hbad true (by unfold St.isRun; rw [hr]; simp at hr2 ⊢; omega)
                  simp [-getElem?_pos, -decide_eq_true_eq, -decide_eq_false_iff_not, hr2, this, hx, hlt, Rn.pv, nblt]
            · have he : k = s.runs.length := by omega
              subst he
              rw [List.take_length] at hall
              have h0 : s.check = 0 := by rw [hc0, if_pos ⟨hpl, hall⟩]
              simp [-getElem?_pos, h0]
theorem ready_c (s : St) : Gives Try.prog 23 [s.pv] (.bool (decide (s.runs.length ≤ 20) && decide (s.check = 0))) := by
  refine calls_of_awpS mixed L23_ok (Nat.le_of_ble_eq_true rfl) ?_
  simp [-getElem?_pos, L23, St.pv]
  refine call_gives (k := 0) rfl rfl (thin_c s) rfl ?_
  by_cases h : s.runs.length ≤ 20
  · have h' : (s.runs.length : Int) ≤ 20 := by omega
    simp [-getElem?_pos, h, h']
    refine call_gives (k := 0) rfl rfl (fault_c s (by omega)) rfl ?_
    simp [-getElem?_pos]
  · have h' : ¬ (s.runs.length : Int) ≤ 20 := by omega
    simp [-getElem?_pos, h, h']
theorem next_c (s : St) (hs : 0 ≤ s.levels ∧ s.levels ≤ 1000) (v k : Int) (hv : -1000 ≤ v ∧ v ≤ 1000) : Gives Try.prog 65 [.int .i64 s.levels, .int .i64 v, .int .u8 k] (.int .i64 (s.next v k)) := by
  refine calls_of_awpS mixed L65_ok (Nat.le_of_ble_eq_true rfl) ?_
  have hw : IntKind.i64.wrap (v - 1) = v - 1 := wrap64 (by omega)
  have hw2 : IntKind.i64.wrap (v + 1) = v + 1 := wrap64 (by omega)
  have hw3 : IntKind.i64.wrap (s.levels - 1) = s.levels - 1 := wrap64 (by omega)
  by_cases h0 : k = 0
  · subst h0
    simp [-getElem?_pos, L65, hw, St.next]
    split <;> omega
  · by_cases h1 : k = 1
    · subst h1
      simp [-getElem?_pos, L65, hw2, hw3, St.next]
      split <;> omega
    · have : s.next v k = v := by unfold St.next; split <;> simp_all
      simp [-getElem?_pos, L65, h0, h1, this]
end Go.Proofs.Ytpfogpkocdlloaa

/-! Contracts of the reference (tensileref04): Levels, IsHistory. -/
namespace Go.Proofs.Ytpfogpkocdlloaa
open Go.RowKit
attribute [local simp] Box.purge Site.isLoc

set_option maxRecDepth 10000
set_option linter.unusedSimpArgs false

def u8P (n : Int) : PV := .int .u8 n
def u8sP (l : List Int) : PV := .lst false 1 (l.map u8P)
/-- The levels of runs, by their results. -/
def St.lev (s : St) : Int → List Int → List Int
  | _, [] => []
  | v, k :: ks => v :: s.lev (s.next v k) ks
def St.levAt (s : St) : Int → List Int → Int
  | v, [] => v
  | v, k :: ks => s.levAt (s.next v k) ks
theorem St.lev_len (s : St) : ∀ (v : Int) (l : List Int), (s.lev v l).length = l.length
  | _, [] => rfl
  | v, k :: ks => by rw [St.lev, List.length_cons, St.lev_len, List.length_cons]
theorem St.lev_take (s : St) : ∀ (v : Int) (l : List Int) (j : Nat) (k : Int), l[j]? = some k → s.lev v (l.take (j + 1)) = s.lev v (l.take j) ++ [s.levAt v (l.take j)] ∧ s.levAt v (l.take (j + 1)) = s.next (s.levAt v (l.take j)) k
  | v, [], j, k, h => by simp at h
  | v, x :: l, 0, k, h => by
    simp at h; subst h
    simp [St.lev, St.levAt]
  | v, x :: l, j + 1, k, h => by
    obtain ⟨h1, h2⟩ := St.lev_take s (s.next v x) l j k (by simpa using h)
    simp only [List.take_succ_cons, St.lev, St.levAt, List.cons_append]
    rw [h1]
    exact ⟨rfl, h2⟩
theorem St.levAt_in {s : St} (hs : 1 ≤ s.levels ∧ s.levels ≤ 1000) : ∀ (l : List Int) (v : Int), 0 ≤ v ∧ v ≤ 1000 → 0 ≤ s.levAt v l ∧ s.levAt v l ≤ 1000
  | [], v, h => h
  | k :: ks, v, h => St.levAt_in hs ks _ (St.next_in hs h k)
attribute [local simp] retFz frzL AS.frz AV.frz AV.frzL Box.frz AS.tidy
def levH (s : St) (l : List Int) : Nat → AS
  | 0 => ⟨[(0, .pv (.int .i64 s.levels)), (2, .pv (u8sP l)), (7, .pv (.emp (some true))), (8, .pv (.int .i64 s.start)), (9, .pv (.int .i64 0))], []⟩
  | k + 1 => ⟨[(0, .pv (.int .i64 s.levels)), (2, .pv (u8sP l)), (7, .vec (.loc 20 0) 1 0 (k + 1)), (8, .pv (.int .i64 (s.levAt s.start (l.take (k + 1))))), (9, .pv (.int .i64 (k + 1 : Nat)))], [(.loc 20 0, .arr 3 1 ((s.lev s.start (l.take (k + 1))).map intP))]⟩
set_option maxHeartbeats 8000000 in
theorem levels0_c (s : St) (hs : 1 ≤ s.levels ∧ s.levels ≤ 1000) (hst : 0 ≤ s.start ∧ s.start ≤ 1000) (l : List Int) (hl : l.length ≤ 1000) : CallsA Try.prog 41 ([.int .i64 s.levels, .int .i64 s.start, u8sP l].map .pv) [] (fun r B => r = .pv (if l = [] then .emp (some true) else intsP (s.lev s.start l)) ∧ B = []) := by
  by_cases hne : l = []
  · subst hne
    refine calls_of_awpS mixed L41_ok (Nat.le_of_ble_eq_true rfl) ?_
    simp [-getElem?_pos, L41, u8sP]
    refine awp_loopS (fun n τ => τ = levH s [] 0) ⟨0, _, Sub.mk (by simp [levH, u8sP]) (by simp [levH]), rfl⟩ ?_
    rintro J hJ n τ rfl
    simp [-getElem?_pos, levH, u8sP]
  · refine calls_of_awpF [.loc 20 0] mixed L41_ok (Nat.le_of_ble_eq_true rfl) ?_
    rw [if_neg hne]
    simp [-getElem?_pos, L41]
    refine awp_loopS (fun n τ => ∃ k : Nat, k ≤ l.length ∧ n = l.length - k ∧ τ = levH s l k) ⟨l.length, _, Sub.mk (by simp [levH]) (by simp [levH]), 0, by omega, rfl, rfl⟩ ?_
    rintro J hJ n τ ⟨k, hk, rfl, rfl⟩
    by_cases hlt : k < l.length
    · have hx : l[k]? = some l[k] := List.getElem?_eq_getElem hlt
      generalize l[k] = x at hx
      obtain ⟨ht1, ht2⟩ := St.lev_take s s.start l k x hx
      have hin := St.levAt_in hs (l.take k) s.start hst
      have hw : IntKind.i64.wrap ((k : Int) + 1) = ((k + 1 : Nat) : Int) := by rw [wrap64 (by omega)]; omega
      have hround := hJ _ _ ⟨k + 1, hlt, rfl, rfl⟩
      have hlen : (s.lev s.start (l.take k)).length = k := by rw [St.lev_len, List.length_take]; omega
      have hgx : (l.map u8P)[k]? = some (.int .u8 x) := by rw [List.getElem?_map, hx]; rfl
      have hnx := next_c s (by omega) (s.levAt s.start (l.take k)) x (by omega)
      cases k with
      | zero =>
        rw [show ((0 : Nat) : Int) = 0 from rfl] at hw
        have hw1 : IntKind.i64.wrap 1 = 1 := rfl
        simp only [List.take_zero, St.levAt] at hnx ht1 ht2
        simp [-getElem?_pos, -List.getElem?_map, levH, u8sP, hlt, hgx, nble, nblt]
        refine call_gives (k := 0) (fs := []) (cs := []) rfl rfl hnx rfl ?_
        simp [-getElem?_pos, hw1]
        refine ⟨_, _, (by omega : l.length - 1 < l.length), Sub.mk ?_ ?_, hround⟩
        · simp [levH, u8sP, ht2]
        · simp [levH, ht1, St.lev, intP]
      | succ k =>
        rw [show ((k + 1 : Nat) : Int) = (k : Int) + 1 by omega] at hw
        have hlt' : decide ((k : Int) + 1 < (l.length : Int)) = true := by simp; omega
        have hkb : k + 1 < l.length := by omega
        have hk6 : k + 1 + 1 ≤ 1000000 := by omega
        simp [-getElem?_pos, -decide_eq_true_eq, -List.getElem?_map, levH, u8sP, hlt', hgx, nble, nblt, hkb, hk6, hlen]
        refine call_gives (k := 0) (fs := []) (cs := []) rfl rfl hnx rfl ?_
        simp [-getElem?_pos, hw]
        refine ⟨_, _, (by omega : l.length - (k + 1 + 1) < l.length - (k + 1)), Sub.mk ?_ ?_, hround⟩
        · simp [levH, u8sP, ht2]
        · simp [levH, ht1, intP]
    · have he : k = l.length := by omega
      subst he
      obtain ⟨j, hj⟩ : ∃ j, l.length = j + 1 := ⟨l.length - 1, by have := List.length_pos_iff.2 hne; omega⟩
      have htk : List.take (j + 1) l = l := List.take_of_length_le (by omega)
      have hlen : (s.lev s.start l).length = j + 1 := by rw [St.lev_len, hj]
      have htk2 : List.take (j + 1) (List.map intP (s.lev s.start l)) = List.map intP (s.lev s.start l) := List.take_of_length_le (by simp [hlen])
      rw [hj]
      simp [-getElem?_pos, levH, u8sP, hj, htk, hlen, htk2, intsP_eq]
theorem levels_c (s : St) (hs : 1 ≤ s.levels ∧ s.levels ≤ 1000) (hst : 0 ≤ s.start ∧ s.start ≤ 1000) (l : List Int) (hl : l.length ≤ 1000) : CallsA Try.prog 41 ([.int .i64 s.levels, .int .i64 s.start, u8sP l].map .pv) [] (fun r B => r = .pv (intsP (s.lev s.start l)) ∧ B = []) := by
  refine (levels0_c s hs hst l hl).weak (fun m v h => ?_)
  split at h
  · rename_i hne
    subst hne
    exact emp_lst h
  · exact h
end Go.Proofs.Ytpfogpkocdlloaa

/-! Contracts (stair): is this a history? The reference's IsHistory, the program's ProveHistory. -/
namespace Go.Proofs.Ytpfogpkocdlloaa
open Go.RowKit
attribute [local simp] Box.purge Site.isLoc

set_option maxRecDepth 10000
set_option linter.unusedSimpArgs false

/-- May a run at a level have a result? -/
def Rn.okR (r : Rn) (v k : Int) : Bool := decide (k ≤ 2) && (decide (r.res = 3) || decide (r.res = k)) && (decide (r.level < 0) || decide (r.level = v))
def St.histR (s : St) : List Rn → Int → List Int → Bool
  | [], _, [] => true
  | r :: rest, v, k :: ks => r.okR v k && s.histR rest (s.next v k) ks
  | _, _, _ => false
theorem St.histR_false {s : St} : ∀ (rest : List Rn) (v : Int) (ks : List Int) (j : Nat) (r : Rn) (k : Int), rest[j]? = some r → ks[j]? = some k → r.okR (s.levAt v (ks.take j)) k = false → s.histR rest v ks = false
  | [], _, _, j, r, k, h, _, _ => by simp at h
  | _ :: _, _, [], j, r, k, _, h, _ => by simp at h
  | x :: rest, v, y :: ks, 0, r, k, h1, h2, h3 => by
    simp at h1 h2; subst h1 h2
    simp [St.levAt] at h3
    simp [St.histR, h3]
  | x :: rest, v, y :: ks, j + 1, r, k, h1, h2, h3 => by
    have := St.histR_false (s := s) rest (s.next v y) ks j r k (by simpa using h1) (by simpa using h2) (by simpa [St.levAt] using h3)
    simp [St.histR, this]
theorem St.histR_true {s : St} : ∀ (rest : List Rn) (v : Int) (ks : List Int), rest.length = ks.length → (∀ (j : Nat) (r : Rn) (k : Int), rest[j]? = some r → ks[j]? = some k → r.okR (s.levAt v (ks.take j)) k = true) → s.histR rest v ks = true
  | [], _, [], _, _ => rfl
  | [], _, _ :: _, h, _ => by simp at h
  | _ :: _, _, [], h, _ => by simp at h
  | x :: rest, v, y :: ks, hl, h => by
    have h0 := h 0 x y rfl rfl
    simp only [List.take_zero, St.levAt] at h0
    rw [St.histR, h0, Bool.true_and]
    refine St.histR_true rest _ ks (by simpa using hl) (fun j r k h1 h2 => ?_)
    have := h (j + 1) r k (by simpa using h1) (by simpa using h2)
    simpa [St.levAt] using this
theorem St.histR_len {s : St} : ∀ (rest : List Rn) (v : Int) (ks : List Int), rest.length ≠ ks.length → s.histR rest v ks = false
  | [], _, [], h => absurd rfl h
  | [], _, _ :: _, _ => rfl
  | _ :: _, _, [], _ => rfl
  | x :: rest, v, y :: ks, h => by
    rw [St.histR, St.histR_len rest _ ks (by simpa using h), Bool.and_false]
def St.isHist (s : St) (ks : List Int) : Bool := s.histR s.runs s.start ks
theorem St.lev_get (s : St) : ∀ (l : List Int) (v : Int) (j : Nat), j < l.length → (s.lev v l)[j]? = some (s.levAt v (l.take j))
  | [], _, _, h => by simp at h
  | x :: l, v, 0, _ => rfl
  | x :: l, v, j + 1, h => by
    simp only [St.lev, List.getElem?_cons_succ, List.take_succ_cons, St.levAt]
    exact St.lev_get s l _ j (by simpa using h)
set_option maxHeartbeats 8000000 in
theorem isHist_c (s : St) (hc : s.check = 0) (l : List Int) (hl : l.length ≤ 1000) : Gives Try.prog 35 [s.pv, u8sP l] (.bool (s.isHist l)) := by
  obtain ⟨q1, q2, q3, _⟩ := St.check0 hc
  refine calls_of_awpS mixed L35_ok (Nat.le_of_ble_eq_true rfl) ?_
  by_cases hlen : l.length = s.runs.length
  · simp [-getElem?_pos, L35, St.pv, u8sP, hlen]
    refine .inl (call_pv [] (fs := []) (xs := [.int .i64 s.levels, .int .i64 s.start, u8sP l]) (cs := []) rfl rfl (levels_c s (by omega) (by omega) l hl) ?_)
    simp [-getElem?_pos, frzsL]
    refine awp_loopS (fun n τ => ∃ k : Nat, k ≤ s.runs.length ∧ n = s.runs.length - k ∧ (∀ (j : Nat) (r : Rn) (x : Int), j < k → s.runs[j]? = some r → l[j]? = some x → r.okR (s.levAt s.start (l.take j)) x = true) ∧
        τ = ⟨[(1, .pv (u8sP l)), (2, .ptr (.loc 2 0) 0), (5, .pv (intsP (s.lev s.start l))), (6, .pv (.int .i64 k))], [(.loc 2 0, .cells s.cells)]⟩)
      ⟨s.runs.length, _, Sub.mk (by simp [u8sP]) (by simp [St.cells]), 0, by omega, rfl, (fun j r x hj => by omega), rfl⟩ ?_
    rintro J hJ n τ ⟨k, hk, rfl, hinv, rfl⟩
    by_cases hlt : k < s.runs.length
    · have hx : s.runs[k]? = some s.runs[k] := List.getElem?_eq_getElem hlt
      generalize s.runs[k] = r at hx
      obtain ⟨lv, rs⟩ := r
      have hy : l[k]? = some (l[k]'(by omega)) := List.getElem?_eq_getElem _
      generalize l[k]'(by omega) = x at hy
      have hlk : k < l.length := by omega
      have hv := St.lev_get s l s.start k hlk
      have hw : IntKind.i64.wrap ((k : Int) + 1) = ((k + 1 : Nat) : Int) := by rw [wrap64 (by omega)]; omega
      have hgy : (l.map u8P)[k]? = some (.int .u8 x) := by rw [List.getElem?_map, hy]; rfl
      have hgv : ((s.lev s.start l).map intP)[k]? = some (.int .i64 (s.levAt s.start (l.take k))) := by rw [List.getElem?_map, hv]; rfl
      have hgr : (s.runs.map Rn.pv)[k]? = some (.agg [.int .i64 lv, .int .u8 rs]) := by rw [List.getElem?_map, hx]; rfl
      have hbad : Rn.okR ⟨lv, rs⟩ (s.levAt s.start (l.take k)) x = false → s.isHist l = false := fun h => St.histR_false _ _ _ k _ x hx hy h
      have hgood : Rn.okR ⟨lv, rs⟩ (s.levAt s.start (l.take k)) x = true → J (s.runs.length - (k + 1)) ⟨[(1, .pv (u8sP l)), (2, .ptr (.loc 2 0) 0), (5, .pv (intsP (s.lev s.start l))), (6, .pv (.int .i64 (k + 1 : Nat)))], [(.loc 2 0, .cells s.cells)]⟩ := fun h =>
        hJ _ _ ⟨k + 1, hlt, rfl, fun j r y hj h1 h2 => by
          by_cases e : j = k
          · subst e; rw [hx] at h1; rw [hy] at h2; cases h1; cases h2; exact h
          · exact hinv j r y (by omega) h1 h2, rfl⟩
      generalize s.levAt s.start (l.take k) = v at hgv hbad hgood
      have hlL : k < (s.lev s.start l).length := by rw [St.lev_len]; exact hlk
      have fin : ∀ b1 b2 b3 b4 b5 : Bool, decide (x > 2) = b1 → decide (rs = 3) = b2 → decide (rs = x) = b3 → decide (lv ≥ 0) = b4 → decide (lv = v) = b5 → Rn.okR ⟨lv, rs⟩ v x = (!b1 && (b2 || b3) && (!b4 || b5)) := by
        intro b1 b2 b3 b4 b5 h1 h2 h3 h4 h5
        subst h1 h2 h3 h4 h5
        unfold Rn.okR
        congr 1
        · congr 1
          rw [Bool.eq_iff_iff]; simp
        · congr 1
          rw [Bool.eq_iff_iff]; simp
      cases h1 : decide (x > 2)
      · cases h2 : decide (rs = 3)
        · cases h3 : decide (rs = x)
          · have e := fin _ _ _ _ _ h1 h2 h3 rfl rfl
            have := hbad e
            simp [-getElem?_pos, -List.getElem?_map, -decide_eq_true_eq, -decide_eq_false_iff_not, u8sP, intsP_eq, St.cells, hlt, hlen, hlL, hgr, hgy, hgv, nblt, h1, h2, h3, this]
          · cases h4 : decide (lv ≥ 0)
            · have e := hgood (fin _ _ _ _ _ h1 h2 h3 h4 rfl)
              simp [-getElem?_pos, -List.getElem?_map, -decide_eq_true_eq, -decide_eq_false_iff_not, u8sP, intsP_eq, St.cells, hlt, hlen, hlL, hgr, hgy, hgv, nblt, h1, h2, h3, h4, hw]
              exact ⟨_, _, (by omega : s.runs.length - (k + 1) < s.runs.length - k), Sub.mk (by simp [u8sP, intsP_eq]) (by simp [St.cells]), e⟩
            · cases h5 : decide (lv = v)
              · have := hbad (fin _ _ _ _ _ h1 h2 h3 h4 h5)
                simp [-getElem?_pos, -List.getElem?_map, -decide_eq_true_eq, -decide_eq_false_iff_not, u8sP, intsP_eq, St.cells, hlt, hlen, hlL, hgr, hgy, hgv, nblt, h1, h2, h3, h4, h5, this]
              · have e := hgood (fin _ _ _ _ _ h1 h2 h3 h4 h5)
                simp [-getElem?_pos, -List.getElem?_map, -decide_eq_true_eq, -decide_eq_false_iff_not, u8sP, intsP_eq, St.cells, hlt, hlen, hlL, hgr, hgy, hgv, nblt, h1, h2, h3, h4, h5, hw]
                exact ⟨_, _, (by omega : s.runs.length - (k + 1) < s.runs.length - k), Sub.mk (by simp [u8sP, intsP_eq]) (by simp [St.cells]), e⟩
        · cases h4 : decide (lv ≥ 0)
          · have e := hgood (fin _ _ _ _ _ h1 h2 rfl h4 rfl)
            simp [-getElem?_pos, -List.getElem?_map, -decide_eq_true_eq, -decide_eq_false_iff_not, u8sP, intsP_eq, St.cells, hlt, hlen, hlL, hgr, hgy, hgv, nblt, h1, h2, h4, hw]
            exact ⟨_, _, (by omega : s.runs.length - (k + 1) < s.runs.length - k), Sub.mk (by simp [u8sP, intsP_eq]) (by simp [St.cells]), e⟩
          · cases h5 : decide (lv = v)
            · have := hbad (fin _ _ _ _ _ h1 h2 rfl h4 h5)
              simp [-getElem?_pos, -List.getElem?_map, -decide_eq_true_eq, -decide_eq_false_iff_not, u8sP, intsP_eq, St.cells, hlt, hlen, hlL, hgr, hgy, hgv, nblt, h1, h2, h4, h5, this]
            · have e := hgood (fin _ _ _ _ _ h1 h2 rfl h4 h5)
              simp [-getElem?_pos, -List.getElem?_map, -decide_eq_true_eq, -decide_eq_false_iff_not, u8sP, intsP_eq, St.cells, hlt, hlen, hlL, hgr, hgy, hgv, nblt, h1, h2, h4, h5, hw]
              exact ⟨_, _, (by omega : s.runs.length - (k + 1) < s.runs.length - k), Sub.mk (by simp [u8sP, intsP_eq]) (by simp [St.cells]), e⟩
      · have := hbad (fin _ _ _ _ _ h1 rfl rfl rfl rfl)
        simp [-getElem?_pos, -List.getElem?_map, -decide_eq_true_eq, -decide_eq_false_iff_not, u8sP, intsP_eq, St.cells, hlt, hlen, hlL, hgr, hgy, hgv, nblt, h1, this]
    · have he : k = s.runs.length := by omega
      subst he
      have : s.isHist l = true := St.histR_true _ _ _ hlen.symm (fun j r x h1 h2 => hinv j r x (List.getElem?_eq_some_iff.1 h1).1 h1 h2)
      simp [-getElem?_pos, u8sP, St.cells, hlen, this]
  · have : s.isHist l = false := St.histR_len _ _ _ (fun e => hlen e.symm)
    have hne : ¬ (l.length : Int) = s.runs.length := by omega
    simp [-getElem?_pos, L35, St.pv, u8sP, hne, this]
end Go.Proofs.Ytpfogpkocdlloaa

/-! Contracts (stair): ProveHistory. -/
namespace Go.Proofs.Ytpfogpkocdlloaa
open Go.RowKit
attribute [local simp] Box.purge Site.isLoc

set_option maxRecDepth 10000
set_option linter.unusedSimpArgs false

theorem moves_v : CallsA Try.prog 61 (([] : List PV).map .pv) [] (fun r B => r = .vec (.ret 0) 1 0 3 ∧ B = [(.ret 0, .arr 108 1 movesL)]) := by
  refine (run_ok mixed fns_ok (n := 50) (f := 61) (r := .vec (.ret 0) 1 0 3) (B' := [(.ret 0, .arr 108 1 movesL)]) (by kernel_rfl)).mono ?_
  rintro r B ⟨rfl, rfl⟩
  exact ⟨rfl, rfl⟩
theorem Rn.okR_may {r : Rn} {v k : Int} (h : -1 ≤ r.level) : r.okR v k = (decide (k ≤ 2) && r.may v k) := by
  unfold Rn.okR Rn.may
  rw [show decide (r.level < 0) = decide (r.level = -1) by rw [Bool.eq_iff_iff]; simp; omega]
  cases decide (k ≤ 2) <;> cases (decide (r.level = -1) || decide (r.level = v)) <;> cases (decide (r.res = 3) || decide (r.res = k)) <;> rfl
def St.prove (s : St) (l : List Int) : Bool := decide (s.check = 0) && s.isHist l
set_option maxHeartbeats 8000000 in
theorem prove_c (s : St) (hl0 : s.runs.length ≤ 1000) (l : List Int) (hl : l.length ≤ 1000) (hb : ∀ x ∈ l, 0 ≤ x ∧ x ≤ 255) : Gives Try.prog 32 [s.pv, u8sP l] (.bool (s.prove l)) := by
  refine calls_of_awpS mixed L32_ok (Nat.le_of_ble_eq_true rfl) ?_
  simp [-getElem?_pos, L32, St.pv, u8sP]
  refine call_gives (k := 0) (fs := []) (xs := [s.pv]) (cs := []) rfl rfl (check_c s (by omega)) rfl ?_
  cases hc : decide (s.check = 0)
  · have hc' : ¬ s.check = 0 := by simpa using hc
    simp [-getElem?_pos, hc', St.prove]
  · have hc' : s.check = 0 := by simpa using hc
    obtain ⟨q1, q2, q3, q4⟩ := St.check0 hc'
    by_cases hlen : l.length = s.runs.length
    · simp [-getElem?_pos, hc', hlen, St.prove]
      refine awp_loopS (fun n τ => ∃ k : Nat, k ≤ s.runs.length ∧ n = s.runs.length - k ∧ (∀ (j : Nat) (r : Rn) (x : Int), j < k → s.runs[j]? = some r → l[j]? = some x → r.okR (s.levAt s.start (l.take j)) x = true) ∧
          τ = ⟨[(2, .ptr (.loc 2 0) 0), (5, .pv (.int .i64 (s.levAt s.start (l.take k)))), (21, .pv (u8sP l)), (22, .pv (.int .i64 s.runs.length)), (23, .pv (.int .i64 k))], [(.loc 2 0, .cells s.cells)]⟩)
        ⟨s.runs.length, _, Sub.mk (by simp [u8sP, St.levAt]) (by simp [St.cells]), 0, by omega, rfl, (fun j r x hj => by omega), rfl⟩ ?_
      rintro J hJ n τ ⟨k, hk, rfl, hinv, rfl⟩
      by_cases hlt : k < s.runs.length
      · have hx : s.runs[k]? = some s.runs[k] := List.getElem?_eq_getElem hlt
        have hmem : s.runs[k] ∈ s.runs := List.getElem_mem hlt
        generalize s.runs[k] = r at hx hmem
        have hrl : -1 ≤ r.level := by
          have := List.all_eq_true.1 q4 r hmem
          simp [St.isRun] at this; omega
        have hy : l[k]? = some (l[k]'(by omega)) := List.getElem?_eq_getElem _
        generalize l[k]'(by omega) = x at hy
        have hxb := hb x (List.mem_of_getElem? hy)
        have hlk : k < l.length := by omega
        have hw : IntKind.i64.wrap ((k : Int) + 1) = ((k + 1 : Nat) : Int) := by rw [wrap64 (by omega)]; omega
        have hgy : (l.map u8P)[k]? = some (.int .u8 x) := by rw [List.getElem?_map, hy]; rfl
        have hin := St.levAt_in (s := s) (by omega) (l.take k) s.start (by omega)
        obtain ⟨_, hnx⟩ := St.lev_take s s.start l k x hy
        have hbad : r.okR (s.levAt s.start (l.take k)) x = false → s.isHist l = false := fun h => St.histR_false _ _ _ k _ x hx hy h
        have hgood : r.okR (s.levAt s.start (l.take k)) x = true → J (s.runs.length - (k + 1)) ⟨[(2, .ptr (.loc 2 0) 0), (5, .pv (.int .i64 (s.next (s.levAt s.start (l.take k)) x))), (21, .pv (u8sP l)), (22, .pv (.int .i64 s.runs.length)), (23, .pv (.int .i64 (k + 1 : Nat)))], [(.loc 2 0, .cells s.cells)]⟩ := fun h =>
          hJ _ _ ⟨k + 1, hlt, rfl, fun j r y hj h1 h2 => by
            by_cases e : j = k
            · subst e; rw [hx] at h1; rw [hy] at h2; cases h1; cases h2; exact h
            · exact hinv j r y (by omega) h1 h2, by rw [hnx]⟩
        rw [Rn.okR_may hrl] at hbad hgood
        have hmay := may_c s k r hx (s.levAt s.start (l.take k)) x
        generalize s.levAt s.start (l.take k) = v at hbad hgood hmay hin hnx
        cases h1 : decide (x ≥ 3)
        · have h1' : x ≤ 2 := by simp at h1; omega
          have h1d : decide (x ≤ 2) = true := by simpa using h1'
          rw [h1d, Bool.true_and] at hbad hgood
          simp [-getElem?_pos, -List.getElem?_map, -decide_eq_true_eq, -decide_eq_false_iff_not, u8sP, St.cells, hlt, hlen, hgy, nblt, h1]
          refine call_gives (k := 1) (fs := []) (cs := []) (xs := [s.pv, .agg [.int .i64 k, .int .i64 v], .int .u8 x]) rfl rfl hmay rfl ?_
          cases hm : r.may v x
          · have := hbad hm
            simp [-getElem?_pos, this]
          · have hg := hgood hm
            simp [-getElem?_pos]
            refine call_vec [] (fs := []) (xs := []) (cs := []) rfl rfl moves_v ?_
            obtain ⟨g, j, hxj, hj, hgx, hgv⟩ : ∃ (g : FuncId) (j : Nat), x = (j : Int) ∧ j < 3 ∧ movesL[j]? = some (.agg [.fn g [] []]) ∧ Gives Try.prog g [s.pv, .int .i64 v] (.int .i64 (s.next v x)) := by
              have : x = 0 ∨ x = 1 ∨ x = 2 := by omega
              rcases this with rfl | rfl | rfl
              · exact ⟨_, 0, rfl, by omega, rfl, lower_c s v (by omega)⟩
              · exact ⟨_, 1, rfl, by omega, rfl, higher_c s v (by omega) (by omega)⟩
              · exact ⟨_, 2, rfl, by omega, rfl, stays_c s v⟩
            subst hxj
            simp [-getElem?_pos, frzsL, nblt, hj, hgx]
            refine call_gives (k := 1) (fs := []) (cs := []) (xs := [s.pv, .int .i64 v]) rfl rfl hgv rfl ?_
            simp [-getElem?_pos, hw]
            exact ⟨_, _, (by omega : s.runs.length - (k + 1) < s.runs.length - k), Sub.mk (by simp [u8sP]) (by simp [St.cells]), hg⟩
        · have h1' : ¬ x ≤ 2 := by simp at h1; omega
          have := hbad (by simp [h1'])
          simp [-getElem?_pos, -List.getElem?_map, -decide_eq_true_eq, -decide_eq_false_iff_not, u8sP, St.cells, hlt, hlen, hgy, nblt, h1, this]
      · have he : k = s.runs.length := by omega
        subst he
        have : s.isHist l = true := St.histR_true _ _ _ hlen.symm (fun j r x h1 h2 => hinv j r x (List.getElem?_eq_some_iff.1 h1).1 h1 h2)
        simp [-getElem?_pos, this]
    · have : s.isHist l = false := St.histR_len _ _ _ (fun e => hlen e.symm)
      have hne : ¬ (l.length : Int) = s.runs.length := by omega
      simp [-getElem?_pos, hc', hne, this, St.prove]
end Go.Proofs.Ytpfogpkocdlloaa

/-! Contracts of the reference (tensileref04): Histories. -/
namespace Go.Proofs.Ytpfogpkocdlloaa
open Go.RowKit
attribute [local simp] Box.purge Site.isLoc

set_option maxRecDepth 10000
set_option linter.unusedSimpArgs false

theorem CallsA.weakArgs {P : Program} {f : FuncId} {xs ys : List PV} {B : List (Site × Box)} {R : AV → List (Site × Box) → Prop} (h : CallsA P f (ys.map .pv) B R) (hl : xs.length = ys.length) (hw : ∀ (j : Nat) (x y : PV) (m : Mem) (v : Value), xs[j]? = some x → ys[j]? = some y → RdP m v x → RdP m v y) : CallsA P f (xs.map .pv) B R := by
  refine ⟨h.1, fun w m ρ vs h1 h2 h3 h4 => h.2 w m ρ vs h1 h2 (by simpa [hl] using h3) (fun j d c k1 k2 => ?_)⟩
  rw [List.getElem?_map] at k2
  obtain ⟨y, hy, rfl⟩ := Option.map_eq_some_iff.1 k2
  have hj : j < xs.length := by rw [hl]; exact (List.getElem?_eq_some_iff.1 hy).1
  have := h4 j d (.pv xs[j]) k1 (by rw [List.getElem?_map, List.getElem?_eq_getElem hj]; rfl)
  exact .pv _ _ (hw j _ _ _ _ (List.getElem?_eq_getElem hj) hy this.pv_inv)
theorem CallsA.weak2 {P : Program} {f : FuncId} {xs : List AV} {B : List (Site × Box)} {x' : PV} (h : CallsA P f xs B (fun r B => ∃ x, r = .pv x ∧ B = [] ∧ ∀ m v, RdP m v x → RdP m v x')) : CallsA P f xs B (fun r B => r = .pv x' ∧ B = []) := by
  refine ⟨h.1, fun w m ρ vs h1 h2 h3 h4 => (h.2 w m ρ vs h1 h2 h3 h4).mono fun e w' ⟨v, r, B', ρ', m', k1, ⟨x, k2, k3, hw⟩, k4, k5, k6, k7, k8, k9, k10, k11⟩ => ?_⟩
  subst k2 k3
  exact ⟨v, .pv x', [], ρ', m', k1, ⟨rfl, rfl⟩, k4, k5, k6, k7, k8, k9, .pv _ _ (hw _ _ k10.pv_inv), k11⟩
/-- The reference's histories that begin so. -/
def St.rh (s : St) : List Rn → List Int → List (List Int)
  | [], bg => if s.isHist bg = true then [bg] else []
  | r :: rest, bg => [0, 1, 2].flatMap fun k => if r.res = 3 ∨ r.res = k then s.rh rest (bg ++ [k]) else []
def St.rhK (s : St) (r : Rn) (rest : List Rn) (bg : List Int) (k : Int) : List (List Int) := if r.res = 3 ∨ r.res = k then s.rh rest (bg ++ [k]) else []
theorem lostN_cons (r : Rn) (rest : List Rn) : lostN (r :: rest) = lostN rest + (if r.res = 3 then 1 else 0) := by
  unfold lostN
  rw [List.countP_cons]
  simp
theorem St.rh_len (s : St) : ∀ (rest : List Rn) (bg : List Int), (s.rh rest bg).length ≤ 3 ^ lostN rest
  | [], bg => by
    unfold St.rh
    split <;> simp [lostN]
  | r :: rest, bg => by
    have h : ∀ k : Int, (s.rh rest (bg ++ [k])).length ≤ 3 ^ lostN rest := fun k => St.rh_len s rest _
    unfold St.rh
    simp only [List.flatMap_cons, List.flatMap_nil, List.append_nil, List.length_append]
    rw [lostN_cons]
    have h0 := h 0
    have h1 := h 1
    have h2 := h 2
    by_cases e : r.res = 3
    · simp only [e, true_or, if_true]
      rw [Nat.pow_succ]; omega
    · simp only [e, false_or, if_false, Nat.add_zero]
      by_cases e0 : r.res = 0
      · simp [e0]; exact h0
      · by_cases e1 : r.res = 1
        · simp [e1]; exact h1
        · by_cases e2 : r.res = 2
          · simp [e2]; exact h2
          · simp [e0, e1, e2]
/-- The head of the loop over the results. -/
def rhH (s : St) (bg : List Int) (k : Nat) : Option (List (List Int)) → AS
  | none => ⟨[(1, .pv (u8sP bg)), (2, .ptr (.loc 2 0) 0), (5, .pv (.emp (some true))), (6, .pv (.int .u8 k))], [(.loc 2 0, .cells s.cells)]⟩
  | some xs => ⟨[(1, .pv (u8sP bg)), (2, .ptr (.loc 2 0) 0), (5, .vec (.loc 46 0) 1 0 xs.length), (6, .pv (.int .u8 k))], [(.loc 46 0, .arr 41 1 (xs.map u8sP)), (.loc 2 0, .cells s.cells)]⟩
/-- .. when the list is made longer by a result. -/
def rhJ (s : St) (bg : List Int) (k : Nat) : Option (List (List Int)) → AS
  | none => ⟨[(1, .pv (u8sP bg)), (2, .ptr (.loc 2 0) 0), (6, .pv (.int .u8 k)), (37, .pv (.emp (some true))), (38, .pv s.pv), (44, .vec (.loc 44 0) 1 0 (bg.length + 1))],
      [(.loc 44 0, .arr 5 1 ((bg ++ [(k : Int)]).map u8P)), (.loc 2 0, .cells s.cells)]⟩
  | some xs => ⟨[(1, .pv (u8sP bg)), (2, .ptr (.loc 2 0) 0), (6, .pv (.int .u8 k)), (37, .vec (.loc 46 0) 1 0 xs.length), (38, .pv s.pv), (44, .vec (.loc 44 0) 1 0 (bg.length + 1))],
      [(.loc 44 0, .arr 5 1 ((bg ++ [(k : Int)]).map u8P)), (.loc 46 0, .arr 41 1 (xs.map u8sP)), (.loc 2 0, .cells s.cells)]⟩
attribute [local simp] retFz frzL AS.frz AV.frz AV.frzL Box.frz AS.tidy
set_option maxHeartbeats 16000000 in
theorem rhist_c (s : St) (hc : s.check = 0) : ∀ (n : Nat) (bg : List Int), bg.length + n = s.runs.length →
    CallsA Try.prog 21 ([s.pv, u8sP bg].map .pv) [] (fun r B => r = .pv (.lst false 1 ((s.rh (s.runs.drop bg.length) bg).map u8sP)) ∧ B = []) := by
  intro n
  obtain ⟨q1, q2, q3, q4⟩ := St.check0 hc
  induction n with
  | zero =>
    intro bg hbg
    have hlen : bg.length = s.runs.length := by omega
    have hd : s.runs.drop bg.length = [] := List.drop_of_length_le (by omega)
    have hih := isHist_c s hc bg (by omega)
    rw [hd]
    unfold St.rh
    cases hh : s.isHist bg
    · rw [hh] at hih
      have : CallsA Try.prog 21 ([s.pv, u8sP bg].map .pv) [] (fun r B => r = .pv (.emp (some true)) ∧ B = []) := by
        refine calls_of_awpS mixed L21_ok (Nat.le_of_ble_eq_true rfl) ?_
        simp [-getElem?_pos, L21, St.pv, u8sP, hlen]
        refine call_gives (k := 0) (fs := []) (cs := []) (xs := [s.pv, u8sP bg]) rfl rfl hih rfl ?_
        simp [-getElem?_pos]
      exact this.weak (fun m v h => by simpa using emp_lst h)
    · rw [hh] at hih
      refine calls_of_awpF [.loc 18 0] mixed L21_ok (Nat.le_of_ble_eq_true rfl) ?_
      simp [-getElem?_pos, L21, St.pv, u8sP, hlen]
      refine call_gives (k := 0) (fs := []) (cs := []) (xs := [s.pv, u8sP bg]) rfl rfl hih rfl ?_
      simp [-getElem?_pos]
  | succ n ih =>
    intro bg hbg
    have hlt : bg.length < s.runs.length := by omega
    have hne : ¬ (bg.length : Int) = s.runs.length := by omega
    have hx : s.runs[bg.length]? = some s.runs[bg.length] := List.getElem?_eq_getElem hlt
    have hd : s.runs.drop bg.length = s.runs[bg.length] :: s.runs.drop (bg.length + 1) := List.drop_eq_getElem_cons hlt
    generalize s.runs[bg.length] = r at hx hd
    obtain ⟨lv, rs⟩ := r
    have hgr : (s.runs.map Rn.pv)[bg.length]? = some (.agg [.int .i64 lv, .int .u8 rs]) := by rw [List.getElem?_map, hx]; rfl
    have hlost : lostN (s.runs.drop bg.length) ≤ 6 := by
      have h1 : lostN s.runs ≤ 6 := by
        unfold St.check at hc
        split at hc
        · cases hc
        · omega
      refine Nat.le_trans ?_ h1
      unfold lostN
      exact List.Sublist.countP_le (List.drop_sublist _ _)
    have htot : (s.rh (s.runs.drop bg.length) bg).length ≤ 729 := Nat.le_trans (St.rh_len s _ _) (Nat.le_trans (Nat.pow_le_pow_right (by omega) hlost) (by decide))
    rw [hd] at htot ⊢
    have hrh : s.rh (⟨lv, rs⟩ :: s.runs.drop (bg.length + 1)) bg = s.rhK ⟨lv, rs⟩ (s.runs.drop (bg.length + 1)) bg 0 ++ (s.rhK ⟨lv, rs⟩ (s.runs.drop (bg.length + 1)) bg 1 ++ s.rhK ⟨lv, rs⟩ (s.runs.drop (bg.length + 1)) bg 2) := by
      simp [St.rh, St.rhK]
    generalize hX : s.runs.drop (bg.length + 1) = X at *
    have hpart : ∀ k : Nat, k ≤ 3 → ((List.range k).flatMap fun (j : Nat) => s.rhK ⟨lv, rs⟩ X bg (j : Int)).length ≤ 729 := fun k hk => by
      refine Nat.le_trans ?_ htot
      rw [hrh]
      have : k = 0 ∨ k = 1 ∨ k = 2 ∨ k = 3 := by omega
      rcases this with rfl | rfl | rfl | rfl <;> simp [List.range_succ] <;> omega
    refine CallsA.weak2 ?_
    refine calls_of_awpF [.loc 46 0] mixed L21_ok (Nat.le_of_ble_eq_true rfl) ?_
    generalize hR : (fun (r : AV) (B : List (Site × Box)) => ∃ x, r = .pv x ∧ B = [] ∧ ∀ m v, RdP m v x → RdP m v (.lst false 1 ((s.rh (⟨lv, rs⟩ :: X) bg).map u8sP))) = R
    simp [-getElem?_pos, L21, St.pv, u8sP, hne]
    refine awp_loopS (fun n τ => ∃ (k : Nat) (acc : Option (List (List Int))), k ≤ 3 ∧ n = 3 - k ∧ acc.getD [] = (List.range k).flatMap (fun (j : Nat) => s.rhK ⟨lv, rs⟩ X bg (j : Int)) ∧ τ = rhH s bg k acc)
      ⟨3, _, Sub.mk (by simp [u8sP]) (by simp [St.cells]), 0, none, by omega, rfl, rfl, rfl⟩ ?_
    rintro J hJ n' τ ⟨k, acc, hk, rfl, hacc, rfl⟩
    by_cases hk3 : k < 3
    · have hk3' : decide ((k : Int) < 3) = true := by simp; omega
      have hw8 : IntKind.u8.wrap ((k : Int) + 1) = ((k + 1 : Nat) : Int) := by
        have : k = 0 ∨ k = 1 ∨ k = 2 := by omega
        rcases this with rfl | rfl | rfl <;> decide
      have hnext : (List.range (k + 1)).flatMap (fun (j : Nat) => s.rhK ⟨lv, rs⟩ X bg (j : Int)) = (List.range k).flatMap (fun (j : Nat) => s.rhK ⟨lv, rs⟩ X bg (j : Int)) ++ s.rhK ⟨lv, rs⟩ X bg (k : Int) := by
        rw [List.range_succ, List.flatMap_append, List.flatMap_cons, List.flatMap_nil, List.append_nil]
      have hcall := ih (bg ++ [(k : Int)]) (by simp; omega)
      rw [List.length_append, List.length_singleton, hX] at hcall
      have hround : ∀ acc', acc'.getD [] = (List.range (k + 1)).flatMap (fun (j : Nat) => s.rhK ⟨lv, rs⟩ X bg (j : Int)) → J (3 - (k + 1)) (rhH s bg (k + 1) acc') := fun acc' h => hJ _ _ ⟨k + 1, acc', hk3, rfl, h, rfl⟩
      by_cases hgo : rs = 3 ∨ rs = k
      · have hKe : s.rhK ⟨lv, rs⟩ X bg (k : Int) = s.rh X (bg ++ [(k : Int)]) := by unfold St.rhK; rw [if_pos hgo]
        have hres := hpart (k + 1) hk3
        rw [hnext, hKe, ← hacc, List.length_append] at hres
        rw [hnext, hKe, ← hacc] at hround
        have hbl : bg.length + 1 ≤ 1000000 := by omega
        have hbl2 : bg.length ≤ 1000000 := by omega
        generalize s.rh X (bg ++ [(k : Int)]) = ys at hcall hres hround
        have htk : List.take (bg.length + 1) (List.map u8P bg ++ [u8P (k : Int)]) = List.map u8P bg ++ [u8P (k : Int)] := List.take_of_length_le (by simp)
        cases acc with
        | none =>
          simp at hres
          have hr6 : ys.length ≤ 1000000 := by omega
          by_cases h3 : rs = 3
          · simp [-getElem?_pos, -List.getElem?_map, -decide_eq_true_eq, -decide_eq_false_iff_not, rhH, u8sP, St.cells, hk3', hgr, hlt, nblt, h3]
            refine ltS_seq (rhJ s bg k none) ?_ ?_
            · simp [-getElem?_pos, ltS_alt, ltS_no, nble, hbl, hbl2]
              repeat' (with_reducible refine And.intro ?_ ?_)
              all_goals
                refine Sub.mk ?_ ?_
                · simp [rhJ, u8sP, St.pv]
                · simp [rhJ, u8P, St.cells]
            · simp [-getElem?_pos, ltS_alt, ltS_no, rhJ]
              refine .inl (call_pv [.loc 44 0] (fs := []) (xs := [s.pv, u8sP (bg ++ [(k : Int)])]) (cs := []) rfl ?_ hcall ?_)
              · simp [frzsL, u8sP, htk]
              simp [-getElem?_pos, ltS_alt, ltS_no, frzsL, nble, hr6, hw8]
              refine ⟨_, rhH s bg (k + 1) (some ys), (by omega : 3 - (k + 1) < 3 - k), Sub.mk ?_ ?_, hround (some ys) rfl⟩
              · simp [rhH, u8sP]
              · simp [rhH, St.cells]

          · have h3k : rs = (k : Int) := hgo.resolve_left h3
            subst h3k
            simp [-getElem?_pos, -List.getElem?_map, -decide_eq_true_eq, -decide_eq_false_iff_not, rhH, u8sP, St.cells, hk3', hgr, hlt, nblt, h3]
            refine ltS_seq (rhJ s bg k none) ?_ ?_
            · simp [-getElem?_pos, ltS_alt, ltS_no, nble, hbl, hbl2]
              repeat' (with_reducible refine And.intro ?_ ?_)
              all_goals
                refine Sub.mk ?_ ?_
                · simp [rhJ, u8sP, St.pv]
                · simp [rhJ, u8P, St.cells]
            · simp [-getElem?_pos, ltS_alt, ltS_no, rhJ]
              refine .inl (call_pv [.loc 44 0] (fs := []) (xs := [s.pv, u8sP (bg ++ [(k : Int)])]) (cs := []) rfl ?_ hcall ?_)
              · simp [frzsL, u8sP, htk]
              simp [-getElem?_pos, ltS_alt, ltS_no, frzsL, nble, hr6, hw8]
              refine ⟨_, rhH s bg (k + 1) (some ys), (by omega : 3 - (k + 1) < 3 - k), Sub.mk ?_ ?_, hround (some ys) rfl⟩
              · simp [rhH, u8sP]
              · simp [rhH, St.cells]

        | some xs =>
          simp at hres
          have hr6 : xs.length + ys.length ≤ 1000000 := by omega
          by_cases h3 : rs = 3
          · simp [-getElem?_pos, -List.getElem?_map, -decide_eq_true_eq, -decide_eq_false_iff_not, rhH, u8sP, St.cells, hk3', hgr, hlt, nblt, h3]
            refine ltS_seq (rhJ s bg k (some xs)) ?_ ?_
            · simp [-getElem?_pos, ltS_alt, ltS_no, nble, hbl, hbl2]
              repeat' (with_reducible refine And.intro ?_ ?_)
              all_goals
                refine Sub.mk ?_ ?_
                · simp [rhJ, u8sP, St.pv]
                · simp [rhJ, u8P, St.cells]
            · simp [-getElem?_pos, ltS_alt, ltS_no, rhJ]
              refine .inl (call_pv [.loc 44 0] (fs := []) (xs := [s.pv, u8sP (bg ++ [(k : Int)])]) (cs := []) rfl ?_ hcall ?_)
              · simp [frzsL, u8sP, htk]
              simp [-getElem?_pos, ltS_alt, ltS_no, frzsL, nble, hr6, hw8]
              refine ⟨_, rhH s bg (k + 1) (some (xs ++ ys)), (by omega : 3 - (k + 1) < 3 - k), Sub.mk ?_ ?_, hround (some (xs ++ ys)) rfl⟩
              · simp [rhH, u8sP]
              · simp [rhH, St.cells]

          · have h3k : rs = (k : Int) := hgo.resolve_left h3
            subst h3k
            simp [-getElem?_pos, -List.getElem?_map, -decide_eq_true_eq, -decide_eq_false_iff_not, rhH, u8sP, St.cells, hk3', hgr, hlt, nblt, h3]
            refine ltS_seq (rhJ s bg k (some xs)) ?_ ?_
            · simp [-getElem?_pos, ltS_alt, ltS_no, nble, hbl, hbl2]
              repeat' (with_reducible refine And.intro ?_ ?_)
              all_goals
                refine Sub.mk ?_ ?_
                · simp [rhJ, u8sP, St.pv]
                · simp [rhJ, u8P, St.cells]
            · simp [-getElem?_pos, ltS_alt, ltS_no, rhJ]
              refine .inl (call_pv [.loc 44 0] (fs := []) (xs := [s.pv, u8sP (bg ++ [(k : Int)])]) (cs := []) rfl ?_ hcall ?_)
              · simp [frzsL, u8sP, htk]
              simp [-getElem?_pos, ltS_alt, ltS_no, frzsL, nble, hr6, hw8]
              refine ⟨_, rhH s bg (k + 1) (some (xs ++ ys)), (by omega : 3 - (k + 1) < 3 - k), Sub.mk ?_ ?_, hround (some (xs ++ ys)) rfl⟩
              · simp [rhH, u8sP]
              · simp [rhH, St.cells]

      · have hKe : s.rhK ⟨lv, rs⟩ X bg (k : Int) = [] := by unfold St.rhK; rw [if_neg hgo]
        rw [hnext, hKe, List.append_nil, ← hacc] at hround
        have h3 : ¬ rs = 3 := fun e => hgo (.inl e)
        have h3k : ¬ rs = (k : Int) := fun e => hgo (.inr e)
        cases acc with
        | none =>
          simp [-getElem?_pos, -List.getElem?_map, -decide_eq_true_eq, -decide_eq_false_iff_not, rhH, u8sP, St.cells, hk3', hgr, hlt, nblt, h3, h3k, hw8]
          refine ⟨_, rhH s bg (k + 1) none, (by omega : 3 - (k + 1) < 3 - k), Sub.mk ?_ ?_, hround none rfl⟩
          · simp [rhH, u8sP]
          · simp [rhH, St.cells]
        | some xs =>
          simp [-getElem?_pos, -List.getElem?_map, -decide_eq_true_eq, -decide_eq_false_iff_not, rhH, u8sP, St.cells, hk3', hgr, hlt, nblt, h3, h3k, hw8]
          refine ⟨_, rhH s bg (k + 1) (some xs), (by omega : 3 - (k + 1) < 3 - k), Sub.mk ?_ ?_, hround (some xs) rfl⟩
          · simp [rhH, u8sP]
          · simp [rhH, St.cells]
    · have he : k = 3 := by omega
      subst he
      have hall : (List.range 3).flatMap (fun (j : Nat) => s.rhK ⟨lv, rs⟩ X bg (j : Int)) = s.rh (⟨lv, rs⟩ :: X) bg := by rw [hrh]; simp [List.range_succ]
      rw [hall] at hacc
      cases acc with
      | none =>
        simp [-getElem?_pos, rhH]
        rw [← hR]
        exact ⟨_, rfl, rfl, fun m v h => by rw [← hacc]; exact emp_lst h⟩
      | some xs =>
        simp at hacc
        have htk : List.take xs.length (xs.map u8sP) = xs.map u8sP := List.take_of_length_le (by simp)
        simp [-getElem?_pos, rhH, htk]
        rw [← hR]
        exact ⟨_, rfl, rfl, fun m v h => by rw [← hacc]; exact h⟩
end Go.Proofs.Ytpfogpkocdlloaa

/-! The histories of the reference are those of the program (plain); contracts of layer 4's statements (stair): asked, bytes. -/
namespace Go.Proofs.Ytpfogpkocdlloaa
open Go.RowKit
attribute [local simp] Box.purge Site.isLoc

set_option maxRecDepth 10000
set_option linter.unusedSimpArgs false

/-- Results that agree with the known ones. -/
def seqs : List Rn → List (List Int)
  | [] => [[]]
  | r :: rest => [0, 1, 2].flatMap fun k => if r.res = 3 ∨ r.res = k then (seqs rest).map (k :: ·) else []
theorem St.rh_seqs (s : St) : ∀ (rest : List Rn) (bg : List Int), s.rh rest bg = ((seqs rest).map (bg ++ ·)).filter s.isHist
  | [], bg => by
    simp only [St.rh, seqs, List.map_cons, List.map_nil, List.append_nil, List.filter_cons, List.filter_nil]
  | r :: rest, bg => by
    have h : ∀ k : Int, (if r.res = 3 ∨ r.res = k then s.rh rest (bg ++ [k]) else []) = ((if r.res = 3 ∨ r.res = k then (seqs rest).map (k :: ·) else []).map (bg ++ ·)).filter s.isHist := fun k => by
      split
      · rw [St.rh_seqs s rest (bg ++ [k]), List.map_map]
        congr 1
        apply List.map_congr_left
        intro x _
        simp
      · rfl
    simp only [St.rh, seqs, List.flatMap_cons, List.flatMap_nil, List.append_nil, List.map_append, List.filter_append, h]
theorem St.seqs_paths (s : St) : ∀ (rest : List Rn) (v : Int), (∀ r ∈ rest, -1 ≤ r.level) → (seqs rest).filter (s.histR rest v) = (s.paths rest v).map (·.1)
  | [], v, _ => rfl
  | r :: rest, v, hr => by
    have h : ∀ k : Int, k ≤ 2 → (if r.res = 3 ∨ r.res = k then (seqs rest).map (k :: ·) else []).filter (s.histR (r :: rest) v) = (if r.may v k = true then (s.paths rest (s.next v k)).map (fun p => (k :: p.1, v :: p.2)) else []).map (·.1) := fun k hk => by
      have ih := St.seqs_paths s rest (s.next v k) (fun x hx => hr x (by simp [hx]))
      have hok := Rn.okR_may (v := v) (k := k) (hr r (by simp))
      have hk' : decide (k ≤ 2) = true := by simpa using hk
      rw [hk', Bool.true_and] at hok
      have e : ∀ l : List (List Int), (l.map (k :: ·)).filter (s.histR (r :: rest) v) = if r.may v k = true then (l.filter (s.histR rest (s.next v k))).map (k :: ·) else [] := fun l => by
        induction l with
        | nil => split <;> rfl
        | cons x l ih =>
          rw [List.map_cons, List.filter_cons, List.filter_cons, ih]
          simp only [St.histR, hok]
          cases r.may v k
          · simp
          · simp only [Bool.true_and, if_true]
            split <;> simp
      by_cases hm : r.may v k = true
      · have hgo : r.res = 3 ∨ r.res = k := by
          unfold Rn.may at hm
          simp at hm
          exact hm.2
        rw [if_pos hgo, e, if_pos hm, if_pos hm, ih, List.map_map, List.map_map]
        rfl
      · rw [if_neg hm]
        split
        · rw [e, if_neg hm]; rfl
        · rfl
    simp only [seqs, St.paths, List.flatMap_cons, List.flatMap_nil, List.append_nil, List.filter_append, List.map_append, h 0 (by omega), h 1 (by omega), h 2 (by omega)]
theorem St.isRun_level {s : St} (hc : s.check = 0) : ∀ r ∈ s.runs, -1 ≤ r.level := fun r hr => by
  obtain ⟨_, _, _, q4⟩ := St.check0 hc
  have := List.all_eq_true.1 q4 r hr
  simp [St.isRun] at this
  omega
theorem St.rh_all {s : St} (hc : s.check = 0) : s.rh s.runs [] = s.all.map (·.1) := by
  rw [St.rh_seqs]
  have : (seqs s.runs).map ([] ++ ·) = seqs s.runs := by simp
  rw [this]
  exact St.seqs_paths s s.runs s.start (St.isRun_level hc)
theorem St.possible_all {s : St} (hc : s.check = 0) : s.possible = if s.all = [] then 9 else 0 := by
  unfold St.possible
  rw [if_pos hc, St.items_all]
  by_cases h : s.all = []
  · rw [h]; rfl
  · rw [if_neg h, if_neg]
    intro e
    exact h (List.map_eq_nil_iff.1 e)
attribute [local simp] retFz frzL AS.frz AV.frz AV.frzL Box.frz AS.tidy
theorem bytes_c (l : List Int) (hl : l.length ≤ 1000000) : CallsA Try.prog 33 ([u8sP l].map .pv) [] (fun r B => r = .pv (u8sP l) ∧ B = []) := by
  refine calls_of_awpF [.loc 4 0] mixed L33_ok (Nat.le_of_ble_eq_true rfl) ?_
  have htk : List.take l.length (l.map u8P) = l.map u8P := List.take_of_length_le (by simp)
  simp [-getElem?_pos, L33, u8sP, nble, hl, htk]
theorem rhist_nil (s : St) (hc : s.check = 0) : CallsA Try.prog 21 ([s.pv, .emp (some true)].map .pv) [] (fun r B => r = .pv (.lst false 1 ((s.all.map (·.1)).map u8sP)) ∧ B = []) := by
  have h := rhist_c s hc s.runs.length [] (by simp)
  rw [List.length_nil, List.drop_zero, St.rh_all hc] at h
  refine h.weakArgs rfl (fun j x y m v h1 h2 hr => ?_)
  match j with
  | 0 => simp at h1 h2; subst h1 h2; exact hr
  | 1 => simp at h1 h2; subst h1 h2; exact emp_lst hr
  | j + 2 => simp at h1
theorem askedL_c (s : St) (hl : s.runs.length ≤ 1000) : Gives Try.prog 20 [s.pv] (.int .i64 s.possible) := by
  refine calls_of_awpS mixed L20_ok (Nat.le_of_ble_eq_true rfl) ?_
  simp [-getElem?_pos, L20, St.pv]
  refine call_gives (k := 0) (fs := []) (xs := [s.pv]) (cs := []) rfl rfl (fault_c s (by omega)) rfl ?_
  cases hc : decide (s.check = 0)
  · have hc' : ¬ s.check = 0 := by simpa using hc
    simp [-getElem?_pos, hc', St.possible]
  · have hc' : s.check = 0 := by simpa using hc
    simp [-getElem?_pos, hc']
    refine .inl (call_pv [] (fs := []) (xs := [s.pv, .emp (some true)]) (cs := []) rfl rfl (rhist_nil s hc') ?_)
    have hp := St.possible_all hc'
    by_cases ha : s.all = []
    · rw [if_pos ha] at hp
      simp [-getElem?_pos, frzsL, ha, hp]
    · rw [if_neg ha] at hp
      have : ¬ (s.all.length : Int) = 0 := by have := List.length_pos_iff.2 ha; omega
      simp [-getElem?_pos, frzsL, ha, hp, this]
end Go.Proofs.Ytpfogpkocdlloaa

/-! The arguments of layer 4's statements (stair), read as plain values. -/
namespace Go.Proofs.Ytpfogpkocdlloaa
open Go.RowKit Go.ChangeShapes Go.WideShapes Go.Deep

set_option maxRecDepth 100000
theorem kr64 {n : Int} (h : IntKind.i64.min ≤ n ∧ n ≤ IntKind.i64.max) : -9223372036854775808 ≤ n ∧ n ≤ 9223372036854775807 := by
  have e1 : IntKind.i64.min = -9223372036854775808 := by decide
  have e2 : IntKind.i64.max = 9223372036854775807 := by decide
  rw [e1, e2] at h; exact h
theorem kr8 {n : Int} (h : IntKind.u8.min ≤ n ∧ n ≤ IntKind.u8.max) : 0 ≤ n ∧ n ≤ 255 := by
  have e1 : IntKind.u8.min = 0 := by decide
  have e2 : IntKind.u8.max = 255 := by decide
  rw [e1, e2] at h; exact h
theorem spot_of_ok {P : Program} {w : World} {r : Reach} {base : Nat} {t e : TypeId} {v : Value} (ht : P.underlying t = some (.slice e)) (h : Cell.okWide P w r base t v) : ∀ a len cap, v = .slice (some a) len cap → a.spot = none := by
  intro a len cap hv
  subst hv
  unfold Cell.okWide at h
  rw [ht] at h
  simp only at h
  unfold Cell.ok at h
  rw [ht] at h
  exact h.2.2.2.1
theorem spot_of_val {P : Program} {w : World} {r : Reach} {base : Nat} {t e : TypeId} {v : Value} (ht : P.underlying t = some (.slice e)) (h : Value.okWide P w r base t v) : ∀ a len cap, v = .slice (some a) len cap → a.spot = none := by
  unfold Value.okWide at h
  rw [ht] at h
  exact spot_of_ok ht h
theorem okWide_struct {P : Program} {w : World} {r : Reach} {base : Nat} {t : TypeId} {fs : Array Field} {v : Value} (ht : P.underlying t = some (.struct fs)) (h : Value.okWide P w r base t v) : ∃ cs, v = .agg cs ∧ cs.size = P.cellsOf t ∧ Row.okWide P w r base t cs := by
  unfold Value.okWide at h
  rw [ht] at h
  exact h
theorem okWide_slice {P : Program} {w : World} {r : Reach} {base : Nat} {t e : TypeId} {v : Value} (ht : P.underlying t = some (.slice e)) (h : Value.okWide P w r base t v) : v.cells.toList = [v] := by
  unfold Value.okWide at h
  rw [ht] at h
  cases v <;> first | rfl | (unfold Cell.okWide at h; rw [ht] at h; unfold Cell.ok at h; rw [ht] at h; exact h.elim)
section
variable {H : Type} {enc : TypeId × Value → H} {W : World} {sp : Nat → Bool} {held : Bool} {r : Reach} {base : Nat}
theorem t24 : Try.prog.cellTypes Try.prog.depth 24 = some [3, 3, 22] := by kernel_rfl
theorem c24 : Try.prog.cellsOf 24 = 3 := by kernel_rfl
theorem c43 : Try.prog.cellsOf 43 = 2 := by kernel_rfl
theorem c3 : Try.prog.cellsOf 3 = 1 := by kernel_rfl
theorem c4 : Try.prog.cellsOf 4 = 1 := by kernel_rfl
theorem c5 : Try.prog.cellsOf 5 = 1 := by kernel_rfl
theorem c22 : Try.prog.cellsOf 22 = 1 := by kernel_rfl
/-- What an argument holds fits its kinds. -/
structure St.wf (s : St) : Prop where
  lv : -9223372036854775808 ≤ s.levels ∧ s.levels ≤ 9223372036854775807
  st : -9223372036854775808 ≤ s.start ∧ s.start ≤ 9223372036854775807
  rl : ∀ q ∈ s.runs, (-9223372036854775808 ≤ q.level ∧ q.level ≤ 9223372036854775807) ∧ 0 ≤ q.res ∧ q.res ≤ 255
theorem rd_run {fuel : Nat} {cs : List Value} {y : DataW H × List MemPlace} (h : DataW.trod enc Try.prog W 0 sp held fuel 43 cs = some y) (hl : cs.length = 2) :
    ∃ q : Rn, ((-9223372036854775808 ≤ q.level ∧ q.level ≤ 9223372036854775807) ∧ 0 ≤ q.res ∧ q.res ≤ 255) ∧ CellsP W.mem 2 cs q.pv := by
  match cs, hl with
  | [a, b], _ =>
  obtain ⟨xs, n, _, _, _, hxl, hf⟩ := DataW.trod_struct Try.underlying43 h
  have hxl' : xs.length = 2 := hxl
  have h0 : DataW.trod enc Try.prog W 0 sp held n 3 (([a, b].drop 0).take (Try.prog.cellsOf 3)) = xs[0]? := hf 0 _ rfl
  have h1 : DataW.trod enc Try.prog W 0 sp held n 5 (([a, b].drop 1).take (Try.prog.cellsOf 5)) = xs[1]? := hf 1 _ rfl
  rw [c3, List.getElem?_eq_getElem (by omega)] at h0
  rw [c5, List.getElem?_eq_getElem (by omega)] at h1
  obtain ⟨m, e0, g0, r0⟩ := rd_int Try.underlying3 h0
  obtain ⟨k, e1, g1, r1⟩ := rd_int Try.underlying5 h1
  simp at e0 e1
  subst e0 e1
  refine ⟨⟨m, k⟩, ⟨kr64 g0, kr8 g1⟩, rfl, rfl, ?_, ?_⟩
  · intro d hd
    simp at hd
    rcases hd with rfl | rfl <;> rfl
  · intro j d c k1 k2
    match j with
    | 0 => simp [Rn.pv, PV.cells] at k1 k2; subst k1 k2; exact .int .i64 m
    | 1 => simp [Rn.pv, PV.cells] at k1 k2; subst k1 k2; exact .int .u8 k
    | j + 2 => simp at k1
theorem rd_stairs {v : Value} {fuel : Nat} {x : DataW H × List MemPlace} (hok : Value.okWide Try.prog W r base 24 v) (h : DataW.trod enc Try.prog W 0 sp held fuel 24 v.cells.toList = some x) :
    ∃ s : St, s.wf ∧ s.runs.length ≤ 9223372036854775807 ∧ RdP W.mem v s.pv := by
  obtain ⟨cs, rfl, hsz, ts, hts, _, hrow⟩ := okWide_struct Try.underlying24 hok
  rw [t24] at hts
  cases hts
  rw [c24] at hsz
  obtain ⟨l⟩ := cs
  match l, hsz with
  | [a, b, c], _ =>
  obtain ⟨xs, n, _, _, _, hxl, hf⟩ := DataW.trod_struct Try.underlying24 h
  have hxl' : xs.length = 3 := hxl
  have h0 : DataW.trod enc Try.prog W 0 sp held n 3 (([a, b, c].drop 0).take (Try.prog.cellsOf 3)) = xs[0]? := hf 0 _ rfl
  have h1 : DataW.trod enc Try.prog W 0 sp held n 3 (([a, b, c].drop 1).take (Try.prog.cellsOf 3)) = xs[1]? := hf 1 _ rfl
  have h2 : DataW.trod enc Try.prog W 0 sp held n 22 (([a, b, c].drop 2).take (Try.prog.cellsOf 22)) = xs[2]? := hf 2 _ rfl
  rw [c3, List.getElem?_eq_getElem (by omega)] at h0 h1
  rw [c22, List.getElem?_eq_getElem (by omega)] at h2
  obtain ⟨m, e0, g0, r0⟩ := rd_int Try.underlying3 h0
  obtain ⟨k, e1, g1, r1⟩ := rd_int Try.underlying3 h1
  simp at e0 e1
  subst e0 e1
  have h2' : DataW.trod enc Try.prog W 0 sp held n 22 [c] = some xs[2] := h2
  obtain ⟨u, hu, hcell⟩ := hrow 2 c rfl
  have hu' : u = 22 := by simpa using hu.symm
  subst hu'
  obtain ⟨q, hq, hql, hrd⟩ := rd_slice Rn.pv (fun q => (-9223372036854775808 ≤ q.level ∧ q.level ≤ 9223372036854775807) ∧ 0 ≤ q.res ∧ q.res ≤ 255) Try.underlying22 c43 h2' (spot_of_ok Try.underlying22 hcell) (fun k cs y hy hl => rd_run hy hl)
  refine ⟨⟨m, k, q⟩, ⟨kr64 g0, kr64 g1, hq⟩, hql, ?_⟩
  refine .agg _ _ rfl ?_ ?_
  · intro d hd
    simp at hd
    rcases hd with rfl | rfl | rfl
    · rfl
    · rfl
    · cases hrd <;> rfl
  · intro j d e k1 k2
    match j with
    | 0 => simp at k1 k2; subst k1 k2; exact .int .i64 m
    | 1 => simp at k1 k2; subst k1 k2; exact .int .i64 k
    | 2 => simp at k1 k2; subst k1 k2; exact hrd
    | j + 3 => simp at k1
theorem rd_u8s {v : Value} {fuel : Nat} {x : DataW H × List MemPlace} (hok : Value.okWide Try.prog W r base 41 v) (h : DataW.trod enc Try.prog W 0 sp held fuel 41 v.cells.toList = some x) :
    ∃ l : List Int, (∀ y ∈ l, 0 ≤ y ∧ y ≤ 255) ∧ l.length ≤ 9223372036854775807 ∧ RdP W.mem v (.lst false 1 (l.map (PV.int .u8))) := by
  have hone := okWide_slice Try.underlying41 hok
  rw [hone] at h
  exact rd_slice (PV.int .u8) (fun y => 0 ≤ y ∧ y ≤ 255) Try.underlying41 c5 h (spot_of_val Try.underlying41 hok) (fun k cs y hy hl => by
    obtain ⟨m, _, g, hr⟩ := rd_int Try.underlying5 hy
    exact ⟨m, kr8 g, hr⟩)
end
end Go.Proofs.Ytpfogpkocdlloaa

/-! Facts of the program that every statement asks. -/
namespace Go.Proofs.Ytpfogpkocdlloaa
open Go.RowKit

theorem own : ownKnob Try.prog.godebug = none := by kernel_rfl
theorem laidP : laidOutB Try.prog = true := by kernel_rfl
theorem rowedP : mapsRowed Try.prog = true := by kernel_rfl
theorem fullP : ((List.range Try.prog.types.size).all fun t => match Try.prog.underlying t with | some (.slice e) => decide (0 < Try.prog.cellsOf e) | _ => true) = true := by kernel_rfl
end Go.Proofs.Ytpfogpkocdlloaa
