/- Contracts (stair): lists of integers; specimens that are shaken. (Several texts in one.) -/
import Derived.Test.YtaffbiibcfeigaaGreatStC
set_option linter.unusedVariables false
set_option linter.unusedSimpArgs false
/-! Contracts (stair): lists of integers; specimens that are shaken. -/
namespace Go.Proofs.YtaffbiibcfeigaaGreat
open Go.RowKit
attribute [local simp] Box.purge Site.isLoc
set_option maxRecDepth 10000
set_option linter.unusedSimpArgs false
theorem indexInt_c (l : List PV) (g : FuncId) (fs cs : List PV) (q : PV → Bool) (hq : ∀ x ∈ l, Gives Tryz.prog g (fs ++ [x] ++ cs) (.bool (q x))) (hl : l.length ≤ 1000000) (hc : ∀ x ∈ l, ∃ n, x = .int .i64 n) :
    Gives Tryz.prog 233 [.lst false 1 l, .fn g fs cs] (.int .i64 (match l.findIdx? q with | some i => i | none => -1)) := by
  refine calls_of_awpS mixed L233_ok (Nat.le_of_ble_eq_true rfl) ?_
  simp [L233]
  refine awp_loopS (fun n τ => ∃ k : Nat, k ≤ l.length ∧ n = l.length - k ∧ (∀ j x, j < k → l[j]? = some x → q x = false) ∧ τ = ⟨[(0, .pv (.lst false 1 l)), (1, .pv (.fn g fs cs)), (7, .pv (.int .i64 l.length)), (8, .pv (.int .i64 k))], []⟩)
    ⟨l.length, _, Sub.mk (by simp) (by simp), 0, by omega, rfl, (fun j x hj => by omega), rfl⟩ ?_
  rintro J hJ n τ ⟨k, hk, rfl, hinv, rfl⟩
  by_cases hlt : k < l.length
  · have hx : l[k]? = some l[k] := List.getElem?_eq_getElem hlt
    have hm := List.getElem_mem hlt
    generalize l[k] = x at hx hm
    obtain ⟨z, rfl⟩ := hc x hm
    have hg := hq _ hm
    have hw : IntKind.i64.wrap ((k : Int) + 1) = ((k + 1 : Nat) : Int) := by rw [wrap64 (by omega)]; omega
    simp [-getElem?_pos, hlt, hx, nblt]
    refine call_gives (k := 0) rfl rfl hg rfl ?_
    cases hb : q (PV.int .i64 z)
    · simp [hw]
      exact ⟨_, _, (by omega : l.length - (k + 1) < l.length - k), Sub.mk (by simp) (by simp), hJ _ _ ⟨k + 1, by omega, rfl, fun j x hj hjx => by
        rcases Nat.lt_succ_iff_lt_or_eq.1 hj with h | h
        · exact hinv j x h hjx
        · subst h; rw [hx] at hjx; cases hjx; exact hb, rfl⟩⟩
    · simp [find_at hx hb hinv]
  · have he : k = l.length := by omega
    subst he
    simp [find_none hinv]
theorem anyInt_c (l : List PV) (g : FuncId) (fs cs : List PV) (q : PV → Bool) (hq : ∀ x ∈ l, Gives Tryz.prog g (fs ++ [x] ++ cs) (.bool (q x))) (hl : l.length ≤ 1000000) (hc : ∀ x ∈ l, ∃ n, x = .int .i64 n) :
    Gives Tryz.prog 185 [.lst false 1 l, .fn g fs cs] (.bool (l.any q)) := by
  refine calls_of_awpS mixed L185_ok (Nat.le_of_ble_eq_true rfl) ?_
  simp [L185]
  refine call_gives (k := 0) rfl rfl (indexInt_c l g fs cs q hq hl hc) rfl ?_
  cases hf : l.findIdx? q with
  | none =>
    have : l.any q = false := by rw [List.any_eq_false]; intro x hx; simpa using List.findIdx?_eq_none_iff.1 hf x hx
    simp [this]
  | some i =>
    have : l.any q = true := by
      obtain ⟨hi, h1, _⟩ := List.findIdx?_eq_some_iff_getElem.1 hf
      exact List.any_eq_true.2 ⟨_, List.getElem_mem hi, h1⟩
    simp [this]
theorem allInt1_c (x : PV) (g : FuncId) (fs cs : List PV) (b : Bool) (hx : ∃ n, x = .int .i64 n) (hq : Gives Tryz.prog g (fs ++ [x] ++ cs) (.bool b)) :
    Gives Tryz.prog 186 [x, .ref [.fn g fs cs]] (.bool (!b)) := by
  obtain ⟨z, rfl⟩ := hx
  refine calls_of_awpS mixed L186_ok (Nat.le_of_ble_eq_true rfl) ?_
  simp [L186]
  refine call_gives (k := 0) rfl rfl hq rfl ?_
  simp
theorem allInt_c (l : List PV) (g : FuncId) (fs cs : List PV) (q : PV → Bool) (hq : ∀ x ∈ l, Gives Tryz.prog g (fs ++ [x] ++ cs) (.bool (q x))) (hl : l.length ≤ 1000000) (hc : ∀ x ∈ l, ∃ n, x = .int .i64 n) :
    Gives Tryz.prog 127 [.lst false 1 l, .fn g fs cs] (.bool (l.all q)) := by
  refine calls_of_awpS mixed L127_ok (Nat.le_of_ble_eq_true rfl) ?_
  simp [L127]
  refine call_gives (k := 4) rfl rfl (anyInt_c l 186 [] [.ref [.fn g fs cs]] (fun x => !q x) (fun x hx => allInt1_c x g fs cs (q x) (hc x hx) (hq x hx)) hl hc) rfl ?_
  simp [List.not_any_eq_all_not]
def boolsP (l : List Bool) : PV := .lst false 1 (l.map PV.bool)
attribute [local simp] retFz frzL AS.frz AV.frz AV.frzL Box.frz AS.tidy
/-- The error of specimens that are to be shaken. -/
def shErr (levels start : Int) (lims : List Int) (stops : List Bool) : Int := if (St.placed ⟨levels, start, []⟩) = true then (if 14 < lims.length then 3 else if stops.length = lims.length ∧ lims.all (fun n => decide (0 ≤ n) && decide (n ≤ levels)) = true then 0 else 2) else 1
end Go.Proofs.YtaffbiibcfeigaaGreat
/-! Contracts (stair): specimens that are shaken, by the program and by the reference. -/
namespace Go.Proofs.YtaffbiibcfeigaaGreat
open Go.RowKit
attribute [local simp] Box.purge Site.isLoc
set_option maxRecDepth 10000
set_option linter.unusedSimpArgs false
def shRes (v l : Int) (b : Bool) : Int := if b = true then 2 else if v < l then 1 else 0
/-- The runs of specimens. -/
def St.shk (s : St) : Int → List Int → List Bool → List Rn
  | v, l :: ls, b :: bs => ⟨v, shRes v l b⟩ :: s.shk (s.next v (shRes v l b)) ls bs
  | _, _, _ => []
def St.shAt (s : St) : Int → List Int → List Bool → Int
  | v, l :: ls, b :: bs => s.shAt (s.next v (shRes v l b)) ls bs
  | v, _, _ => v
theorem St.shk_len (s : St) : ∀ (v : Int) (ls : List Int) (bs : List Bool), ls.length = bs.length → (s.shk v ls bs).length = ls.length
  | v, [], [], _ => rfl
  | v, [], _ :: _, h => by simp at h
  | v, _ :: _, [], h => by simp at h
  | v, l :: ls, b :: bs, h => by rw [St.shk, List.length_cons, St.shk_len s _ ls bs (by simpa using h), List.length_cons]
theorem St.shk_take (s : St) : ∀ (v : Int) (ls : List Int) (bs : List Bool) (j : Nat) (x : Int) (b : Bool), ls[j]? = some x → bs[j]? = some b →
    s.shk v (ls.take (j + 1)) (bs.take (j + 1)) = s.shk v (ls.take j) (bs.take j) ++ [⟨s.shAt v (ls.take j) (bs.take j), shRes (s.shAt v (ls.take j) (bs.take j)) x b⟩] ∧
    s.shAt v (ls.take (j + 1)) (bs.take (j + 1)) = s.next (s.shAt v (ls.take j) (bs.take j)) (shRes (s.shAt v (ls.take j) (bs.take j)) x b)
  | v, [], _, j, x, b, h, _ => by simp at h
  | v, _ :: _, [], j, x, b, _, h => by simp at h
  | v, l :: ls, c :: bs, 0, x, b, h1, h2 => by
    simp at h1 h2; subst h1 h2
    simp [St.shk, St.shAt]
  | v, l :: ls, c :: bs, j + 1, x, b, h1, h2 => by
    obtain ⟨k1, k2⟩ := St.shk_take s (s.next v (shRes v l c)) ls bs j x b (by simpa using h1) (by simpa using h2)
    simp only [List.take_succ_cons, St.shk, St.shAt, List.cons_append]
    rw [k1]
    exact ⟨rfl, k2⟩
theorem St.shAt_in {s : St} (hs : 1 ≤ s.levels ∧ s.levels ≤ 1000) : ∀ (v : Int) (ls : List Int) (bs : List Bool), 0 ≤ v ∧ v ≤ 1000 → 0 ≤ s.shAt v ls bs ∧ s.shAt v ls bs ≤ 1000
  | v, [], [], h => h
  | v, [], _ :: _, h => h
  | v, _ :: _, [], h => h
  | v, l :: ls, b :: bs, h => St.shAt_in hs _ ls bs (St.next_in hs h _)
theorem tup_wk {m : Mem} {v : Value} {cs cs' : List PV} (hl : cs.length = cs'.length) (hw : ∀ (j : Nat) (c c' : PV) (d : Value), cs[j]? = some c → cs'[j]? = some c' → RdP m d c → RdP m d c') (h : RdP m v (.tup cs)) : RdP m v (.tup cs') := by
  cases h with
  | tup vs _ h0 h2 =>
    refine .tup vs cs' (by omega) (fun j d c k1 k2 => ?_)
    have hj : j < cs.length := by have := (List.getElem?_eq_some_iff.1 k2).1; omega
    exact hw j cs[j] c d (List.getElem?_eq_getElem hj) k2 (h2 j d _ k1 (List.getElem?_eq_getElem hj))
attribute [local simp] retFz frzL AS.frz AV.frz AV.frzL Box.frz AS.tidy
def rshH (levels start : Int) (lims : List Int) (stops : List Bool) : Nat → AS
  | 0 => ⟨[(0, .pv (.int .i64 levels)), (2, .pv (intsP lims)), (3, .pv (boolsP stops)), (9, .pv (.emp (some true))), (10, .pv (.int .i64 start)), (11, .pv (.int .i64 0))], []⟩
  | k + 1 => ⟨[(0, .pv (.int .i64 levels)), (2, .pv (intsP lims)), (3, .pv (boolsP stops)), (9, .vec (.loc 37 0) 2 0 (k + 1)), (10, .pv (.int .i64 (St.shAt ⟨levels, start, []⟩ start (lims.take (k + 1)) (stops.take (k + 1))))), (11, .pv (.int .i64 (k + 1 : Nat)))],
      [(.loc 37 0, .arr 235 2 ((St.shk ⟨levels, start, []⟩ start (lims.take (k + 1)) (stops.take (k + 1))).map Rn.pv))]⟩
set_option maxHeartbeats 16000000 in
theorem rshake_c (levels start : Int) (hs : 1 ≤ levels ∧ levels ≤ 1000) (hst : 0 ≤ start ∧ start ≤ 1000) (lims : List Int) (stops : List Bool) (hl : lims.length ≤ 1000) (hls : stops.length = lims.length) :
    CallsA Tryz.prog 80 ([.int .i64 levels, .int .i64 start, intsP lims, boolsP stops].map .pv) [] (fun r B => r = .pv (.lst false 2 ((St.shk ⟨levels, start, []⟩ start lims stops).map Rn.pv)) ∧ B = []) := by
  refine CallsA.weak2 ?_
  refine calls_of_awpF [.loc 37 0] mixed L80_ok (Nat.le_of_ble_eq_true rfl) ?_
  generalize hR : (fun (r : AV) (B : List (Site × Box)) => ∃ x, r = .pv x ∧ B = [] ∧ ∀ m v, RdP m v x → RdP m v (.lst false 2 ((St.shk ⟨levels, start, []⟩ start lims stops).map Rn.pv))) = R
  simp [-getElem?_pos, L80]
  refine awp_loopS (fun n τ => ∃ k : Nat, k ≤ lims.length ∧ n = lims.length - k ∧ τ = rshH levels start lims stops k) ⟨lims.length, _, Sub.mk (by simp [rshH]) (by simp [rshH]), 0, by omega, rfl, rfl⟩ ?_
  rintro J hJ n τ ⟨k, hk, rfl, rfl⟩
  by_cases hlt : k < lims.length
  · have hx : lims[k]? = some lims[k] := List.getElem?_eq_getElem hlt
    have hy : stops[k]? = some (stops[k]'(by omega)) := List.getElem?_eq_getElem _
    generalize lims[k] = x at hx
    generalize stops[k]'(by omega) = b at hy
    have hlt2 : k < stops.length := by omega
    obtain ⟨ht1, ht2⟩ := St.shk_take ⟨levels, start, []⟩ start lims stops k x b hx hy
    have hin := St.shAt_in (s := ⟨levels, start, []⟩) hs start (lims.take k) (stops.take k) hst
    have hlen : (St.shk ⟨levels, start, []⟩ start (lims.take k) (stops.take k)).length = k := by rw [St.shk_len _ _ _ _ (by simp [hls])]; simp; omega
    have hw : IntKind.i64.wrap ((k : Int) + 1) = ((k + 1 : Nat) : Int) := by rw [wrap64 (by omega)]; omega
    have hgx : (lims.map intP)[k]? = some (.int .i64 x) := by rw [List.getElem?_map, hx]; rfl
    have hgy : (stops.map PV.bool)[k]? = some (.bool b) := by rw [List.getElem?_map, hy]; rfl
    have hround := hJ _ _ ⟨k + 1, hlt, rfl, rfl⟩
    have hnx := fun k => next_c ⟨levels, start, []⟩ (by simp only; omega) (St.shAt ⟨levels, start, []⟩ start (lims.take k) (stops.take k)) (shRes (St.shAt ⟨levels, start, []⟩ start (lims.take k) (stops.take k)) x b)
    have hnx := hnx k (by omega)
    cases k with
    | zero =>
      rw [show ((0 : Nat) : Int) = 0 from rfl] at hw
      have hw1 : IntKind.i64.wrap 1 = 1 := rfl
      simp only [List.take_zero, St.shAt, St.shk, List.nil_append] at hnx ht1 ht2
      rw [Nat.zero_add] at ht1 ht2
      cases b with
      | true =>
        have hres : shRes start x true = 2 := rfl
        rw [hres] at hnx ht1 ht2
        cases hc : decide (start < x)
        · simp [-getElem?_pos, -List.getElem?_map, -decide_eq_true_eq, -decide_eq_false_iff_not, rshH, intsP_eq, boolsP, hlt, hlt, hlt2, hgx, hgy, nble, nblt, hc]
          refine call_gives (k := 0) (fs := []) (cs := []) rfl rfl hnx rfl ?_
          simp [-getElem?_pos, hw1]
          refine ⟨_, _, (by omega : lims.length - 1 < lims.length), Sub.mk ?_ ?_, hround⟩
          · simp [rshH, intsP_eq, boolsP, ht2]
          · simp [rshH, ht1, Rn.pv]
        · simp [-getElem?_pos, -List.getElem?_map, -decide_eq_true_eq, -decide_eq_false_iff_not, rshH, intsP_eq, boolsP, hlt, hlt, hlt2, hgx, hgy, nble, nblt, hc]
          refine call_gives (k := 0) (fs := []) (cs := []) rfl rfl hnx rfl ?_
          simp [-getElem?_pos, hw1]
          refine ⟨_, _, (by omega : lims.length - 1 < lims.length), Sub.mk ?_ ?_, hround⟩
          · simp [rshH, intsP_eq, boolsP, ht2]
          · simp [rshH, ht1, Rn.pv]
      | false =>
        cases hc : decide (start < x)
        · have hc' : ¬ start < x := by simpa using hc
          have hres : shRes start x false = 0 := by simp [shRes, hc']
          rw [hres] at hnx ht1 ht2
          simp [-getElem?_pos, -List.getElem?_map, -decide_eq_true_eq, -decide_eq_false_iff_not, rshH, intsP_eq, boolsP, hlt, hlt, hlt2, hgx, hgy, nble, nblt, hc]
          refine call_gives (k := 0) (fs := []) (cs := []) rfl rfl hnx rfl ?_
          simp [-getElem?_pos, hw1]
          refine ⟨_, _, (by omega : lims.length - 1 < lims.length), Sub.mk ?_ ?_, hround⟩
          · simp [rshH, intsP_eq, boolsP, ht2]
          · simp [rshH, ht1, Rn.pv]
        · have hc' : start < x := by simpa using hc
          have hres : shRes start x false = 1 := by simp [shRes, hc']
          rw [hres] at hnx ht1 ht2
          simp [-getElem?_pos, -List.getElem?_map, -decide_eq_true_eq, -decide_eq_false_iff_not, rshH, intsP_eq, boolsP, hlt, hlt, hlt2, hgx, hgy, nble, nblt, hc]
          refine call_gives (k := 0) (fs := []) (cs := []) rfl rfl hnx rfl ?_
          simp [-getElem?_pos, hw1]
          refine ⟨_, _, (by omega : lims.length - 1 < lims.length), Sub.mk ?_ ?_, hround⟩
          · simp [rshH, intsP_eq, boolsP, ht2]
          · simp [rshH, ht1, Rn.pv]
    | succ k =>
      rw [show ((k + 1 : Nat) : Int) = (k : Int) + 1 by omega] at hw
      have hlt' : decide ((k : Int) + 1 < (lims.length : Int)) = true := by simp; omega
      have hk6 : k + 1 + 1 ≤ 1000000 := by omega
      generalize hV : St.shAt ⟨levels, start, []⟩ start (lims.take (k + 1)) (stops.take (k + 1)) = V at *
      cases b with
      | true =>
        have hres : shRes V x true = 2 := rfl
        rw [hres] at hnx ht1 ht2
        cases hc : decide (V < x)
        · simp [-getElem?_pos, -List.getElem?_map, -decide_eq_true_eq, -decide_eq_false_iff_not, rshH, intsP_eq, boolsP, hlt', hlt, hlt2, hgx, hgy, nble, nblt, hc, hlen, hk6, hV]
          refine call_gives (k := 0) (fs := []) (cs := []) rfl rfl hnx rfl ?_
          simp [-getElem?_pos, hw]
          refine ⟨_, _, (by omega : lims.length - (k + 1 + 1) < lims.length - (k + 1)), Sub.mk ?_ ?_, hround⟩
          · simp [rshH, intsP_eq, boolsP, ht2]
          · simp [rshH, ht1, Rn.pv]
        · simp [-getElem?_pos, -List.getElem?_map, -decide_eq_true_eq, -decide_eq_false_iff_not, rshH, intsP_eq, boolsP, hlt', hlt, hlt2, hgx, hgy, nble, nblt, hc, hlen, hk6, hV]
          refine call_gives (k := 0) (fs := []) (cs := []) rfl rfl hnx rfl ?_
          simp [-getElem?_pos, hw]
          refine ⟨_, _, (by omega : lims.length - (k + 1 + 1) < lims.length - (k + 1)), Sub.mk ?_ ?_, hround⟩
          · simp [rshH, intsP_eq, boolsP, ht2]
          · simp [rshH, ht1, Rn.pv]
      | false =>
        cases hc : decide (V < x)
        · have hc' : ¬ V < x := by simpa using hc
          have hres : shRes V x false = 0 := by simp [shRes, hc']
          rw [hres] at hnx ht1 ht2
          simp [-getElem?_pos, -List.getElem?_map, -decide_eq_true_eq, -decide_eq_false_iff_not, rshH, intsP_eq, boolsP, hlt', hlt, hlt2, hgx, hgy, nble, nblt, hc, hlen, hk6, hV]
          refine call_gives (k := 0) (fs := []) (cs := []) rfl rfl hnx rfl ?_
          simp [-getElem?_pos, hw]
          refine ⟨_, _, (by omega : lims.length - (k + 1 + 1) < lims.length - (k + 1)), Sub.mk ?_ ?_, hround⟩
          · simp [rshH, intsP_eq, boolsP, ht2]
          · simp [rshH, ht1, Rn.pv]
        · have hc' : V < x := by simpa using hc
          have hres : shRes V x false = 1 := by simp [shRes, hc']
          rw [hres] at hnx ht1 ht2
          simp [-getElem?_pos, -List.getElem?_map, -decide_eq_true_eq, -decide_eq_false_iff_not, rshH, intsP_eq, boolsP, hlt', hlt, hlt2, hgx, hgy, nble, nblt, hc, hlen, hk6, hV]
          refine call_gives (k := 0) (fs := []) (cs := []) rfl rfl hnx rfl ?_
          simp [-getElem?_pos, hw]
          refine ⟨_, _, (by omega : lims.length - (k + 1 + 1) < lims.length - (k + 1)), Sub.mk ?_ ?_, hround⟩
          · simp [rshH, intsP_eq, boolsP, ht2]
          · simp [rshH, ht1, Rn.pv]
  · have he : k = lims.length := by omega
    subst he
    by_cases h0 : lims.length = 0
    · rw [h0]
      have hnil : lims = [] := List.eq_nil_of_length_eq_zero h0
      simp [-getElem?_pos, rshH, intsP_eq, hnil]
      rw [← hR]
      exact ⟨_, rfl, rfl, fun m v h => by rw [hnil]; exact emp_lst h⟩
    · obtain ⟨j, hj⟩ : ∃ j, lims.length = j + 1 := ⟨lims.length - 1, by omega⟩
      have htl : List.take (j + 1) lims = lims := List.take_of_length_le (by omega)
      have hts : List.take (j + 1) stops = stops := List.take_of_length_le (by omega)
      have hlen : (St.shk ⟨levels, start, []⟩ start lims stops).length = j + 1 := by rw [St.shk_len _ _ _ _ hls.symm, hj]
      have htk : List.take (j + 1) ((St.shk ⟨levels, start, []⟩ start lims stops).map Rn.pv) = (St.shk ⟨levels, start, []⟩ start lims stops).map Rn.pv := List.take_of_length_le (by simp [hlen])
      rw [hj]
      simp [-getElem?_pos, rshH, intsP_eq, hj, htl, hts, hlen, htk]
      rw [← hR]
      exact ⟨_, rfl, rfl, fun m v h => h⟩
end Go.Proofs.YtaffbiibcfeigaaGreat
/-! Contracts (stair): Shake. -/
namespace Go.Proofs.YtaffbiibcfeigaaGreat
open Go.RowKit
attribute [local simp] Box.purge Site.isLoc
set_option maxRecDepth 10000
set_option linter.unusedSimpArgs false
/-- A staircase without runs, as a composite literal has it. -/
def St.pvE (levels start : Int) : PV := .agg [.int .i64 levels, .int .i64 start, .emp (some true)]
theorem pvE_wk {levels start : Int} {g : FuncId} {v : Int} {y : PV} (h : Gives Tryz.prog g [St.pv ⟨levels, start, []⟩, .int .i64 v] y) : Gives Tryz.prog g [St.pvE levels start, .int .i64 v] y := by
  refine CallsA.weakArgs (xs := [St.pvE levels start, .int .i64 v]) (ys := [St.pv ⟨levels, start, []⟩, .int .i64 v]) h rfl (fun j x y m u h1 h2 hr => ?_)
  match j with
  | 0 =>
    simp at h1 h2; subst h1 h2
    refine agg_wk ?_ ?_ hr
    · rfl
    intro j c c' d k1 k2 hd
    match j with
    | 0 => simp at k1 k2; subst k1 k2; exact hd
    | 1 => simp at k1 k2; subst k1 k2; exact hd
    | 2 => simp at k1 k2; subst k1 k2; exact emp_lst hd
    | j + 3 => simp at k1
  | 1 => simp at h1 h2; subst h1 h2; exact hr
  | j + 2 => simp at h1
theorem in1_c (levels x : Int) : Gives Tryz.prog 128 [.int .i64 x, .ref [.int .i64 levels]] (.bool (decide (0 ≤ x) && decide (x ≤ levels))) := by
  refine calls_of_awpS mixed L128_ok (Nat.le_of_ble_eq_true rfl) ?_
  simp [-getElem?_pos, L128]
  refine call_gives (k := 0) (fs := []) (xs := [.int .i64 x, .int .i64 0, .int .i64 levels]) (cs := []) rfl rfl (within_c x 0 levels) rfl ?_
  simp [-getElem?_pos]
def unInt (x : PV) : Int := match x with
  | .int _ n => n
  | _ => 0
attribute [local simp] retFz frzL AS.frz AV.frz AV.frzL Box.frz AS.tidy
def shH (levels start : Int) (lims : List Int) (stops : List Bool) : Nat → AS
  | 0 => ⟨[(3, .pv (boolsP stops)), (10, .ptr (.loc 10 0) 0), (11, .pv (.int .i64 start)), (12, .pv (.emp (some true))), (41, .pv (intsP lims)), (42, .pv (.int .i64 lims.length)), (43, .pv (.int .i64 0))], [(.loc 10 0, .cells [.pv (.int .i64 levels), .pv (.int .i64 start), .pv (.emp (some true))])]⟩
  | k + 1 => ⟨[(3, .pv (boolsP stops)), (10, .ptr (.loc 10 0) 0), (11, .pv (.int .i64 (St.shAt ⟨levels, start, []⟩ start (lims.take (k + 1)) (stops.take (k + 1))))), (12, .vec (.loc 62 0) 2 0 (k + 1)), (41, .pv (intsP lims)), (42, .pv (.int .i64 lims.length)), (43, .pv (.int .i64 (k + 1 : Nat)))],
      [(.loc 62 0, .arr 233 2 ((St.shk ⟨levels, start, []⟩ start (lims.take (k + 1)) (stops.take (k + 1))).map Rn.pv)), (.loc 10 0, .cells [.pv (.int .i64 levels), .pv (.int .i64 start), .pv (.emp (some true))])]⟩
def shOut (levels start : Int) (lims : List Int) (stops : List Bool) : List Rn := if shErr levels start lims stops = 0 then St.shk ⟨levels, start, []⟩ start lims stops else []
set_option maxHeartbeats 32000000 in
theorem shake_c (levels start : Int) (lims : List Int) (stops : List Bool) (hl : lims.length ≤ 1000) :
    CallsA Tryz.prog 79 ([.int .i64 levels, .int .i64 start, intsP lims, boolsP stops].map .pv) [] (fun r B => r = .pv (.tup [.lst false 2 ((shOut levels start lims stops).map Rn.pv), .int .i64 (shErr levels start lims stops)]) ∧ B = []) := by
  refine CallsA.weak2 ?_
  refine calls_of_awpF [.loc 62 0] mixed L79_ok (Nat.le_of_ble_eq_true rfl) ?_
  generalize hR : (fun (r : AV) (B : List (Site × Box)) => ∃ x, r = .pv x ∧ B = [] ∧ ∀ m v, RdP m v x → RdP m v (.tup [.lst false 2 ((shOut levels start lims stops).map Rn.pv), .int .i64 (shErr levels start lims stops)])) = R
  have hbad : ∀ e : Int, e ≠ 0 → shErr levels start lims stops = e → R (.pv (.tup [.emp (some true), .int .i64 e])) [] := fun e h0 h => by
    rw [← hR]
    refine ⟨_, rfl, rfl, fun m v hv => ?_⟩
    have ho : shOut levels start lims stops = [] := by unfold shOut; rw [if_neg (by rw [h]; exact h0)]
    rw [ho, h]
    refine tup_wk ?_ ?_ hv
    · rfl
    intro j c c' d k1 k2 hd
    match j with
    | 0 => simp at k1 k2; subst k1 k2; exact emp_lst hd
    | 1 => simp at k1 k2; subst k1 k2; exact hd
    | j + 2 => simp at k1
  simp [-getElem?_pos, L79]
  refine call_gives (k := 0) (fs := []) (xs := [.int .i64 levels, .int .i64 start]) (cs := []) rfl rfl (place_c levels start) rfl ?_
  cases hpl : St.placed ⟨levels, start, []⟩
  · have hpl' : (decide (1 ≤ levels) && decide (levels ≤ 8) && (decide (0 ≤ start) && decide (start ≤ levels - 1))) = false := hpl
    have h1 : shErr levels start lims stops = 1 := by unfold shErr; rw [hpl]; rfl
    rw [hpl']
    simp [-getElem?_pos]
    exact hbad 1 (by omega) h1
  · have hpl' : (decide (1 ≤ levels) && decide (levels ≤ 8) && (decide (0 ≤ start) && decide (start ≤ levels - 1))) = true := hpl
    have hb : (1 ≤ levels ∧ levels ≤ 8) ∧ 0 ≤ start ∧ start ≤ levels - 1 := by simpa using hpl'
    rw [hpl']
    by_cases h14 : 14 < lims.length
    · have h14' : decide ((lims.length : Int) > 14) = true := by simp; omega
      have h1 : shErr levels start lims stops = 3 := by unfold shErr; rw [hpl, if_pos rfl, if_pos h14]
      simp [-getElem?_pos, -decide_eq_true_eq, -decide_eq_false_iff_not, h14', intsP_eq]
      exact hbad 3 (by omega) h1
    · have h14' : decide ((lims.length : Int) > 14) = false := by simp; omega
      have hE : shErr levels start lims stops = if stops.length = lims.length ∧ lims.all (fun n => decide (0 ≤ n) && decide (n ≤ levels)) = true then 0 else 2 := by unfold shErr; rw [if_pos hpl, if_neg h14]
      by_cases hls : stops.length = lims.length
      · have hls' : (stops.length : Int) = lims.length := by omega
        have hall := allInt_c (lims.map intP) 128 [] [.ref [.int .i64 levels]] (fun x => decide (0 ≤ unInt x) && decide (unInt x ≤ levels)) (fun x hx => by
          obtain ⟨z, _, rfl⟩ := List.mem_map.1 hx
          exact in1_c levels z) (by simp; omega) (fun x hx => by
          obtain ⟨z, _, rfl⟩ := List.mem_map.1 hx
          exact ⟨z, rfl⟩)
        have hae : (lims.map intP).all (fun x => decide (0 ≤ unInt x) && decide (unInt x ≤ levels)) = lims.all (fun n => decide (0 ≤ n) && decide (n ≤ levels)) := by rw [List.all_map]; rfl
        rw [hae] at hall
        simp [-getElem?_pos, -decide_eq_true_eq, -decide_eq_false_iff_not, h14', intsP_eq, boolsP, hls']
        refine call_gives (k := 3) (fs := []) (xs := [.lst false 1 (lims.map intP), .fn 128 [] [.ref [.int .i64 levels]]]) (cs := []) rfl rfl hall rfl ?_
        cases ha : lims.all (fun n => decide (0 ≤ n) && decide (n ≤ levels))
        · have h1 : shErr levels start lims stops = 2 := by rw [hE, if_neg (fun h => by rw [ha] at h; cases h.2)]
          simp [-getElem?_pos, -List.all_eq_true, -List.all_eq_false]
          exact hbad 2 (by omega) h1
        · have h1 : shErr levels start lims stops = 0 := by rw [hE, if_pos ⟨hls, ha⟩]
          simp [-getElem?_pos, -List.all_eq_true, -List.all_eq_false]
          refine awp_loopS (fun n τ => ∃ k : Nat, k ≤ lims.length ∧ n = lims.length - k ∧ τ = shH levels start lims stops k) ⟨lims.length, _, Sub.mk (by simp [shH, intsP_eq, boolsP]) (by simp [shH]), 0, by omega, rfl, rfl⟩ ?_
          rintro J hJ n τ ⟨k, hk, rfl, rfl⟩
          by_cases hlt : k < lims.length
          · have hx : lims[k]? = some lims[k] := List.getElem?_eq_getElem hlt
            have hy : stops[k]? = some (stops[k]'(by omega)) := List.getElem?_eq_getElem _
            generalize lims[k] = x at hx
            generalize stops[k]'(by omega) = b at hy
            have hlt2 : k < stops.length := by omega
            obtain ⟨ht1, ht2⟩ := St.shk_take ⟨levels, start, []⟩ start lims stops k x b hx hy
            have hin := St.shAt_in (s := ⟨levels, start, []⟩) (by simp only; omega) start (lims.take k) (stops.take k) (by omega)
            have hlen : (St.shk ⟨levels, start, []⟩ start (lims.take k) (stops.take k)).length = k := by rw [St.shk_len _ _ _ _ (by simp [hls])]; simp; omega
            have hw : IntKind.i64.wrap ((k : Int) + 1) = ((k + 1 : Nat) : Int) := by rw [wrap64 (by omega)]; omega
            have hgx : (lims.map intP)[k]? = some (.int .i64 x) := by rw [List.getElem?_map, hx]; rfl
            have hgy : (stops.map PV.bool)[k]? = some (.bool b) := by rw [List.getElem?_map, hy]; rfl
            have hround := hJ _ _ ⟨k + 1, hlt, rfl, rfl⟩
            have hl0 := pvE_wk (lower_c ⟨levels, start, []⟩ (St.shAt ⟨levels, start, []⟩ start (lims.take k) (stops.take k)) (by omega))
            have hl1 := pvE_wk (higher_c ⟨levels, start, []⟩ (St.shAt ⟨levels, start, []⟩ start (lims.take k) (stops.take k)) (by simp only; omega) (by omega))
            have hl2 := pvE_wk (stays_c ⟨levels, start, []⟩ (St.shAt ⟨levels, start, []⟩ start (lims.take k) (stops.take k)))
            have g0 : movesL[0]? = some (.agg [.fn 187 [] []]) := rfl
            have g1 : movesL[1]? = some (.agg [.fn 188 [] []]) := rfl
            have g2 : movesL[2]? = some (.agg [.fn 189 [] []]) := rfl
            cases k with
            | zero =>
              rw [show ((0 : Nat) : Int) = 0 from rfl] at hw
              have hw1 : IntKind.i64.wrap 1 = 1 := rfl
              simp only [List.take_zero, St.shAt, St.shk, List.nil_append] at hl0 hl1 hl2 ht1 ht2
              rw [Nat.zero_add] at ht1 ht2
              cases b with
              | true =>
                have hres : shRes start x true = 2 := rfl
                rw [hres] at ht1 ht2
                simp [-getElem?_pos, -List.getElem?_map, -decide_eq_true_eq, -decide_eq_false_iff_not, shH, intsP_eq, boolsP, hlt, hlt, hlt2, hgx, hgy, nble, nblt, hw]
                refine call_vec [] (fs := []) (xs := []) (cs := []) rfl rfl moves_v ?_
                simp [-getElem?_pos, frzsL, nblt, g2]
                refine call_gives (k := 1) (fs := []) (cs := []) (xs := [St.pvE levels start, .int .i64 start]) rfl rfl hl2 rfl ?_
                simp [-getElem?_pos, hw1]
                refine ⟨_, _, (by omega : lims.length - 1 < lims.length), Sub.mk ?_ ?_, hround⟩
                · simp [shH, intsP_eq, boolsP, ht2]
                · simp [shH, ht1, Rn.pv]
              | false =>
                cases hc : decide (start < x)
                · have hc' : ¬ start < x := by simpa using hc
                  have hres : shRes start x false = 0 := by simp [shRes, hc']
                  rw [hres] at ht1 ht2
                  simp [-getElem?_pos, -List.getElem?_map, -decide_eq_true_eq, -decide_eq_false_iff_not, shH, intsP_eq, boolsP, hlt, hlt, hlt2, hgx, hgy, nble, nblt, hc]
                  refine call_vec [] (fs := []) (xs := []) (cs := []) rfl rfl moves_v ?_
                  simp [-getElem?_pos, frzsL, nblt, g0]
                  refine call_gives (k := 1) (fs := []) (cs := []) (xs := [St.pvE levels start, .int .i64 start]) rfl rfl hl0 rfl ?_
                  simp [-getElem?_pos, hw1]
                  refine ⟨_, _, (by omega : lims.length - 1 < lims.length), Sub.mk ?_ ?_, hround⟩
                  · simp [shH, intsP_eq, boolsP, ht2]
                  · simp [shH, ht1, Rn.pv]
                · have hc' : start < x := by simpa using hc
                  have hres : shRes start x false = 1 := by simp [shRes, hc']
                  rw [hres] at ht1 ht2
                  simp [-getElem?_pos, -List.getElem?_map, -decide_eq_true_eq, -decide_eq_false_iff_not, shH, intsP_eq, boolsP, hlt, hlt, hlt2, hgx, hgy, nble, nblt, hc]
                  refine call_vec [] (fs := []) (xs := []) (cs := []) rfl rfl moves_v ?_
                  simp [-getElem?_pos, frzsL, nblt, g1]
                  refine call_gives (k := 1) (fs := []) (cs := []) (xs := [St.pvE levels start, .int .i64 start]) rfl rfl hl1 rfl ?_
                  simp [-getElem?_pos, hw1]
                  refine ⟨_, _, (by omega : lims.length - 1 < lims.length), Sub.mk ?_ ?_, hround⟩
                  · simp [shH, intsP_eq, boolsP, ht2]
                  · simp [shH, ht1, Rn.pv]
            | succ k =>
              rw [show ((k + 1 : Nat) : Int) = (k : Int) + 1 by omega] at hw
              have hlt' : decide ((k : Int) + 1 < (lims.length : Int)) = true := by simp; omega
              have hk6 : k + 1 + 1 ≤ 1000000 := by omega
              generalize hV : St.shAt ⟨levels, start, []⟩ start (lims.take (k + 1)) (stops.take (k + 1)) = V at *
              cases b with
              | true =>
                have hres : shRes V x true = 2 := rfl
                rw [hres] at ht1 ht2
                simp [-getElem?_pos, -List.getElem?_map, -decide_eq_true_eq, -decide_eq_false_iff_not, shH, intsP_eq, boolsP, hlt', hlt, hlt2, hgx, hgy, nble, nblt, hw, hlen, hk6, hV]
                refine call_vec [] (fs := []) (xs := []) (cs := []) rfl rfl moves_v ?_
                simp [-getElem?_pos, frzsL, nblt, g2]
                refine call_gives (k := 1) (fs := []) (cs := []) (xs := [St.pvE levels start, .int .i64 V]) rfl rfl hl2 rfl ?_
                simp [-getElem?_pos, hw]
                refine ⟨_, _, (by omega : lims.length - (k + 1 + 1) < lims.length - (k + 1)), Sub.mk ?_ ?_, hround⟩
                · simp [shH, intsP_eq, boolsP, ht2]
                · simp [shH, ht1, Rn.pv]
              | false =>
                cases hc : decide (V < x)
                · have hc' : ¬ V < x := by simpa using hc
                  have hres : shRes V x false = 0 := by simp [shRes, hc']
                  rw [hres] at ht1 ht2
                  simp [-getElem?_pos, -List.getElem?_map, -decide_eq_true_eq, -decide_eq_false_iff_not, shH, intsP_eq, boolsP, hlt', hlt, hlt2, hgx, hgy, nble, nblt, hc, hlen, hk6, hV]
                  refine call_vec [] (fs := []) (xs := []) (cs := []) rfl rfl moves_v ?_
                  simp [-getElem?_pos, frzsL, nblt, g0]
                  refine call_gives (k := 1) (fs := []) (cs := []) (xs := [St.pvE levels start, .int .i64 V]) rfl rfl hl0 rfl ?_
                  simp [-getElem?_pos, hw]
                  refine ⟨_, _, (by omega : lims.length - (k + 1 + 1) < lims.length - (k + 1)), Sub.mk ?_ ?_, hround⟩
                  · simp [shH, intsP_eq, boolsP, ht2]
                  · simp [shH, ht1, Rn.pv]
                · have hc' : V < x := by simpa using hc
                  have hres : shRes V x false = 1 := by simp [shRes, hc']
                  rw [hres] at ht1 ht2
                  simp [-getElem?_pos, -List.getElem?_map, -decide_eq_true_eq, -decide_eq_false_iff_not, shH, intsP_eq, boolsP, hlt', hlt, hlt2, hgx, hgy, nble, nblt, hc, hlen, hk6, hV]
                  refine call_vec [] (fs := []) (xs := []) (cs := []) rfl rfl moves_v ?_
                  simp [-getElem?_pos, frzsL, nblt, g1]
                  refine call_gives (k := 1) (fs := []) (cs := []) (xs := [St.pvE levels start, .int .i64 V]) rfl rfl hl1 rfl ?_
                  simp [-getElem?_pos, hw]
                  refine ⟨_, _, (by omega : lims.length - (k + 1 + 1) < lims.length - (k + 1)), Sub.mk ?_ ?_, hround⟩
                  · simp [shH, intsP_eq, boolsP, ht2]
                  · simp [shH, ht1, Rn.pv]
          · have he : k = lims.length := by omega
            subst he
            have ho : shOut levels start lims stops = St.shk ⟨levels, start, []⟩ start lims stops := by unfold shOut; rw [if_pos h1]
            by_cases h0 : lims.length = 0
            · rw [h0]
              have hnil : lims = [] := List.eq_nil_of_length_eq_zero h0
              simp [-getElem?_pos, shH, intsP_eq, hnil]
              rw [← hR]
              refine ⟨_, rfl, rfl, fun m v hv => ?_⟩
              rw [ho, h1, hnil]
              refine tup_wk ?_ ?_ hv
              · rfl
              intro j c c' d k1 k2 hd
              match j with
              | 0 => simp at k1 k2; subst k1 k2; exact emp_lst hd
              | 1 => simp at k1 k2; subst k1 k2; exact hd
              | j + 2 => simp at k1
            · obtain ⟨j, hj⟩ : ∃ j, lims.length = j + 1 := ⟨lims.length - 1, by omega⟩
              have htl : List.take (j + 1) lims = lims := List.take_of_length_le (by omega)
              have hts : List.take (j + 1) stops = stops := List.take_of_length_le (by omega)
              have hlen : (St.shk ⟨levels, start, []⟩ start lims stops).length = j + 1 := by rw [St.shk_len _ _ _ _ hls.symm, hj]
              have htk : List.take (j + 1) ((St.shk ⟨levels, start, []⟩ start lims stops).map Rn.pv) = (St.shk ⟨levels, start, []⟩ start lims stops).map Rn.pv := List.take_of_length_le (by simp [hlen])
              rw [hj]
              simp [-getElem?_pos, shH, intsP_eq, hj, htl, hts, hlen, htk]
              rw [← hR, ho, h1]
              exact ⟨_, rfl, rfl, fun m v h => h⟩
      · have hls' : ¬ (stops.length : Int) = lims.length := by omega
        have h1 : shErr levels start lims stops = 2 := by rw [hE, if_neg (fun h => hls h.1)]
        simp [-getElem?_pos, -decide_eq_true_eq, -decide_eq_false_iff_not, h14', intsP_eq, boolsP, hls']
        exact hbad 2 (by omega) h1
end Go.Proofs.YtaffbiibcfeigaaGreat
