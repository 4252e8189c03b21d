/- Contracts of layer 10 (queue): whether a run may be on a machine; the last hour of two; the end of a plan. (Several texts in one.) -/
import Derived.Test.YtohhjnpiiackjaaQuA
set_option linter.unusedVariables false
set_option linter.unusedSimpArgs false
/-! Contracts of layer 10 (queue): whether a run may be on a machine; the last hour of two; the end of a plan. -/
namespace Go.Proofs.Ytohhjnpiiackjaa
open Go.RowKit
attribute [local simp] Box.purge Site.isLoc
set_option maxRecDepth 10000
set_option linter.unusedSimpArgs false
attribute [local simp] retFz frzL AS.frz AV.frz AV.frzL Box.frz AS.tidy AS.frzC
def Rg.has (s : Rg) (h : Int) : Bool := decide (s.lo ≤ h) && decide (h ≤ s.hi)
theorem still_c (s : Rg) (h : Int) : Gives Try.prog 105 [s.pv, .ref [.int .i64 h]] (.bool (s.has h)) := by
  refine calls_of_awpS mixed L105_ok (Nat.le_of_ble_eq_true rfl) ?_
  simp [-getElem?_pos, L105, Rg.pv]
  refine call_gives (k := 0) rfl rfl (within_c h s.lo s.hi) rfl ?_
  simp [-getElem?_pos, Rg.has]
def hasQ (h : Int) : PV → Bool
  | .agg [.int _ a, .int _ b] => Rg.has ⟨a, b⟩ h
  | _ => false
/-- A run, by its number; the stops of a machine. -/
def Qu.run (q : Qu) (i : Nat) : Rq := (q.rs[i]?).getD ⟨0, 0, []⟩
def Qu.stops (q : Qu) (m : Nat) : List Rg := (q.ms[m]?).getD []
/-- May a run be on a machine at an hour? -/
def Qu.may (q : Qu) (i m : Nat) (h : Int) : Bool := ((q.run i).on[m]?).getD false && decide ((q.run i).ready ≤ h) && !(q.stops m).any (Rg.has · h)
/-- What is asked of a queue whose plan is looked at. -/
structure Qu.ok (q : Qu) : Prop where
  m : q.ms.length ≤ 4
  r : q.rs.length ≤ 6
  s : ∀ l ∈ q.ms, l.length ≤ 6
  x : ∀ l ∈ q.ms, ∀ y ∈ l, 0 ≤ y.lo ∧ y.lo ≤ y.hi ∧ y.hi ≤ 39
  h : ∀ r ∈ q.rs, 0 ≤ r.hours ∧ r.hours ≤ 40
  d : ∀ r ∈ q.rs, 0 ≤ r.ready ∧ r.ready ≤ 40
  f : ∀ r ∈ q.rs, r.on.length = q.ms.length
theorem Qu.ok_of {q : Qu} (h : q.check = 0) : q.ok := by
  unfold Qu.check at h
  split at h
  · cases h
  · rename_i h1
    split at h
    · cases h
    · rename_i h2
      simp only [Qu.big, Bool.not_eq_true, Bool.or_eq_false_iff, decide_eq_false_iff_not, Bool.not_eq_false', List.all_eq_true, decide_eq_true_eq] at h1
      simp only [Qu.bad, Bool.not_eq_true, Bool.or_eq_false_iff, Bool.not_eq_false', List.all_eq_true] at h2
      obtain ⟨⟨a1, a2⟩, a3⟩ := h1
      obtain ⟨b1, b2⟩ := h2
      refine ⟨by omega, by omega, fun l hl => by have := a3 l hl; omega, fun l hl y hy => ?_, fun r hr => ?_, fun r hr => ?_, fun r hr => ?_⟩
      · have := b1 l hl y hy
        simp only [Rg.hoursB, hourB, Bool.and_eq_true, decide_eq_true_eq] at this
        omega
      all_goals
        have := b2 r hr
        simp only [Rq.okB, manyB, Bool.and_eq_true, decide_eq_true_eq] at this
        omega
theorem may_c (q : Qu) (hq : q.ok) (i m : Nat) (h : Int) (hi : i < q.rs.length) (hm : m < q.ms.length) : Gives Try.prog 90 [q.pv, .int .i64 i, .int .i64 m, .int .i64 h] (.bool (q.may i m h)) := by
  obtain ⟨r, hr⟩ : ∃ r, q.rs[i]? = some r := ⟨q.rs[i], List.getElem?_eq_getElem hi⟩
  obtain ⟨l, hl⟩ : ∃ l, q.ms[m]? = some l := ⟨q.ms[m], List.getElem?_eq_getElem hm⟩
  obtain ⟨b, hb⟩ : ∃ b, r.on[m]? = some b := ⟨r.on[m]'(by rw [hq.f r (List.mem_of_getElem? hr)]; exact hm), List.getElem?_eq_getElem _⟩
  have hll := hq.s l (List.mem_of_getElem? hl)
  have e : q.may i m h = (b && decide (r.ready ≤ h) && !l.any (Rg.has · h)) := by simp [Qu.may, Qu.run, Qu.stops, hr, hl, hb]
  have g1 : (q.rs.map Rq.pv)[i]? = some (.agg [.int .i64 r.hours, .int .i64 r.ready, .lst false 1 (r.on.map PV.bool)]) := by rw [List.getElem?_map, hr]; rfl
  have g2 : (q.ms.map rgsP)[m]? = some (.lst false 2 (l.map Rg.pv)) := by rw [List.getElem?_map, hl]; rfl
  have g3 : (r.on.map PV.bool)[m]? = some (.bool b) := by rw [List.getElem?_map, hb]; rfl
  have a1 := anyRg_c (l.map Rg.pv) 105 [] [.ref [.int .i64 h]] (hasQ h) (fun x hx => by
    obtain ⟨s, _, rfl⟩ := List.mem_map.1 hx
    exact still_c s h) (by simp; omega) (fun x hx => by
    obtain ⟨s, _, rfl⟩ := List.mem_map.1 hx
    exact ⟨_, _, rfl⟩)
  have e2 : (l.map Rg.pv).any (hasQ h) = l.any (Rg.has · h) := by rw [List.any_map]; rfl
  rw [e2] at a1
  rw [e]
  generalize l.any (Rg.has · h) = c at *
  clear e hll e2
  refine calls_of_awpS mixed L90_ok (Nat.le_of_ble_eq_true rfl) ?_
  cases b
  · simp [-getElem?_pos, -List.getElem?_map, L90, Qu.pv, g1, g3]
  · by_cases hd : r.ready ≤ h
    · simp [-getElem?_pos, -List.getElem?_map, L90, Qu.pv, g1, g2, g3, hd]
      refine call_gives (k := 4) (fs := []) (xs := [.lst false 2 (l.map Rg.pv), .fn 105 [] [.ref [.int .i64 h]]]) (cs := []) rfl rfl a1 rfl ?_
      simp [-getElem?_pos]
    · simp [-getElem?_pos, -List.getElem?_map, L90, Qu.pv, g1, g2, g3, hd]
/-- The last of two hours. -/
theorem last2_c (a b : Int) : Gives Try.prog 74 [.lst false 1 [.int .i64 a, .int .i64 b]] (.int .i64 (if b > a then b else a)) := by
  have hmax : Gives Try.prog 93 [.lst false 1 [.int .i64 a, .int .i64 b]] (.int .i64 (if b > a then b else a)) := by
    refine calls_of_awpS mixed L93_ok (Nat.le_of_ble_eq_true rfl) ?_
    simp [-getElem?_pos, L93]
    refine awp_loopS (fun n τ => (n = 1 ∧ τ = ⟨[(0, .pv (.lst false 1 [.int .i64 a, .int .i64 b])), (3, .pv (.int .i64 a)), (4, .pv (.int .i64 1))], []⟩) ∨ (n = 0 ∧ τ = ⟨[(0, .pv (.lst false 1 [.int .i64 a, .int .i64 b])), (3, .pv (.int .i64 (if b > a then b else a))), (4, .pv (.int .i64 2))], []⟩)) ⟨1, _, Sub.mk (by simp) (by simp), .inl ⟨rfl, rfl⟩⟩ ?_
    rintro J hJ n τ (⟨rfl, rfl⟩ | ⟨rfl, rfl⟩)
    · have hround := hJ _ _ (.inr ⟨rfl, rfl⟩)
      have hw : IntKind.i64.wrap 2 = 2 := rfl
      clear hJ
      simp [-getElem?_pos, hw]
      exact ⟨_, _, (by omega : 0 < 1), Sub.mk (by simp) (by simp), hround⟩
    · simp [-getElem?_pos]
  refine calls_of_awpS mixed L74_ok (Nat.le_of_ble_eq_true rfl) ?_
  simp [-getElem?_pos, L74]
  refine call_gives (k := 0) (fs := []) (xs := [.lst false 1 [.int .i64 a, .int .i64 b]]) (cs := []) rfl rfl hmax rfl ?_
  simp [-getElem?_pos]
end Go.Proofs.Ytohhjnpiiackjaa
/-! Contracts of layer 10 (queue): the end of a plan; is a plan right? -/
namespace Go.Proofs.Ytohhjnpiiackjaa
open Go.RowKit
attribute [local simp] Box.purge Site.isLoc
set_option maxRecDepth 10000
set_option linter.unusedSimpArgs false
attribute [local simp] retFz frzL AS.frz AV.frz AV.frzL Box.frz AS.tidy AS.frzC
/-- Is anybody on a machine? -/
def liveL (l : List Int) : Bool := l.any fun x => decide (x ≠ -1)
def endK (p : List (List Int)) : Nat → Int
  | 0 => 0
  | k + 1 => if liveL ((p[k]?).getD []) = true then (k : Int) + 1 else endK p k
def endP (p : List (List Int)) : Int := endK p p.length
theorem endK_bd (p : List (List Int)) : ∀ k : Nat, 0 ≤ endK p k ∧ endK p k ≤ k
  | 0 => by simp [endK]
  | k + 1 => by
    have := endK_bd p k
    unfold endK
    split <;> omega
theorem end_c (p : List (List Int)) (hp : p.length ≤ 1000) (hl : ∀ l ∈ p, l.length ≤ 1000) : Gives Try.prog 69 [planP p] (.int .i64 (endP p)) := by
  obtain ⟨T, hT⟩ : ∃ T, T = endP p := ⟨_, rfl⟩
  rw [← hT]
  refine calls_of_awpS mixed L69_ok (Nat.le_of_ble_eq_true rfl) ?_
  simp [-getElem?_pos, L69, planP]
  refine awp_loopS (fun n τ => ∃ k : Nat, k ≤ p.length ∧ n = p.length - k ∧ τ = ⟨[(2, .pv (.int .i64 (endK p k))), (7, .pv (planP p)), (8, .pv (.int .i64 p.length)), (9, .pv (.int .i64 k))], []⟩)
    ⟨p.length, ⟨[(2, .pv (.int .i64 0)), (7, .pv (planP p)), (8, .pv (.int .i64 p.length)), (9, .pv (.int .i64 0))], []⟩, Sub.mk (by simp [planP]) (by simp), 0, Nat.zero_le _, rfl, rfl⟩ ?_
  rintro J hJ n τ ⟨k, hk, rfl, rfl⟩
  by_cases hlt : k < p.length
  · obtain ⟨l, hx⟩ : ∃ l, p[k]? = some l := ⟨p[k], List.getElem?_eq_getElem hlt⟩
    have hll := hl l (List.mem_of_getElem? hx)
    have hg : (p.map intsP)[k]? = some (.lst false 1 (l.map intP)) := by rw [List.getElem?_map, hx]; rfl
    have hw := wrapS (k := k) (by omega)
    have hround := hJ _ _ ⟨k + 1, hlt, rfl, rfl⟩
    have hb := endK_bd p k
    have hmx : (if endK p k < (k : Int) + 1 then (k : Int) + 1 else endK p k) = (k : Int) + 1 := by rw [if_pos (by omega)]
    have hmeas : p.length - (k + 1) < p.length - k := by omega
    have hstep : endK p (k + 1) = if liveL l = true then (k : Int) + 1 else endK p k := by simp [endK, hx]
    clear hJ
    generalize endK p (k + 1) = E2 at *
    generalize hE : endK p k = E at *
    simp [-getElem?_pos, -List.getElem?_map, planP, hlt, hg]
    refine awp_loopS (fun n τ => ∃ j : Nat, j ≤ l.length ∧ n = l.length - j ∧ (∀ (i : Nat) (x : Int), i < j → l[i]? = some x → x = -1) ∧ τ = ⟨[(2, .pv (.int .i64 E)), (3, .pv (.int .i64 k)), (7, .pv (planP p)), (8, .pv (.int .i64 p.length)), (9, .pv (.int .i64 k)), (14, .pv (intsP l)), (15, .pv (.int .i64 l.length)), (16, .pv (.int .i64 j))], []⟩)
      ⟨l.length, ⟨[(2, .pv (.int .i64 E)), (3, .pv (.int .i64 k)), (7, .pv (planP p)), (8, .pv (.int .i64 p.length)), (9, .pv (.int .i64 k)), (14, .pv (intsP l)), (15, .pv (.int .i64 l.length)), (16, .pv (.int .i64 0))], []⟩, Sub.mk (by simp [planP, intsP]) (by simp), 0, Nat.zero_le _, rfl, (fun i x hi => by omega), rfl⟩ ?_
    rintro J2 hJ2 n τ ⟨j, hj, rfl, hinv, rfl⟩
    by_cases hlt2 : j < l.length
    · obtain ⟨x, hx2⟩ : ∃ x, l[j]? = some x := ⟨l[j], List.getElem?_eq_getElem hlt2⟩
      have hg2 : (l.map intP)[j]? = some (.int .i64 x) := by rw [List.getElem?_map, hx2]; rfl
      have hw2 := wrapS (k := j) (by omega)
      by_cases hxn : x = -1
      · subst hxn
        have hround2 := hJ2 _ _ ⟨j + 1, hlt2, rfl, (fun i x hi hx => by
          rcases Nat.lt_succ_iff_lt_or_eq.1 hi with h | h
          · exact hinv i x h hx
          · subst h; rw [hx2] at hx; cases hx; rfl), rfl⟩
        simp [-getElem?_pos, -List.getElem?_map, planP, intsP, hlt2, hg2, hw2]
        exact ⟨_, _, (by omega : l.length - (j + 1) < l.length - j), Sub.mk (by simp [planP, intsP]) (by simp), hround2⟩
      · have hlive : liveL l = true := List.any_eq_true.2 ⟨x, List.mem_of_getElem? hx2, by simpa using hxn⟩
        rw [if_pos hlive] at hstep
        have hla : Gives Try.prog 74 [.lst false 1 [.int .i64 E, .int .i64 ((k : Int) + 1)]] (.int .i64 ((k : Int) + 1)) := by
          have := last2_c E ((k : Int) + 1)
          rwa [if_pos (by omega)] at this
        have hd : decide (x = -1) = false := by simpa using hxn
        rw [show ((k + 1 : Nat) : Int) = (k : Int) + 1 by omega] at hw
        clear hJ2
        simp [-getElem?_pos, -List.getElem?_map, planP, intsP, hlt2, hg2, hxn, hw]
        refine call_gives (k := 1) (fs := []) (xs := [.lst false 1 [.int .i64 E, .int .i64 ((k : Int) + 1)]]) (cs := []) rfl rfl hla rfl ?_
        simp [-getElem?_pos, hw]
        refine ⟨_, _, hmeas, Sub.mk ?_ ?_, hround⟩
        · simp [planP, hstep]
        · simp
    · have hlive : liveL l = false := by
        refine List.any_eq_false.2 (fun x hx => ?_)
        obtain ⟨i, hi⟩ := List.mem_iff_getElem?.1 hx
        have := hinv i x (by have := (List.getElem?_eq_some_iff.1 hi).1; omega) hi
        simp [this]
      rw [hlive, if_neg (by simp)] at hstep
      have he : j = l.length := by omega
      subst he
      clear hJ2
      simp [-getElem?_pos, -List.getElem?_map, planP, intsP, hw]
      refine ⟨_, _, hmeas, Sub.mk ?_ ?_, hround⟩
      · simp [planP, hstep]
      · simp
  · have he : k = p.length := by omega
    subst he
    have hE : endK p p.length = T := by rw [hT]; rfl
    simp [-getElem?_pos, -List.getElem?_map, hE]
/-- Is a place of a row right? a row? the rows? the hours of each run? -/
def Qu.cellB (q : Qu) (h : Nat) (l : List Int) (m : Nat) : Bool :=
  decide ((l[m]?).getD (-1) = -1) || (decide (0 ≤ (l[m]?).getD (-1)) && decide ((l[m]?).getD (-1) ≤ (q.rs.length : Int) - 1) && !(l.take m).contains ((l[m]?).getD (-1)) && q.may ((l[m]?).getD (-1)).toNat m h)
def Qu.rowB (q : Qu) (h : Nat) (l : List Int) : Bool := decide (l.length = q.ms.length) && (List.range l.length).all (q.cellB h l)
def Qu.rowsB (q : Qu) (p : List (List Int)) : Bool := (List.range p.length).all fun h => q.rowB h ((p[h]?).getD [])
def cnt (p : List (List Int)) (i : Nat) : Nat := (p.map (List.count (i : Int))).sum
def Qu.needB (q : Qu) (p : List (List Int)) : Bool := (List.range q.rs.length).all fun i => decide ((cnt p i : Int) = (q.run i).hours)
def Qu.right (q : Qu) (p : List (List Int)) : Bool := decide ((p.length : Int) ≤ 40) && q.rowsB p && q.needB p
theorem allR_false {n k : Nat} {f : Nat → Bool} (hk : k < n) (hf : f k = false) : (List.range n).all f = false := by
  rw [List.all_eq_false]; exact ⟨k, List.mem_range.2 hk, by simp [hf]⟩
theorem allR_true {n : Nat} {f : Nat → Bool} (hf : ∀ k, k < n → f k = true) : (List.range n).all f = true := by
  rw [List.all_eq_true]; exact fun k hk => hf k (List.mem_range.1 hk)
theorem Qu.row_len {q : Qu} {h : Nat} {l : List Int} (hl : l.length ≠ q.ms.length) : q.rowB h l = false := by simp [Qu.rowB, hl]
theorem Qu.row_cell {q : Qu} {h m : Nat} {l : List Int} (hm : m < l.length) (hc : q.cellB h l m = false) : q.rowB h l = false := by unfold Qu.rowB; rw [allR_false hm hc, Bool.and_false]
theorem Qu.right_row {q : Qu} {p : List (List Int)} {k : Nat} {l : List Int} (hk : p[k]? = some l) (hr : q.rowB k l = false) : q.right p = false := by
  have : q.rowsB p = false := allR_false (List.getElem?_eq_some_iff.1 hk).1 (by rw [hk]; exact hr)
  unfold Qu.right; rw [this, Bool.and_false, Bool.false_and]
/-- What each run has run. -/
def ranV (n : Nat) (f : Nat → Nat) : List PV := (List.range n).map fun i => .int .i64 (f i)
theorem ranV_get {n i : Nat} {f : Nat → Nat} (hi : i < n) : (ranV n f)[i]? = some (.int .i64 (f i)) := by simp [ranV, hi]
theorem ranV_len {n : Nat} {f : Nat → Nat} : (ranV n f).length = n := by simp [ranV]
theorem ranV_set {n i : Nat} {f g : Nat → Nat} (h : ∀ j, g j = if j = i then f i + 1 else f j) : (ranV n f).set i (.int .i64 ((f i : Int) + 1)) = ranV n g := by
  apply List.ext_getElem?
  intro j
  by_cases hj : j < n
  · rw [ranV_get hj]
    by_cases e : j = i
    · subst e
      rw [List.getElem?_set_self (by rw [ranV_len]; exact hj), h j, if_pos rfl]; rfl
    · rw [List.getElem?_set_ne (fun e' => e e'.symm), ranV_get hj, h j, if_neg e]
  · rw [List.getElem?_eq_none (by rw [List.length_set, ranV_len]; omega), List.getElem?_eq_none (by rw [ranV_len]; omega)]
/-- Who is on a machine at this hour. -/
def hereV (f : Nat → Bool) : List AV := (List.range 6).map fun i => .pv (.bool (f i))
theorem hereV_get {i : Nat} {f : Nat → Bool} (hi : i < 6) : (hereV f)[i]? = some (.pv (.bool (f i))) := by simp [hereV, hi]
theorem hereV_len {f : Nat → Bool} : (hereV f).length = 6 := by simp [hereV]
theorem hereV_set {i : Nat} {f g : Nat → Bool} (hi : i < 6) (h : ∀ j, g j = if j = i then true else f j) : splice (hereV f) i [.pv (.bool true)] = hereV g := by
  have hs : i + [AV.pv (.bool true)].length ≤ (hereV f).length := by rw [hereV_len]; simp; omega
  apply List.ext_getElem?
  intro j
  rw [splice_get hs]
  by_cases hj : j < 6
  · rw [hereV_get hj, hereV_get hj, h j]
    by_cases e : j = i
    · subst e; simp
    · rw [if_neg e]
      split
      · rfl
      · rw [if_neg (by simp; omega)]
  · have hn : ∀ f : Nat → Bool, (hereV f)[j]? = none := fun f => List.getElem?_eq_none (by rw [hereV_len]; omega)
    rw [hn g]
    split
    · omega
    · split
      · simp at *; omega
      · exact hn f
theorem cnt_bd {p : List (List Int)} {i : Nat} (h : ∀ l ∈ p, l.length ≤ 4) : cnt p i ≤ 4 * p.length := by
  induction p with
  | nil => simp [cnt]
  | cons l r ih =>
    have h1 := ih (fun x hx => h x (by simp [hx]))
    have h2 := h l (by simp)
    have h3 := List.count_le_length (a := (i : Int)) (l := l)
    have e : cnt (l :: r) i = l.count (i : Int) + cnt r i := by simp [cnt]
    rw [e, List.length_cons]; omega
theorem cnt_app (a b : List (List Int)) (i : Nat) : cnt (a ++ b) i = cnt a i + cnt b i := by simp [cnt]
theorem cnt_one (l : List Int) (i : Nat) : cnt [l] i = l.count (i : Int) := by simp [cnt]
theorem take_next {α : Type} {l : List α} {k : Nat} {x : α} (h : l[k]? = some x) : l.take (k + 1) = l.take k ++ [x] := by rw [List.take_add_one, h]; rfl
end Go.Proofs.Ytohhjnpiiackjaa
/-! Contracts of layer 10 (queue): is a plan right; ProvePlan. -/
namespace Go.Proofs.Ytohhjnpiiackjaa
open Go.RowKit
attribute [local simp] Box.purge Site.isLoc
set_option maxRecDepth 10000
set_option linter.unusedSimpArgs false
attribute [local simp] retFz frzL AS.frz AV.frz AV.frzL Box.frz AS.tidy AS.frzC
def hereF (l : List Int) (j i : Nat) : Bool := (l.take j).contains (i : Int)
def ranF (p : List (List Int)) (k : Nat) (l : List Int) (j i : Nat) : Nat := cnt (p.take k) i + (l.take j).count (i : Int)
theorem hereF_next {l : List Int} {j : Nat} {x : Int} (h : l[j]? = some x) (i : Nat) : hereF l (j + 1) i = (hereF l j i || decide ((i : Int) = x)) := by
  unfold hereF
  rw [take_next h, Bool.eq_iff_iff]
  simp
theorem ranF_next {p : List (List Int)} {k : Nat} {l : List Int} {j : Nat} {x : Int} (h : l[j]? = some x) (i : Nat) : ranF p k l (j + 1) i = if (i : Int) = x then ranF p k l j i + 1 else ranF p k l j i := by
  unfold ranF
  rw [take_next h, List.count_append, List.count_singleton]
  by_cases e : (i : Int) = x
  · subst e; simp; omega
  · have : (x == (i : Int)) = false := by simpa using fun h => e h.symm
    rw [this, if_neg e]; simp
theorem ranF_end {p : List (List Int)} {k : Nat} {l : List Int} (h : p[k]? = some l) : ranF p k l l.length = cnt (p.take (k + 1)) := by
  funext i
  unfold ranF
  rw [take_next h, cnt_app, cnt_one, List.take_length]
theorem ranF_0 {p : List (List Int)} {k : Nat} {l : List Int} : ranF p k l 0 = cnt (p.take k) := by funext i; simp [ranF]
def rgtO (q : Qu) (p : List (List Int)) (k : Nat) : AS := ⟨[(2, .ptr (.loc 2 0) 0), (5, .vec (.loc 19 0) 1 0 q.rs.length), (20, .pv (planP p)), (21, .pv (.int .i64 p.length)), (22, .pv (.int .i64 k))], [(.loc 19 0, .arr 3 1 (ranV q.rs.length (cnt (p.take k)))), (.loc 2 0, .cells q.cells)]⟩
def rgtI (q : Qu) (p : List (List Int)) (k : Nat) (l : List Int) (j : Nat) : AS := ⟨[(2, .ptr (.loc 2 0) 0), (5, .vec (.loc 19 0) 1 0 q.rs.length), (6, .pv (.int .i64 k)), (8, .ptr (.loc 8 0) 0), (20, .pv (planP p)), (21, .pv (.int .i64 p.length)), (22, .pv (.int .i64 k)), (33, .pv (intsP l)), (34, .pv (.int .i64 l.length)), (35, .pv (.int .i64 j))],
  [(.loc 8 0, .cells (hereV (hereF l j))), (.loc 19 0, .arr 3 1 (ranV q.rs.length (ranF p k l j))), (.loc 2 0, .cells q.cells)]⟩
set_option maxHeartbeats 4000000 in
theorem right_c (q : Qu) (hq : q.ok) (p : List (List Int)) (hp : p.length ≤ 1000) (hl : ∀ l ∈ p, l.length ≤ 1000) : Gives Try.prog 68 [q.pv, planP p] (.bool (q.right p)) := by
  obtain ⟨T, hT⟩ : ∃ T, T = q.right p := ⟨_, rfl⟩
  rw [← hT]
  have hqr := hq.r
  have hqm := hq.m
  refine calls_of_awpS mixed L68_ok (Nat.le_of_ble_eq_true rfl) ?_
  by_cases h40 : p.length ≤ 40
  · have d40 : decide ((40 : Int) < (p.length : Int)) = false := by simp; omega
    have hR6 : q.rs.length ≤ 1000000 := by omega
    simp [-getElem?_pos, -List.getElem?_map, -decide_eq_true_eq, -decide_eq_false_iff_not, L68, Qu.pv, planP, d40, nble, hR6]
    refine awp_loopS (fun n τ => ∃ k : Nat, k ≤ p.length ∧ n = p.length - k ∧ (∀ (h : Nat) (l : List Int), h < k → p[h]? = some l → q.rowB h l = true) ∧ τ = rgtO q p k)
      ⟨p.length, rgtO q p 0, Sub.mk (by simp [planP]) (by simp [Qu.cells, ranV, cnt]; apply List.ext_getElem? ; intro i; by_cases hi : i < q.rs.length <;> simp [hi]), 0, Nat.zero_le _, rfl, (fun h l hh => by omega), rfl⟩ ?_
    rintro J hJ n τ ⟨k, hk, rfl, hinv, rfl⟩
    by_cases hlt : k < p.length
    · obtain ⟨l, hx⟩ : ∃ l, p[k]? = some l := ⟨p[k], List.getElem?_eq_getElem hlt⟩
      have hg : (p.map intsP)[k]? = some (.lst false 1 (l.map intP)) := by rw [List.getElem?_map, hx]; rfl
      have hw := wrapS (k := k) (by omega)
      by_cases hll : l.length = q.ms.length
      · have hdl : ((l.length : Int) = (q.ms.length : Int)) := by omega
        have hmeas : p.length - (k + 1) < p.length - k := by omega
        have hcb : ∀ i, cnt (p.take k) i ≤ 160 := fun i => by
          have := cnt_bd (p := p.take k) (i := i) (fun x hx => by
            obtain ⟨h, hh⟩ := List.mem_iff_getElem?.1 hx
            rw [List.getElem?_take] at hh
            split at hh
            · rename_i hhk
              have := hinv h x hhk hh
              simp only [Qu.rowB, Bool.and_eq_true, decide_eq_true_eq] at this
              omega
            · cases hh)
          rw [List.length_take] at this
          omega
        have hnext : q.rowB k l = true → J (p.length - (k + 1)) (rgtO q p (k + 1)) := fun hr => hJ _ _ ⟨k + 1, hlt, rfl, (fun h l' hh hl' => by
          rcases Nat.lt_succ_iff_lt_or_eq.1 hh with h' | h'
          · exact hinv h l' h' hl'
          · subst h'; rw [hx] at hl'; cases hl'; exact hr), rfl⟩
        have hfail : ∀ j, j < l.length → q.cellB k l j = false → T = false := fun j hj hc => by rw [hT]; exact Qu.right_row hx (Qu.row_cell hj hc)
        clear hJ hT
        simp [-getElem?_pos, -List.getElem?_map, -decide_eq_true_eq, rgtO, planP, hlt, hg, Qu.cells, hll]
        refine awp_loopS (fun n τ => ∃ j : Nat, j ≤ l.length ∧ n = l.length - j ∧ (∀ i, i < j → q.cellB k l i = true) ∧ τ = rgtI q p k l j)
          ⟨l.length, rgtI q p k l 0, Sub.mk (by simp [planP, intsP, hll]) (by simp [Qu.cells, ranF_0]; rfl), 0, Nat.zero_le _, rfl, (fun i hi => by omega), rfl⟩ ?_
        rintro J2 hJ2 n τ ⟨j, hj, rfl, hinv2, rfl⟩
        by_cases hlt2 : j < l.length
        · obtain ⟨x, hx2⟩ : ∃ x, l[j]? = some x := ⟨l[j], List.getElem?_eq_getElem hlt2⟩
          have hg2 : (l.map intP)[j]? = some (.int .i64 x) := by rw [List.getElem?_map, hx2]; rfl
          have hw2 := wrapS (k := j) (by omega)
          have hwR : IntKind.i64.wrap ((q.rs.length : Int) - 1) = (q.rs.length : Int) - 1 := wrap64 (by omega)
          have hnext2 : q.cellB k l j = true → J2 (l.length - (j + 1)) (rgtI q p k l (j + 1)) := fun hc => hJ2 _ _ ⟨j + 1, hlt2, rfl, (fun i hi => by
            rcases Nat.lt_succ_iff_lt_or_eq.1 hi with h | h
            · exact hinv2 i h
            · subst h; exact hc), rfl⟩
          have hmeas2 : l.length - (j + 1) < l.length - j := by omega
          have hcell : q.cellB k l j = (decide (x = -1) || (decide (0 ≤ x) && decide (x ≤ (q.rs.length : Int) - 1) && !(l.take j).contains x && q.may x.toNat j k)) := by simp [Qu.cellB, hx2]
          have hF := hfail j hlt2
          have htk := take_next hx2
          have hh := hereF_next hx2
          have hr := ranF_next (p := p) (k := k) hx2
          have hcj := fun i : Nat => show ranF p k l j i ≤ 1000000 by
            have h1 := hcb i
            have h2 := List.count_le_length (a := (i : Int)) (l := l.take j)
            rw [List.length_take] at h2
            unfold ranF; omega
          have hcon : (l.take j).contains x = (decide (0 ≤ x) && hereF l j x.toNat) ∨ ¬ 0 ≤ x := by
            by_cases hx0 : 0 ≤ x
            · left
              unfold hereF
              rw [show ((x.toNat : Nat) : Int) = x by omega]; simp [hx0]
            · exact .inr hx0
          clear hJ2 hinv2 hfail hnext hinv
          by_cases hxn : x = -1
          · subst hxn
            have hround2 := hnext2 (by rw [hcell]; rfl)
            have e1 : hereF l (j + 1) = hereF l j := by
              funext i; rw [hh i]
              have : ¬ ((i : Int) = -1) := by omega
              simp [this]
            have e2 : ranF p k l (j + 1) = ranF p k l j := by
              funext i; rw [hr i, if_neg (by omega)]
            simp [-getElem?_pos, -List.getElem?_map, rgtI, intsP, hlt2, hg2, hw2]
            refine ⟨_, _, hmeas2, Sub.mk ?_ ?_, hround2⟩
            · simp [intsP]
            · simp [e1, e2]
          · have hd : decide (x = -1) = false := by simpa using hxn
            have hwi := within_c x 0 ((q.rs.length : Int) - 1)
            simp [-getElem?_pos, -List.getElem?_map, -decide_eq_true_eq, rgtI, intsP, Qu.cells, hlt2, hg2, hxn, hwR]
            refine call_gives (k := 0) (fs := []) (cs := []) rfl rfl hwi rfl ?_
            clear hwi
            cases hin : (decide (0 ≤ x) && decide (x ≤ (q.rs.length : Int) - 1))
            · have hTF := hF (by rw [hcell, hd, hin]; rfl)
              simp [-getElem?_pos, -List.getElem?_map, -decide_eq_true_eq, hTF]
            · simp only [Bool.and_eq_true, decide_eq_true_eq] at hin
              obtain ⟨i, rfl⟩ : ∃ i : Nat, x = i := ⟨x.toNat, by omega⟩
              have hi : i < q.rs.length := by omega
              have hi6 : i < 6 := by omega
              have hi5 : i ≤ 5 := by omega
              have hcon' : (l.take j).contains (i : Int) = hereF l j i := rfl
              have hgh := hereV_get (f := hereF l j) hi6
              have hgr := ranV_get (f := ranF p k l j) hi
              have hrl := ranV_len (n := q.rs.length) (f := ranF p k l j)
              have hi1 : (i : Int) < 6 := by omega
              have hi2 : (i : Int) < (q.rs.length : Int) := by omega
              cases hhe : hereF l j i
              · have hmay := may_c q hq i j k hi (by omega)
                simp [-getElem?_pos, -List.getElem?_map, -decide_eq_true_eq, hgh, hhe, hi6, hi1, nblt]
                refine call_gives (k := 0) (fs := []) (xs := [q.pv, .int .i64 i, .int .i64 j, .int .i64 k]) (cs := []) rfl rfl hmay rfl ?_
                cases hm : q.may i j k
                · have hTF := hF (by rw [hcell, hd, hcon', hhe]; simp [hm])
                  simp [-getElem?_pos, -List.getElem?_map, -decide_eq_true_eq, hTF]
                · have hround2 := hnext2 (by rw [hcell, hcon', hhe]; simp [hm, hin.1, hin.2])
                  have hs1 := hereV_set (f := hereF l j) (g := hereF l (j + 1)) hi6 (fun i' => by
                    rw [hh i']
                    by_cases e : i' = i
                    · subst e; simp
                    · have : ¬ ((i' : Int) = (i : Int)) := by omega
                      simp [e, this])
                  have hs2 := ranV_set (n := q.rs.length) (i := i) (f := ranF p k l j) (g := ranF p k l (j + 1)) (fun i' => by
                    rw [hr i']
                    by_cases e : i' = i
                    · subst e; simp
                    · have : ¬ ((i' : Int) = (i : Int)) := by omega
                      simp [e, this])
                  have hwi : IntKind.i64.wrap ((ranF p k l j i : Int) + 1) = (ranF p k l j i : Int) + 1 := by
                    have := hcj i
                    exact wrap64 (by omega)
                  have hhl := hereV_len (f := hereF l j)
                  clear hgh
                  simp [-getElem?_pos, -List.getElem?_map, -decide_eq_true_eq, -splice, hi6, hi5, hi1, hi, hi2, hgr, hrl, hwi, hw2, hs1, hs2, hhl, nble, nblt, setAt]
                  refine ⟨_, _, hmeas2, Sub.mk ?_ ?_, hround2⟩
                  · simp [intsP]
                  · simp [Qu.cells]
              · have hTF := hF (by rw [hcell, hd, hcon', hhe]; simp)
                simp [-getElem?_pos, -List.getElem?_map, -decide_eq_true_eq, hgh, hhe, hTF, hi6, hi1, nblt]
        · have he : j = l.length := by omega
          have hrow : q.rowB k l = true := by
            unfold Qu.rowB
            rw [allR_true (fun i hi => hinv2 i (by omega))]
            simp [hll]
          have hround := hnext hrow
          have e2 := ranF_end hx
          subst he
          clear hJ2 hnext hfail
          simp [-getElem?_pos, -List.getElem?_map, -decide_eq_true_eq, rgtI, intsP, Qu.cells, hw]
          refine ⟨_, _, hmeas, Sub.mk ?_ ?_, hround⟩
          · simp [planP]
          · simp [e2, Qu.cells]
      · have hTF : T = false := by rw [hT]; exact Qu.right_row hx (Qu.row_len hll)
        have hdl : decide ((l.length : Int) = (q.ms.length : Int)) = false := by simp; omega
        have hdl' : ¬ ((l.length : Int) = (q.ms.length : Int)) := by omega
        simp [-getElem?_pos, -List.getElem?_map, rgtO, planP, hlt, hg, hdl, hdl', hll, Qu.cells, hTF]
    · have he : k = p.length := by omega
      subst he
      have hrows : q.rowsB p = true := allR_true (fun h hh => by
        obtain ⟨l, hl'⟩ : ∃ l, p[h]? = some l := ⟨p[h], List.getElem?_eq_getElem hh⟩
        rw [hl']; exact hinv h l hh hl')
      have hTn : T = q.needB p := by
        have : ((p.length : Int) ≤ 40) := by omega
        rw [hT]; simp [Qu.right, hrows, this]
      clear hJ hinv hT hrows
      simp [-getElem?_pos, -List.getElem?_map, -decide_eq_true_eq, rgtO, planP, Qu.cells]
      refine awp_loopS (fun n τ => ∃ k : Nat, k ≤ q.rs.length ∧ n = q.rs.length - k ∧ (∀ i, i < k → decide ((cnt p i : Int) = (q.run i).hours) = true) ∧ τ = ⟨[(2, .ptr (.loc 2 0) 0), (72, .vec (.loc 19 0) 1 0 q.rs.length), (73, .pv (.int .i64 q.rs.length)), (74, .pv (.int .i64 k))], [(.loc 19 0, .arr 3 1 (ranV q.rs.length (cnt p))), (.loc 2 0, .cells q.cells)]⟩)
        ⟨q.rs.length, ⟨[(2, .ptr (.loc 2 0) 0), (72, .vec (.loc 19 0) 1 0 q.rs.length), (73, .pv (.int .i64 q.rs.length)), (74, .pv (.int .i64 0))], [(.loc 19 0, .arr 3 1 (ranV q.rs.length (cnt p))), (.loc 2 0, .cells q.cells)]⟩, Sub.mk (by simp) (by simp [Qu.cells]), 0, Nat.zero_le _, rfl, (fun i hi => by omega), rfl⟩ ?_
      rintro J hJ n τ ⟨k, hk, rfl, hinv, rfl⟩
      by_cases hlt : k < q.rs.length
      · obtain ⟨r, hr⟩ : ∃ r, q.rs[k]? = some r := ⟨q.rs[k], List.getElem?_eq_getElem hlt⟩
        have hg : (q.rs.map Rq.pv)[k]? = some (.agg [.int .i64 r.hours, .int .i64 r.ready, onP r.on]) := by rw [List.getElem?_map, hr]; rfl
        have hrun : q.run k = r := by simp [Qu.run, hr]
        have hw := wrapS (k := k) (by omega)
        have hgr := ranV_get (f := cnt p) hlt
        have hrl := ranV_len (n := q.rs.length) (f := cnt p)
        have hlt' : (k : Int) < (q.rs.length : Int) := by omega
        by_cases hc : (cnt p k : Int) = r.hours
        · have hround := hJ _ _ ⟨k + 1, hlt, rfl, (fun i hi => by
            rcases Nat.lt_succ_iff_lt_or_eq.1 hi with h | h
            · exact hinv i h
            · subst h; rw [hrun]; simpa using hc), rfl⟩
          simp [-getElem?_pos, -List.getElem?_map, -decide_eq_true_eq, Qu.cells, hlt, hlt', hg, hgr, hrl, hw, hc, nblt]
          exact ⟨_, _, (by omega : q.rs.length - (k + 1) < q.rs.length - k), Sub.mk (by simp) (by simp [Qu.cells]), hround⟩
        · have hTF : T = false := by
            rw [hTn]; exact allR_false hlt (by rw [hrun]; simpa using hc)
          simp [-getElem?_pos, -List.getElem?_map, -decide_eq_true_eq, Qu.cells, hlt, hlt', hg, hgr, hrl, hw, hc, hTF, nblt]
      · have hTT : T = true := by rw [hTn]; exact allR_true (fun i hi => hinv i (by omega))
        have he : k = q.rs.length := by omega
        subst he
        simp [-getElem?_pos, -List.getElem?_map, hTT]
  · have d40 : decide ((40 : Int) < (p.length : Int)) = true := by simp; omega
    have hTF : T = false := by
      have : ¬ ((p.length : Int) ≤ 40) := by omega
      rw [hT]; simp [Qu.right, this]
    simp [-getElem?_pos, -decide_eq_true_eq, -decide_eq_false_iff_not, L68, Qu.pv, planP, d40, hTF]
end Go.Proofs.Ytohhjnpiiackjaa
/-! Contracts of layer 10: ProvePlan; the reference's May, IsPlan, End. -/
namespace Go.Proofs.Ytohhjnpiiackjaa
open Go.RowKit
attribute [local simp] Box.purge Site.isLoc
set_option maxRecDepth 10000
set_option linter.unusedSimpArgs false
attribute [local simp] retFz frzL AS.frz AV.frz AV.frzL Box.frz AS.tidy AS.frzC
def Qu.proves (q : Qu) (p : List (List Int)) (e : Int) : Bool := decide (q.check = 0) && q.right p && decide (endP p ≤ e)
theorem proves_c (q : Qu) (h1 : q.ms.length ≤ 1000000) (h2 : q.rs.length ≤ 1000000) (h3 : ∀ l ∈ q.ms, l.length ≤ 1000000) (p : List (List Int)) (hp : p.length ≤ 1000) (hl : ∀ l ∈ p, l.length ≤ 1000) (e : Int) : Gives Try.prog 37 [q.pv, planP p, .int .i64 e] (.bool (q.proves p e)) := by
  refine calls_of_awpS mixed L37_ok (Nat.le_of_ble_eq_true rfl) ?_
  simp [-getElem?_pos, L37, Qu.pv]
  refine call_gives (k := 0) (fs := []) (xs := [q.pv]) (cs := []) rfl rfl (check_c q h1 h2 h3) rfl ?_
  by_cases hc : q.check = 0
  · simp [-getElem?_pos, hc]
    refine call_gives (k := 0) (fs := []) (xs := [q.pv, planP p]) (cs := []) rfl rfl (right_c q (Qu.ok_of hc) p hp hl) rfl ?_
    cases hr : q.right p
    · simp [-getElem?_pos, Qu.proves, hr]
    · simp [-getElem?_pos]
      refine call_gives (k := 0) (fs := []) (xs := [planP p]) (cs := []) rfl rfl (end_c p hp hl) rfl ?_
      simp [-getElem?_pos, Qu.proves, hr, hc]
  · simp [-getElem?_pos, hc, Qu.proves]
end Go.Proofs.Ytohhjnpiiackjaa
/-! Contracts of layer 10's reference: IsPlan. -/
namespace Go.Proofs.Ytohhjnpiiackjaa
open Go.RowKit
attribute [local simp] Box.purge Site.isLoc
set_option maxRecDepth 10000
set_option linter.unusedSimpArgs false
attribute [local simp] retFz frzL AS.frz AV.frz AV.frzL Box.frz AS.tidy AS.frzC
end Go.Proofs.Ytohhjnpiiackjaa
/-! Contracts of layer 10's reference: End, Lost, Ran, Rising. -/
namespace Go.Proofs.Ytohhjnpiiackjaa
open Go.RowKit
attribute [local simp] Box.purge Site.isLoc
set_option maxRecDepth 10000
set_option linter.unusedSimpArgs false
attribute [local simp] retFz frzL AS.frz AV.frz AV.frzL Box.frz AS.tidy AS.frzC
def lostB (ls : List Ls) (m h : Int) : Bool := ls.any fun x => decide (x.m = m) && decide (x.h = h)
/-- For how many hours before one a run was on machines, losses apart. -/
def ranRow (run : Int) (ls : List Ls) (h : Nat) (l : List Int) : Nat → Nat
  | 0 => 0
  | j + 1 => if (l[j]?).getD (-1) = run ∧ lostB ls j h = false then ranRow run ls h l j + 1 else ranRow run ls h l j
def ranP (run : Int) (ls : List Ls) (p : List (List Int)) : Nat → Nat
  | 0 => 0
  | k + 1 => ranP run ls p k + ranRow run ls k ((p[k]?).getD []) ((p[k]?).getD []).length
theorem ranRow_bd (run : Int) (ls : List Ls) (h : Nat) (l : List Int) : ∀ j, ranRow run ls h l j ≤ j
  | 0 => by simp [ranRow]
  | j + 1 => by
    have := ranRow_bd run ls h l j
    unfold ranRow; split <;> omega
theorem ranP_bd {p : List (List Int)} (hl : ∀ l ∈ p, l.length ≤ 1000) (run : Int) (ls : List Ls) : ∀ k, ranP run ls p k ≤ 1000 * k
  | 0 => by simp [ranP]
  | k + 1 => by
    have h1 := ranP_bd hl run ls k
    have h2 := ranRow_bd run ls k ((p[k]?).getD []) ((p[k]?).getD []).length
    have h3 : ((p[k]?).getD []).length ≤ 1000 := by
      cases h : p[k]? with
      | none => simp
      | some l => exact hl l (List.mem_of_getElem? h)
    unfold ranP; omega
/-- Are numbers those of runs, rising? -/
def Qu.risAt (q : Qu) (l : List Int) (i : Nat) : Bool := decide (0 ≤ (l[i]?).getD (-1)) && decide ((l[i]?).getD (-1) ≤ (q.rs.length : Int) - 1) && (decide (i = 0) || decide ((l[i - 1]?).getD (-1) < (l[i]?).getD (-1)))
def Qu.rising (q : Qu) (l : List Int) : Bool := (List.range l.length).all (q.risAt l)
end Go.Proofs.Ytohhjnpiiackjaa
/-! Contracts of layer 10 (queue): copies, losses. -/
namespace Go.Proofs.Ytohhjnpiiackjaa
open Go.RowKit
attribute [local simp] Box.purge Site.isLoc
set_option maxRecDepth 10000
set_option linter.unusedSimpArgs false
attribute [local simp] retFz frzL AS.frz AV.frz AV.frzL Box.frz AS.tidy AS.frzC
theorem cloneR_c (l : List Rg) (hl : l.length ≤ 1000000) : Gives Try.prog 73 [rgsP l] (rgsP l) := by
  refine CallsA.weak2 ?_
  refine calls_of_awpF [.loc 7 0] mixed L73_ok (Nat.le_of_ble_eq_true rfl) ?_
  cases l with
  | nil =>
    simp [-getElem?_pos, L73, rgsP, nilOf, maybeNil, nble, opWp, osel]
    exact fun m v h => emp_lst h
  | cons a l =>
    have h1 : l.length + 1 ≤ 1000000 := by simpa using hl
    have hm : (l.map Rg.pv).take l.length = l.map Rg.pv := List.take_of_length_le (by simp)
    simp [-getElem?_pos, L73, rgsP, nilOf, nble, h1, hm]
theorem cloneB_c (l : List Bool) (hl : l.length ≤ 1000000) : Gives Try.prog 75 [onP l] (onP l) := by
  refine CallsA.weak2 ?_
  refine calls_of_awpF [.loc 7 0] mixed L75_ok (Nat.le_of_ble_eq_true rfl) ?_
  cases l with
  | nil =>
    simp [-getElem?_pos, L75, onP, nilOf, maybeNil, nble, opWp, osel]
    exact fun m v h => emp_lst h
  | cons a l =>
    have h1 : l.length + 1 ≤ 1000000 := by simpa using hl
    have hm : (l.map PV.bool).take l.length = l.map PV.bool := List.take_of_length_le (by simp)
    simp [-getElem?_pos, L75, onP, nilOf, nble, h1, hm]
theorem cloneI_c (l : List Int) (hl : l.length ≤ 1000000) : Gives Try.prog 62 [intsP l] (intsP l) := by
  refine CallsA.weak2 ?_
  refine calls_of_awpF [.loc 7 0] mixed L62_ok (Nat.le_of_ble_eq_true rfl) ?_
  cases l with
  | nil =>
    simp [-getElem?_pos, L62, intsP, nilOf, maybeNil, nble, opWp, osel]
    exact fun m v h => emp_lst h
  | cons a l =>
    have h1 : l.length + 1 ≤ 1000000 := by simpa using hl
    have hm : (l.map intP).take l.length = l.map intP := List.take_of_length_le (by simp)
    simp [-getElem?_pos, L62, intsP, nilOf, nble, h1, hm]
theorem ixLoss_c (ls : List Ls) (hl : ls.length ≤ 1000) (m h : Int) : Gives Try.prog 94 [lossP ls, .agg [.int .i64 m, .int .i64 h]] (.int .i64 (match ls.findIdx? (fun x => decide (m = x.m) && decide (h = x.h)) with | some i => i | none => -1)) := by
  refine calls_of_awpS mixed L94_ok (Nat.le_of_ble_eq_true rfl) ?_
  simp [-getElem?_pos, L94, lossP]
  refine awp_loopS (fun n τ => ∃ k : Nat, k ≤ ls.length ∧ n = ls.length - k ∧ (∀ (j : Nat) (x : Ls), j < k → ls[j]? = some x → (decide (m = x.m) && decide (h = x.h)) = false) ∧ τ = ⟨[(0, .pv (lossP ls)), (3, .ptr (.loc 3 0) 0), (7, .pv (.int .i64 ls.length)), (8, .pv (.int .i64 k))], [(.loc 3 0, .cells [.pv (.int .i64 m), .pv (.int .i64 h)])]⟩)
    ⟨ls.length, ⟨[(0, .pv (lossP ls)), (3, .ptr (.loc 3 0) 0), (7, .pv (.int .i64 ls.length)), (8, .pv (.int .i64 0))], [(.loc 3 0, .cells [.pv (.int .i64 m), .pv (.int .i64 h)])]⟩, Sub.mk (by simp [lossP]) (by simp), 0, Nat.zero_le _, rfl, (fun j x hj => by omega), rfl⟩ ?_
  rintro J hJ n τ ⟨k, hk, rfl, hinv, rfl⟩
  by_cases hlt : k < ls.length
  · obtain ⟨x, hx⟩ : ∃ l, ls[k]? = some l := ⟨ls[k], List.getElem?_eq_getElem hlt⟩
    have hg : (ls.map Ls.pv)[k]? = some (.agg [.int .i64 x.m, .int .i64 x.h]) := by rw [List.getElem?_map, hx]; rfl
    have hw := wrapS (k := k) (by omega)
    have hmeas : ls.length - (k + 1) < ls.length - k := by omega
    have hnext : (decide (m = x.m) && decide (h = x.h)) = false → J (ls.length - (k + 1)) _ := fun hc => hJ _ _ ⟨k + 1, hlt, rfl, (fun j y hj hy => by
      rcases Nat.lt_succ_iff_lt_or_eq.1 hj with h | h
      · exact hinv j y h hy
      · subst h; rw [hx] at hy; cases hy; exact hc), rfl⟩
    have hfound : (decide (m = x.m) && decide (h = x.h)) = true → ls.findIdx? (fun x => decide (m = x.m) && decide (h = x.h)) = some k := fun hc => by
      rw [List.findIdx?_eq_some_iff_getElem]
      refine ⟨hlt, by rw [(List.getElem?_eq_some_iff.1 hx).2]; exact hc, fun j hj => ?_⟩
      have := hinv j ls[j] hj (List.getElem?_eq_getElem (by omega))
      simpa using this
    clear hJ hinv
    by_cases h1 : m = x.m
    · by_cases h2 : h = x.h
      · have := hfound (by simp [h1, h2])
        rw [this]
        simp [-getElem?_pos, -List.getElem?_map, lossP, hlt, hg, h1, h2]
      · have hround := hnext (by simp [h2])
        have hb : (h == x.h) = false := by simpa using h2
        simp [-getElem?_pos, -List.getElem?_map, lossP, hlt, hg, h1, h2, hw, hb]
        exact ⟨_, _, hmeas, Sub.mk (by simp [lossP]) (by simp [h1]), hround⟩
    · have hround := hnext (by simp [h1])
      have hb : (m == x.m) = false := by simpa using h1
      simp [-getElem?_pos, -List.getElem?_map, lossP, hlt, hg, h1, hw, hb]
      exact ⟨_, _, hmeas, Sub.mk (by simp [lossP]) (by simp), hround⟩
  · have hno : ls.findIdx? (fun x => decide (m = x.m) && decide (h = x.h)) = none := by
      rw [List.findIdx?_eq_none_iff]
      intro x hx
      obtain ⟨j, hj⟩ := List.mem_iff_getElem?.1 hx
      exact hinv j x (by have := (List.getElem?_eq_some_iff.1 hj).1; omega) hj
    have he : k = ls.length := by omega
    subst he
    rw [hno]
    simp [-getElem?_pos, -List.getElem?_map, lossP]
theorem hasLoss_c (ls : List Ls) (hl : ls.length ≤ 1000) (m h : Int) : Gives Try.prog 76 [lossP ls, .agg [.int .i64 m, .int .i64 h]] (.bool (lostB ls m h)) := by
  refine calls_of_awpS mixed L76_ok (Nat.le_of_ble_eq_true rfl) ?_
  simp [-getElem?_pos, L76]
  refine call_gives (k := 0) (fs := []) (cs := []) rfl rfl (ixLoss_c ls hl m h) rfl ?_
  cases hf : ls.findIdx? (fun x => decide (m = x.m) && decide (h = x.h)) with
  | none =>
    have : lostB ls m h = false := by
      rw [List.findIdx?_eq_none_iff] at hf
      refine List.any_eq_false.2 (fun x hx => ?_)
      have := hf x hx
      simp only [Bool.and_eq_false_iff, decide_eq_false_iff_not] at this
      simp only [Bool.and_eq_true, decide_eq_true_eq, not_and]
      intro h1 h2
      rcases this with h | h
      · exact h h1.symm
      · exact h h2.symm
    simp [this]
  | some i =>
    have : lostB ls m h = true := by
      obtain ⟨hi, h1, _⟩ := List.findIdx?_eq_some_iff_getElem.1 hf
      simp only [Bool.and_eq_true, decide_eq_true_eq] at h1
      exact List.any_eq_true.2 ⟨_, List.getElem_mem hi, by simp [h1.1.symm, h1.2.symm]⟩
    simp [this]
/-- Is a loss one of a machine, at an hour? -/
def Qu.lossB (q : Qu) (x : Ls) : Bool := decide (0 ≤ x.m) && decide (x.m ≤ (q.ms.length : Int) - 1) && hourB x.h
theorem loss1_c (q : Qu) (hq : q.ms.length ≤ 1000) (x : Ls) : Gives Try.prog 70 [x.pv, .ref [.lst false 1 (q.ms.map rgsP), .lst false 3 (q.rs.map Rq.pv)]] (.bool (q.lossB x)) := by
  have hwR : IntKind.i64.wrap ((q.ms.length : Int) - 1) = (q.ms.length : Int) - 1 := wrap64 (by omega)
  refine calls_of_awpS mixed L70_ok (Nat.le_of_ble_eq_true rfl) ?_
  simp [-getElem?_pos, L70, Ls.pv, hwR]
  refine call_gives (k := 0) (fs := []) (cs := []) rfl rfl (within_c x.m 0 ((q.ms.length : Int) - 1)) rfl ?_
  have e : q.lossB x = ((decide (0 ≤ x.m) && decide (x.m ≤ (q.ms.length : Int) - 1)) && hourB x.h) := rfl
  cases h1 : (decide (0 ≤ x.m) && decide (x.m ≤ (q.ms.length : Int) - 1))
  · rw [h1] at e
    simp [e]
  · rw [h1, Bool.true_and] at e
    simp [-decide_eq_true_eq]
    refine call_gives (k := 0) (fs := []) (cs := []) rfl rfl (hour_c x.h) rfl ?_
    simp [e]
def lossQ (q : Qu) : PV → Bool
  | .agg [.int _ a, .int _ b] => q.lossB ⟨a, b⟩
  | _ => true
theorem allLoss_c (q : Qu) (hq : q.ms.length ≤ 1000) (ls : List Ls) (hl : ls.length ≤ 1000) : Gives Try.prog 72 [lossP ls, .fn 70 [] [.ref [.lst false 1 (q.ms.map rgsP), .lst false 3 (q.rs.map Rq.pv)]]] (.bool (ls.all q.lossB)) := by
  have h := allLs_c (ls.map Ls.pv) 70 [] [.ref [.lst false 1 (q.ms.map rgsP), .lst false 3 (q.rs.map Rq.pv)]] (lossQ q) (fun x hx => by
    obtain ⟨r, _, rfl⟩ := List.mem_map.1 hx
    exact loss1_c q hq r) (by simp; omega) (fun x hx => by
    obtain ⟨r, _, rfl⟩ := List.mem_map.1 hx
    exact ⟨_, _, rfl⟩)
  have e : (ls.map Ls.pv).all (lossQ q) = ls.all q.lossB := by rw [List.all_map]; rfl
  rw [e] at h
  exact h
end Go.Proofs.Ytohhjnpiiackjaa
/-! Contracts of layer 10 (queue): Rest. -/
namespace Go.Proofs.Ytohhjnpiiackjaa
open Go.RowKit
attribute [local simp] Box.purge Site.isLoc
set_option maxRecDepth 10000
set_option linter.unusedSimpArgs false
attribute [local simp] retFz frzL AS.frz AV.frz AV.frzL Box.frz AS.tidy AS.frzC
/-- What is left of a run. -/
def Qu.rstRun (q : Qu) (fr : Int) (f : Nat → Nat) (i : Nat) : Rq := ⟨(q.run i).hours - f i, if fr > (q.run i).ready then fr else (q.run i).ready, (q.run i).on⟩
def rstV (q : Qu) (fr : Int) (f : Nat → Nat) : List PV := (List.range q.rs.length).map fun i => (q.rstRun fr f i).pv
theorem rstV_get {q : Qu} {fr : Int} {f : Nat → Nat} {i : Nat} (hi : i < q.rs.length) : (rstV q fr f)[i]? = some (.agg [.int .i64 ((q.run i).hours - f i), .int .i64 (if fr > (q.run i).ready then fr else (q.run i).ready), onP (q.run i).on]) := by simp [rstV, hi, Qu.rstRun, Rq.pv]
theorem rstV_len {q : Qu} {fr : Int} {f : Nat → Nat} : (rstV q fr f).length = q.rs.length := by simp [rstV]
theorem rstV_set {q : Qu} {fr : Int} {i : Nat} {f g : Nat → Nat} (h : ∀ j, g j = if j = i then f i + 1 else f j) : (rstV q fr f).set i (.agg [.int .i64 ((q.run i).hours - f i - 1), .int .i64 (if fr > (q.run i).ready then fr else (q.run i).ready), onP (q.run i).on]) = rstV q fr g := by
  apply List.ext_getElem?
  intro j
  by_cases hj : j < q.rs.length
  · rw [rstV_get hj]
    by_cases e : j = i
    · subst e
      rw [List.getElem?_set_self (by rw [rstV_len]; exact hj), h j, if_pos rfl]
      rw [show (q.run j).hours - (f j : Int) - 1 = (q.run j).hours - ((f j + 1 : Nat) : Int) by omega]
    · rw [List.getElem?_set_ne (fun e' => e e'.symm), rstV_get hj, h j, if_neg e]
  · rw [List.getElem?_eq_none (by rw [List.length_set, rstV_len]; omega), List.getElem?_eq_none (by rw [rstV_len]; omega)]
/-- The rest of a queue; its error. -/
def Qu.rest (q : Qu) (p : List (List Int)) (fr : Nat) (ls : List Ls) : Qu := ⟨q.ms, (List.range q.rs.length).map fun i => q.rstRun fr (fun i => ranP i ls p (min fr p.length)) i⟩
def rstS (q : Qu) (p : List (List Int)) (fr : Nat) (ls : List Ls) : List (Nat × AV) := [(1, .pv (planP p)), (2, .pv (.int .i64 fr)), (3, .pv (lossP ls)), (4, .ptr (.loc 4 0) 0), (8, .ptr (.loc 8 0) 0), (12, .ptr (.loc 12 0) 0)]
def rstX (q : Qu) : List (Site × Box) := [(.loc 4 0, .cells q.cells), (.loc 8 0, .cells [.pv (.emp (some true)), .pv (.emp (some true))])]
def rstA (q : Qu) (p : List (List Int)) (fr : Nat) (ls : List Ls) (k : Nat) : AS := ⟨(45, .pv (.lst false 1 (q.ms.map rgsP))) :: (46, .pv (.int .i64 q.ms.length)) :: (47, .pv (.int .i64 k)) :: rstS q p fr ls, (.loc 56 0, .arr 78 1 ((q.ms.take k).map rgsP)) :: (.loc 12 0, .cells [.vec (.loc 56 0) 1 0 k, .pv (.emp (some true))]) :: rstX q⟩
def rstB (q : Qu) (p : List (List Int)) (fr : Nat) (ls : List Ls) (k : Nat) : AS := ⟨(60, .pv (.lst false 3 (q.rs.map Rq.pv))) :: (61, .pv (.int .i64 q.rs.length)) :: (62, .pv (.int .i64 k)) :: rstS q p fr ls, (.loc 80 0, .arr 77 3 ((rstV q fr fun _ => 0).take k)) :: (.loc 56 0, .arr 78 1 (q.ms.map rgsP)) :: (.loc 12 0, .cells [.vec (.loc 56 0) 1 0 q.ms.length, .vec (.loc 80 0) 3 0 k]) :: rstX q⟩
def rstY (q : Qu) (fr : Nat) (f : Nat → Nat) : List (Site × Box) := [(.loc 80 0, .arr 77 3 (rstV q fr f)), (.loc 56 0, .arr 78 1 (q.ms.map rgsP)), (.loc 12 0, .cells [.vec (.loc 56 0) 1 0 q.ms.length, .vec (.loc 80 0) 3 0 q.rs.length]), (.loc 8 0, .cells [.pv (.emp (some true)), .pv (.emp (some true))])]
def rstC (q : Qu) (p : List (List Int)) (fr : Nat) (ls : List Ls) (M k : Nat) : AS := ⟨[(3, .pv (lossP ls)), (8, .ptr (.loc 8 0) 0), (12, .ptr (.loc 12 0) 0), (88, .pv (planP (p.take M))), (89, .pv (.int .i64 M)), (90, .pv (.int .i64 k))], rstY q fr fun i => ranP i ls p k⟩
def rstD (q : Qu) (p : List (List Int)) (fr : Nat) (ls : List Ls) (M k : Nat) (l : List Int) (j : Nat) : AS := ⟨(17, .pv (.int .i64 k)) :: (95, .pv (intsP l)) :: (96, .pv (.int .i64 l.length)) :: (97, .pv (.int .i64 j)) :: (rstC q p fr ls M k).tm, rstY q fr fun i => ranP i ls p k + ranRow i ls k l j⟩
theorem rowB_cell {q : Qu} {h : Nat} {l : List Int} (hr : q.rowB h l = true) {j : Nat} {x : Int} (hx : l[j]? = some x) : x = -1 ∨ (0 ≤ x ∧ x < q.rs.length) := by
  have hj := (List.getElem?_eq_some_iff.1 hx).1
  simp only [Qu.rowB, Bool.and_eq_true, List.all_eq_true, List.mem_range] at hr
  have := hr.2 j hj
  simp only [Qu.cellB, hx, Option.getD_some, Bool.or_eq_true, Bool.and_eq_true, decide_eq_true_eq] at this
  rcases this with h | h
  · exact .inl h
  · exact .inr (by omega)
theorem right_rowB {q : Qu} {p : List (List Int)} (hr : q.right p = true) {k : Nat} {l : List Int} (hx : p[k]? = some l) : q.rowB k l = true := by
  simp only [Qu.right, Bool.and_eq_true, Qu.rowsB, List.all_eq_true, List.mem_range] at hr
  have := hr.1.2 k (List.getElem?_eq_some_iff.1 hx).1
  rwa [hx] at this
end Go.Proofs.Ytohhjnpiiackjaa
/-! Contracts of layer 10 (queue): Rest, where it has no error. -/
namespace Go.Proofs.Ytohhjnpiiackjaa
open Go.RowKit
attribute [local simp] Box.purge Site.isLoc
set_option maxRecDepth 10000
set_option linter.unusedSimpArgs false
attribute [local simp] retFz frzL AS.frz AV.frz AV.frzL Box.frz AS.tidy AS.frzC
set_option maxHeartbeats 16000000 in
theorem restR_c (q : Qu) (hq : q.ok) (hck : q.check = 0) (p : List (List Int)) (hr : q.right p = true) (fr : Nat) (hfr : fr ≤ 40) (ls : List Ls) (hls : ls.length ≤ 1000) (hal : ls.all q.lossB = true) : Gives Try.prog 39 [q.pv, planP p, .int .i64 fr, lossP ls] (.tup [(q.rest p fr ls).pv, .int .i64 0]) := by
  have hqm := hq.m
  have hqr := hq.r
  have hp : p.length ≤ 40 := by simp only [Qu.right, Bool.and_eq_true, decide_eq_true_eq] at hr; omega
  have hrow := fun (k : Nat) (l : List Int) (h : p[k]? = some l) => right_rowB hr h
  have hlen : ∀ l ∈ p, l.length ≤ 4 := fun l h => by
    obtain ⟨k, hk⟩ := List.mem_iff_getElem?.1 h
    have := hrow k l hk
    simp only [Qu.rowB, Bool.and_eq_true, decide_eq_true_eq] at this
    omega
  have hmany : manyB fr = true := by simp [manyB]; omega
  refine calls_of_awpF [.loc 80 0, .loc 56 0] mixed L39_ok (Nat.le_of_ble_eq_true rfl) ?_
  generalize hRR : (fun (r : AV) (B : List (Site × Box)) => r = .pv (.tup [(q.rest p fr ls).pv, .int .i64 0]) ∧ B = []) = RR
  simp [-getElem?_pos, L39, Qu.pv]
  refine call_gives (k := 0) (fs := []) (xs := [q.pv]) (cs := []) rfl rfl (check_c q (by omega) (by omega) (fun l h => by have := hq.s l h; omega)) rfl ?_
  simp [-getElem?_pos, hck]
  refine call_gives (k := 0) (fs := []) (xs := [q.pv, planP p]) (cs := []) rfl rfl (right_c q hq p (by omega) (fun l h => by have := hlen l h; omega)) rfl ?_
  simp [-getElem?_pos, hr]
  refine call_gives (k := 3) (fs := []) (xs := [lossP ls, .fn 70 [] [.ref [.lst false 1 (q.ms.map rgsP), .lst false 3 (q.rs.map Rq.pv)]]]) (cs := []) rfl rfl (allLoss_c q (by omega) ls hls) rfl ?_
  simp [-getElem?_pos, hal]
  refine call_gives (k := 0) (fs := []) (cs := []) rfl rfl (many_c fr) rfl ?_
  simp [-getElem?_pos, hmany]
  -- the machines
  refine awp_loopS (fun n τ => ∃ k : Nat, k ≤ q.ms.length ∧ n = q.ms.length - k ∧ τ = rstA q p fr ls k) ⟨q.ms.length, rstA q p fr ls 0, Sub.trans' (Sub.mk (by simp [rstS, AS.vecC]) (by simp [rstX, AS.vecC, Qu.cells])) (vecC 56 78 1 (s := .loc 12 0) (cs := [.pv (.emp (some true)), .pv (.emp (some true))]) 0 rfl rfl (by decide)), 0, Nat.zero_le _, rfl, rfl⟩ ?_
  rintro J hJ n τ ⟨k, hk, rfl, rfl⟩
  by_cases hlt : k < q.ms.length
  · obtain ⟨l, hl⟩ : ∃ l, q.ms[k]? = some l := ⟨q.ms[k], List.getElem?_eq_getElem hlt⟩
    have hll := hq.s l (List.mem_of_getElem? hl)
    have hg : (q.ms.map rgsP)[k]? = some (rgsP l) := by rw [List.getElem?_map, hl]; rfl
    have hw := wrapS (k := k) (by omega)
    have hround := hJ _ _ ⟨k + 1, hlt, rfl, rfl⟩
    have htk : (q.ms.take (k + 1)).map rgsP = (q.ms.take k).map rgsP ++ [rgsP l] := by rw [take_next hl]; simp
    have hk6 : k + 1 ≤ 1000000 := by omega
    have htl : ((q.ms.take k).map rgsP).length = k := by rw [List.length_map, List.length_take]; omega
    have hmeas : q.ms.length - (k + 1) < q.ms.length - k := by omega
    clear hJ hrow hlen hal
    generalize hTL : (q.ms.take k).map rgsP = TL at *
    simp [-getElem?_pos, -List.getElem?_map, rstA, rstS, rstX, Qu.cells, hlt, hg, hTL]
    refine .inl (call_pv [] (fs := []) (xs := [rgsP l]) (cs := []) rfl rfl (cloneR_c l (by omega)) ?_)
    simp [-getElem?_pos, -List.getElem?_map, -decide_eq_true_eq, frzsL, nble, nblt, hw, hk6, htl, rgsP]
    refine ⟨_, _, hmeas, Sub.mk ?_ ?_, hround⟩
    · simp [rstS]
    · simp [rstX, htk, rgsP, Qu.cells]
  · have he : k = q.ms.length := by omega
    subst he
    clear hJ
    simp [-getElem?_pos, -List.getElem?_map, rstA, rstS, rstX, Qu.cells]
    -- the runs
    refine awp_loopS (fun n τ => ∃ k : Nat, k ≤ q.rs.length ∧ n = q.rs.length - k ∧ τ = rstB q p fr ls k) ⟨q.rs.length, rstB q p fr ls 0, Sub.trans' (Sub.mk (by simp [rstS, AS.vecC]) (by simp [rstX, AS.vecC, Qu.cells])) (vecC 80 77 3 (s := .loc 12 0) (cs := [.vec (.loc 56 0) 1 0 q.ms.length, .pv (.emp (some true))]) 1 rfl rfl (by decide)), 0, Nat.zero_le _, rfl, rfl⟩ ?_
    rintro J hJ n τ ⟨k, hk, rfl, rfl⟩
    by_cases hlt : k < q.rs.length
    · obtain ⟨r, hrr⟩ : ∃ r, q.rs[k]? = some r := ⟨q.rs[k], List.getElem?_eq_getElem hlt⟩
      have hro := hq.f r (List.mem_of_getElem? hrr)
      have hrun : q.run k = r := by simp [Qu.run, hrr]
      have hg : (q.rs.map Rq.pv)[k]? = some (.agg [.int .i64 r.hours, .int .i64 r.ready, onP r.on]) := by rw [List.getElem?_map, hrr]; rfl
      have hw := wrapS (k := k) (by omega)
      have hround := hJ _ _ ⟨k + 1, hlt, rfl, rfl⟩
      have hgv := rstV_get (q := q) (fr := fr) (f := fun _ => 0) hlt
      have htk := take_next hgv
      rw [hrun] at htk
      have hk6 : k + 1 ≤ 1000000 := by omega
      have htl : ((rstV q fr fun _ => 0).take k).length = k := by rw [List.length_take, rstV_len]; omega
      have hmeas : q.rs.length - (k + 1) < q.rs.length - k := by omega
      clear hJ hrow hlen hal
      generalize hTL : (rstV q fr fun _ => 0).take k = TL at *
      generalize hTL2 : (rstV q fr fun _ => 0).take (k + 1) = TL2 at *
      simp [-getElem?_pos, -List.getElem?_map, -decide_eq_true_eq, rstB, rstS, rstX, Qu.cells, hlt, hg, hTL, nble, nblt]
      refine call_give (k := 1) (fs := []) (xs := [.lst false 1 [.int .i64 r.ready, .int .i64 fr]]) (cs := []) rfl rfl (last2_c r.ready fr) rfl ?_
      simp [-getElem?_pos, -List.getElem?_map, -decide_eq_true_eq]
      refine call_pv [] (fs := []) (xs := [onP r.on]) (cs := []) rfl rfl (cloneB_c r.on (by omega)) ?_
      simp [-getElem?_pos, -List.getElem?_map, -decide_eq_true_eq, frzsL, nble, nblt, hw, hk6, htl, onP]
      refine ⟨_, _, hmeas, Sub.mk ?_ ?_, hround⟩
      · simp [rstS]
      · simp [rstX, hTL2, htk, onP, Qu.cells]
    · have he : k = q.rs.length := by omega
      subst he
      clear hJ
      obtain ⟨M, hM⟩ : ∃ M, M = min fr p.length := ⟨_, rfl⟩
      have hmi : (if (p.length : Int) < (fr : Int) then (p.length : Int) else (fr : Int)) = (M : Int) := by
        by_cases h : (p.length : Int) < (fr : Int)
        · rw [if_pos h]; omega
        · rw [if_neg h]; omega
      have hmj : (if p.length < fr then (p.length : Int) else (fr : Int)) = (M : Int) := by
        by_cases h : p.length < fr
        · rw [if_pos h]; omega
        · rw [if_neg h]; omega
      have hMp : M ≤ p.length := by omega
      have htm : (rstV q fr fun _ => 0).take q.rs.length = rstV q fr fun _ => 0 := List.take_of_length_le (by rw [rstV_len]; omega)
      simp [-getElem?_pos, -List.getElem?_map, -decide_eq_true_eq, rstB, rstS, rstX, Qu.cells, hmi, hmj, planP, nble, hMp, htm]
      refine awp_loopS (fun n τ => ∃ k : Nat, k ≤ M ∧ n = M - k ∧ τ = rstC q p fr ls M k) ⟨M, rstC q p fr ls M 0, Sub.mk (by simp [planP, List.map_take]) (by simp [rstY, ranP]), 0, Nat.zero_le _, rfl, rfl⟩ ?_
      rintro J hJ n τ ⟨k, hk, rfl, rfl⟩
      by_cases hlt : k < M
      · obtain ⟨l, hx⟩ : ∃ l, p[k]? = some l := ⟨p[k], List.getElem?_eq_getElem (by omega)⟩
        have hll := hlen l (List.mem_of_getElem? hx)
        have hrw := hrow k l hx
        have hg : ((p.take M).map intsP)[k]? = some (.lst false 1 (l.map intP)) := by rw [List.getElem?_map, List.getElem?_take, if_pos hlt, hx]; rfl
        have hw := wrapS (k := k) (by omega)
        have hround := hJ _ _ ⟨k + 1, hlt, rfl, rfl⟩
        have hmeas : M - (k + 1) < M - k := by omega
        have hpb : ∀ i : Nat, ranP i ls p k ≤ 1000 * k := fun i => ranP_bd (fun l h => by have := hlen l h; omega) i ls k
        have hstep : (fun i : Nat => ranP i ls p (k + 1)) = fun i : Nat => ranP i ls p k + ranRow i ls k l l.length := by funext i; simp [ranP, hx]
        clear hJ hrow hlen hal
        rw [show rstC q p fr ls M (k + 1) = ⟨(rstC q p fr ls M (k + 1)).tm, rstY q fr fun i => ranP i ls p k + ranRow i ls k l l.length⟩ by rw [← hstep]; rfl] at hround
        simp [-getElem?_pos, -List.getElem?_map, -List.map_take, -decide_eq_true_eq, rstC, rstY, planP, hlt, hg]
        refine awp_loopS (fun n τ => ∃ j : Nat, j ≤ l.length ∧ n = l.length - j ∧ τ = rstD q p fr ls M k l j) ⟨l.length, rstD q p fr ls M k l 0, Sub.mk (by simp [rstC, planP, intsP]) (by simp [rstY, ranRow]), 0, Nat.zero_le _, rfl, rfl⟩ ?_
        rintro J2 hJ2 n τ ⟨j, hj, rfl, rfl⟩
        by_cases hlt2 : j < l.length
        · obtain ⟨x, hx2⟩ : ∃ x, l[j]? = some x := ⟨l[j], List.getElem?_eq_getElem hlt2⟩
          have hg2 : (l.map intP)[j]? = some (.int .i64 x) := by rw [List.getElem?_map, hx2]; rfl
          have hw2 := wrapS (k := j) (by omega)
          have hround2 := hJ2 _ _ ⟨j + 1, hlt2, rfl, rfl⟩
          have hb2 : ∀ i : Nat, ranRow i ls k l j ≤ j := fun i => ranRow_bd i ls k l j
          have hst2 : ∀ i : Nat, ranRow i ls k l (j + 1) = if x = (i : Int) ∧ lostB ls j k = false then ranRow i ls k l j + 1 else ranRow i ls k l j := fun i => by simp [ranRow, hx2]
          have hmeas2 : l.length - (j + 1) < l.length - j := by omega
          have hcx := rowB_cell hrw hx2
          clear hJ2 hround
          obtain ⟨F, hF⟩ : ∃ F : Nat → Nat, F = fun i : Nat => ranP i ls p k + ranRow i ls k l j := ⟨_, rfl⟩
          obtain ⟨G, hG⟩ : ∃ G : Nat → Nat, G = fun i : Nat => ranP i ls p k + ranRow i ls k l (j + 1) := ⟨_, rfl⟩
          have hFb : ∀ i, F i ≤ 1000000 := fun i => by rw [hF]; have := hpb i; have := hb2 i; show ranP _ _ _ _ + _ ≤ _; omega
          have hGF : ∀ i : Nat, G i = if x = (i : Int) ∧ lostB ls j k = false then F i + 1 else F i := fun i => by
            rw [hG, hF]
            show ranP _ _ _ _ + ranRow _ _ _ _ (j + 1) = _
            rw [hst2 i]
            split <;> rfl
          have hD1 : rstD q p fr ls M k l j = ⟨(rstD q p fr ls M k l j).tm, rstY q fr F⟩ := by rw [hF]; rfl
          have hD2 : rstD q p fr ls M k l (j + 1) = ⟨(rstD q p fr ls M k l (j + 1)).tm, rstY q fr G⟩ := by rw [hG]; rfl
          rw [hD2] at hround2
          rw [hD1]
          clear hD1 hD2 hF hG hst2 hb2 hpb hstep
          by_cases hxn : x = -1
          · subst hxn
            have hFG : G = F := by
              funext i
              rw [hGF i, if_neg]
              intro h
              have := h.1
              omega
            simp [-getElem?_pos, -List.getElem?_map, rstD, rstC, rstY, planP, intsP, hlt2, hg2, hw2]
            refine ⟨_, _, hmeas2, Sub.mk ?_ ?_, hround2⟩
            · simp [rstD, rstC, planP, intsP]
            · simp [rstY, hFG]
          · rcases hcx with h | ⟨h0, h1⟩
            · exact absurd h hxn
            obtain ⟨i, rfl⟩ : ∃ i : Nat, x = i := ⟨x.toNat, by omega⟩
            have hi : i < q.rs.length := by omega
            have hi2 : (i : Int) < (q.rs.length : Int) := by omega
            have hlo := hasLoss_c ls hls j k
            simp [-getElem?_pos, -List.getElem?_map, rstD, rstC, rstY, planP, intsP, hlt2, hg2, hxn]
            refine call_gives (k := 0) (fs := []) (cs := []) rfl rfl hlo rfl ?_
            cases hlb : lostB ls j k
            · have hgv := rstV_get (q := q) (fr := fr) (f := F) hi
              have hlv := rstV_len (q := q) (fr := fr) (f := F)
              have hsv := rstV_set (q := q) (fr := fr) (f := F) (g := G) (i := i) (fun i' => by
                rw [hGF i', hlb]
                by_cases e : i' = i
                · subst e; simp
                · have : ¬ ((i : Int) = (i' : Int)) := by omega
                  simp [e, this])
              have hwv : IntKind.i64.wrap ((q.run i).hours - (F i : Int) - 1) = (q.run i).hours - (F i : Int) - 1 := by
                have h1 := hFb i
                obtain ⟨r, hrr⟩ : ∃ r, q.rs[i]? = some r := ⟨q.rs[i], List.getElem?_eq_getElem hi⟩
                have h2 := hq.h r (List.mem_of_getElem? hrr)
                have hrun : q.run i = r := by simp [Qu.run, hrr]
                rw [hrun]
                exact wrap64 (by omega)
              simp [-getElem?_pos, -List.getElem?_map, -decide_eq_true_eq, hi, hi2, hgv, hlv, hwv, hw2, hsv, nble, nblt, setAt]
              refine ⟨_, _, hmeas2, Sub.mk ?_ ?_, hround2⟩
              · simp [rstD, rstC, planP, intsP]
              · simp [rstY]
            · have hFG : G = F := by
                funext i
                rw [hGF i, hlb, if_neg]
                simp
              simp [-getElem?_pos, -List.getElem?_map, -decide_eq_true_eq, hw2]
              refine ⟨_, _, hmeas2, Sub.mk ?_ ?_, hround2⟩
              · simp [rstD, rstC, planP, intsP]
              · simp [rstY, hFG]
        · have he : j = l.length := by omega
          subst he
          clear hJ2
          simp [-getElem?_pos, -List.getElem?_map, -List.map_take, rstD, rstC, rstY, planP, intsP, hw]
          refine ⟨_, _, hmeas, Sub.mk ?_ ?_, hround⟩
          · simp [rstC, planP]
          · simp [rstY]
      · have he : k = M := by omega
        subst he
        clear hJ
        have hm1 : (q.ms.map rgsP).take q.ms.length = q.ms.map rgsP := List.take_of_length_le (by simp)
        have hm2 : ∀ f, (rstV q fr f).take q.rs.length = rstV q fr f := fun f => List.take_of_length_le (by rw [rstV_len]; omega)
        simp [-getElem?_pos, -List.getElem?_map, -List.map_take, rstC, rstY, planP, hm1, hm2]
        rw [← hRR]
        subst hM
        simp [Qu.rest, Qu.pv, rstV]
end Go.Proofs.Ytohhjnpiiackjaa
