/- Layer 10 (queue), plain laws: the rest of a queue by its plan. (Several texts in one.) -/
import Derived.Test.YtohhjnpiiackjaaQuM
import Derived.Test.YtohhjnpiiackjaaQuB
import Derived.Test.YtohhjnpiiackjaaQuE
import Derived.Test.YtohhjnpiiackjaaRows
import Derived.WalkKit
import Derived.ProofKit
import Derived.OpenShut
set_option linter.unusedVariables false
set_option linter.unusedSimpArgs false
/-! Layer 10 (queue), plain laws: the rest of a queue by its plan. -/
namespace Go.Proofs.Ytohhjnpiiackjaa
open Go.RowKit

set_option linter.unusedSimpArgs false
theorem ranRow_nil (r : Nat) (h : Nat) (l : List Int) : ∀ j, j ≤ l.length → ranRow (r : Int) [] h l j = (l.take j).count (r : Int)
  | 0, _ => by simp [ranRow]
  | j + 1, hj => by
    have hx : l[j]? = some l[j] := List.getElem?_eq_getElem (by omega)
    have ih := ranRow_nil r h l j (by omega)
    have e : lostB [] (j : Int) (h : Int) = false := rfl
    unfold ranRow
    rw [take_next hx, List.count_append, List.count_singleton, hx, Option.getD_some, e, ih]
    by_cases hc : l[j] = (r : Int)
    · simp [hc]
    · simp [hc]
theorem ranRow_le (r : Int) (ls : List Ls) (h : Nat) (l : List Int) : ∀ j, ranRow r ls h l j ≤ ranRow r [] h l j
  | 0 => Nat.le_refl _
  | j + 1 => by
    have ih := ranRow_le r ls h l j
    have e : lostB [] (j : Int) (h : Int) = false := rfl
    unfold ranRow
    rw [e]
    by_cases hc : (l[j]?).getD (-1) = r
    · rw [if_pos (show (l[j]?).getD (-1) = r ∧ false = false from ⟨hc, rfl⟩)]; split <;> omega
    · rw [if_neg (fun h => hc h.1), if_neg (fun h => hc h.1)]; exact ih
theorem ranP_le (r : Int) (ls : List Ls) (p : List (List Int)) : ∀ k, ranP r ls p k ≤ ranP r [] p k
  | 0 => Nat.le_refl _
  | k + 1 => by
    have h1 := ranP_le r ls p k
    have h2 := ranRow_le r ls k ((p[k]?).getD []) ((p[k]?).getD []).length
    unfold ranP; omega
theorem ranP_nil (r : Nat) (p : List (List Int)) : ∀ k, k ≤ p.length → ranP (r : Int) [] p k = cnt (p.take k) r
  | 0, _ => by simp [ranP, cnt]
  | k + 1, hk => by
    have hx : p[k]? = some p[k] := List.getElem?_eq_getElem (by omega)
    have ih := ranP_nil r p k (by omega)
    unfold ranP
    rw [take_next hx, cnt_app, Go.Proofs.Ytohhjnpiiackjaa.cnt_one, hx, Option.getD_some, ranRow_nil r k _ _ (Nat.le_refl _), List.take_length, ih]
theorem cut_take {q : Qu} {P : List (List Int)} (hP : LP q P) (k r : Nat) : cnt ((q.cutP P).take k) r = cnt (P.take k) r := by
  unfold Qu.cutP
  rw [← List.map_take]
  exact cnt_map fun l hl => by
    obtain ⟨h, hh⟩ := hP.row (List.mem_of_mem_take hl)
    exact count_cut hh r
theorem cnt_take_le (P : List (List Int)) (k r : Nat) : cnt (P.take k) r ≤ cnt P r := by
  conv => rhs; rw [← List.take_append_drop k P, cnt_app]
  omega
/-- What has run, before an hour. -/
theorem ran_is {q : Qu} {P : List (List Int)} (hP : LP q P) (fr r : Nat) : ranP (r : Int) [] (q.cutP P) (min fr (q.cutP P).length) = cnt (P.take fr) r := by
  have hl : (q.cutP P).length = P.length := by simp [Qu.cutP]
  rw [ranP_nil r _ _ (Nat.min_le_right _ _), cut_take hP, hl]
  congr 1
  rcases Nat.le_total fr P.length with h | h
  · rw [Nat.min_eq_left h]
  · rw [Nat.min_eq_right h, List.take_of_length_le (Nat.le_refl _), List.take_of_length_le h]
theorem ran_bd {q : Qu} {P : List (List Int)} (hP : LP q P) (hd : Done q P) (fr : Nat) (ls : List Ls) {r : Nat} (hr : r < q.rs.length) : ((ranP (r : Int) ls (q.cutP P) (min fr (q.cutP P).length) : Nat) : Int) ≤ (q.run r).hours := by
  have h1 := ranP_le (r : Int) ls (q.cutP P) (min fr (q.cutP P).length)
  rw [ran_is hP] at h1
  have h2 := cnt_take_le P fr r
  have h3 := hd r hr
  omega
theorem Qu.rest_run {q : Qu} {p : List (List Int)} {fr : Nat} {ls : List Ls} {i : Nat} (hi : i < q.rs.length) : (q.rest p fr ls).run i = q.rstRun fr (fun i => ranP i ls p (min fr p.length)) i := run_of (by unfold Qu.rest; rw [List.getElem?_map, List.getElem?_range hi]; rfl)
theorem Qu.rest_len {q : Qu} {p : List (List Int)} {fr : Nat} {ls : List Ls} : (q.rest p fr ls).rs.length = q.rs.length := by simp [Qu.rest]
theorem run_mem' {q : Qu} {i : Nat} (hi : i < q.rs.length) : q.run i ∈ q.rs := by rw [run_of (List.getElem?_eq_getElem hi)]; exact List.getElem_mem hi
theorem Qu.rest_ok {q : Qu} (hq : q.ok) {P : List (List Int)} (hP : LP q P) (hd : Done q P) {fr : Nat} (hfr : fr ≤ 40) (ls : List Ls) : (q.rest (q.cutP P) fr ls).ok := by
  have hrs : ∀ r ∈ (q.rest (q.cutP P) fr ls).rs, ∃ i, i < q.rs.length ∧ r = q.rstRun fr (fun i => ranP i ls (q.cutP P) (min fr (q.cutP P).length)) i := fun r hr => by
    obtain ⟨i, hi, rfl⟩ := List.mem_map.1 hr
    exact ⟨i, List.mem_range.1 hi, rfl⟩
  refine ⟨hq.m, by rw [Qu.rest_len]; exact hq.r, hq.s, hq.x, fun r hr => ?_, fun r hr => ?_, fun r hr => ?_⟩
  · obtain ⟨i, hi, rfl⟩ := hrs r hr
    have h1 := hq.h _ (run_mem' hi)
    have h2 := ran_bd hP hd fr ls hi
    show 0 ≤ (q.run i).hours - ((ranP (i : Int) ls (q.cutP P) (min fr (q.cutP P).length) : Nat) : Int) ∧ (q.run i).hours - ((ranP (i : Int) ls (q.cutP P) (min fr (q.cutP P).length) : Nat) : Int) ≤ 40
    omega
  · obtain ⟨i, hi, rfl⟩ := hrs r hr
    have h1 := hq.d _ (run_mem' hi)
    show 0 ≤ (if (fr : Int) > (q.run i).ready then (fr : Int) else (q.run i).ready) ∧ (if (fr : Int) > (q.run i).ready then (fr : Int) else (q.run i).ready) ≤ 40
    split <;> omega
  · obtain ⟨i, hi, rfl⟩ := hrs r hr
    show (q.run i).on.length = q.ms.length
    exact hq.f _ (run_mem' hi)
theorem Qu.rest_may {q : Qu} {p : List (List Int)} {fr : Nat} {ls : List Ls} {i m : Nat} {h : Int} (hi : i < q.rs.length) : (q.rest p fr ls).may i m h = true ↔ q.may i m h = true ∧ (fr : Int) ≤ h := by
  have e1 : (q.rest p fr ls).stops m = q.stops m := rfl
  have e2 := Qu.rest_run (p := p) (fr := fr) (ls := ls) hi
  have e3 : ((q.rest p fr ls).run i).on = (q.run i).on := by rw [e2]; rfl
  have e4 : ((q.rest p fr ls).run i).ready = if (fr : Int) > (q.run i).ready then (fr : Int) else (q.run i).ready := by rw [e2]; rfl
  unfold Qu.may
  rw [e1, e3, e4]
  simp only [Bool.and_eq_true, decide_eq_true_eq]
  constructor
  · rintro ⟨⟨a, b⟩, c⟩
    refine ⟨⟨⟨a, ?_⟩, c⟩, ?_⟩ <;> split at b <;> omega
  · rintro ⟨⟨⟨a, b⟩, c⟩, d⟩
    refine ⟨⟨a, ?_⟩, c⟩
    split <;> omega
theorem rest_feas {q : Qu} {P : List (List Int)} (hP : LP q P) (hd : Done q P) (fr : Nat) : Feas (q.rest (q.cutP P) fr []) P.length := by
  have hl : ((P.take fr).map fun _ => idle4).length = min fr P.length := by rw [List.length_map, List.length_take]
  have hz : ∀ r : Nat, cnt ((P.take fr).map fun _ => idle4) r = 0 := fun r => cnt_zero fun l hl => by
    obtain ⟨_, _, rfl⟩ := List.mem_map.1 hl
    exact List.count_eq_zero.2 fun h => by simp [idle4] at h
  refine ⟨((P.take fr).map fun _ => idle4) ++ P.drop fr, ⟨fun h l e => ?_, ?_⟩, ?_, fun x hx => ?_⟩
  · rw [List.getElem?_append, hl] at e
    split at e
    · rw [List.getElem?_map, Option.map_eq_some_iff] at e
      obtain ⟨_, _, rfl⟩ := e
      exact Mt.idle
    · rename_i hlt
      rw [List.getElem?_drop] at e
      have hlen := (List.getElem?_eq_some_iff.1 e).1
      have hh : fr + (h - min fr P.length) = h := by omega
      rw [hh] at e
      have R := hP.rows h l e
      refine ⟨R.len, R.ok, fun m r e' => ?_, R.one⟩
      obtain ⟨o1, o2, o3, o4⟩ := R.on m r e'
      exact ⟨o1, o2, (show r < _ by rw [Qu.rest_len]; exact o3), (Qu.rest_may o3).2 ⟨o4, by omega⟩⟩
  · have := hP.len
    rw [List.length_append, hl, List.length_drop]; omega
  · rw [List.length_append, hl, List.length_drop]; omega
  · rw [Qu.rest_len] at hx
    rw [cnt_app, hz, Qu.rest_run hx]
    have h1 := hd x hx
    have h2 : cnt P x = cnt (P.take fr) x + cnt (P.drop fr) x := by rw [← cnt_app, List.take_append_drop]
    show ((0 + cnt (P.drop fr) x : Nat) : Int) = (q.run x).hours - ((ranP (x : Int) [] (q.cutP P) (min fr (q.cutP P).length) : Nat) : Int)
    rw [ran_is hP]
    omega
theorem needs_zero {q : Qu} (hq : q.ok) (h : q.needs (allR q) = 0) : Feas q 0 := by
  have hall : ∀ x, x < q.rs.length → (q.run x).hours = 0 := by
    have key : ∀ (n : Nat), n ≤ q.rs.length → (((List.range n).map Int.ofNat).map q.hrs).sum ≥ 0 ∧ ((((List.range n).map Int.ofNat).map q.hrs).sum = 0 → ∀ x, x < n → (q.run x).hours = 0) := by
      intro n
      induction n with
      | zero => exact fun _ => ⟨by simp, fun _ x hx => by omega⟩
      | succ n ih =>
        intro hn
        obtain ⟨a, b⟩ := ih (by omega)
        rw [List.range_succ, List.map_append, List.map_append, List.sum_append]
        have e : q.hrs (Int.ofNat n) = (q.run n).hours := by unfold Qu.hrs Qu.run; simp; cases q.rs[n]? <;> rfl
        have h0 := (hq.h _ (run_mem' (show n < q.rs.length by omega))).1
        simp only [List.map_cons, List.map_nil, List.sum_cons, List.sum_nil, e]
        refine ⟨by omega, fun hs x hx => ?_⟩
        by_cases hxn : x = n
        · subst hxn; omega
        · exact b (by omega) x (by omega)
    exact (key q.rs.length (Nat.le_refl _)).2 h
  exact ⟨[], LP.nil, rfl, fun x hx => by rw [hall x hx]; rfl⟩
theorem feas_zero' {q : Qu} {R : List Int} (hall : ∀ x, x < q.rs.length → (q.run x).hours = 0) (h0 : ∀ x ∈ R, 0 ≤ x ∧ x < q.rs.length) : q.needs R = 0 := by
  unfold Qu.needs
  induction R with
  | nil => rfl
  | cons x R ih =>
    have hx := h0 x (by simp)
    have e : q.hrs x = (q.run x.toNat).hours := by unfold Qu.hrs Qu.run; cases q.rs[x.toNat]? <;> rfl
    rw [List.map_cons, List.sum_cons, e, hall _ (by omega), ih fun y hy => h0 y (by simp [hy])]; rfl
theorem needs_pos {q : Qu} (hq : q.ok) (h : q.needs (allR q) ≠ 0) : ∃ r, r < q.rs.length ∧ 0 < (q.run r).hours := by
  refine Classical.byContradiction fun hno => h ?_
  have hall : ∀ x, x < q.rs.length → (q.run x).hours = 0 := fun x hx => by
    have h0 := (hq.h _ (run_mem' hx)).1
    have : ¬ 0 < (q.run x).hours := fun h => hno ⟨x, hx, h⟩
    omega
  exact feas_zero' (R := allR q) hall allR_in
theorem rest_early {q : Qu} {P : List (List Int)} (hP : LP q P) (hd : Done q P) {fr : Nat} (hno : ∀ T, T < P.length → ¬ Feas q T) {r : Nat} (hr : r < q.rs.length) (hpos : 0 < ((q.rest (q.cutP P) fr []).run r).hours) : ∀ T, T < P.length → ¬ Feas (q.rest (q.cutP P) fr []) T := fun T hT hf => by
  obtain ⟨p', a, b, c⟩ := hf
  have hrl := Qu.rest_len (q := q) (p := q.cutP P) (fr := fr) (ls := [])
  have hbefore : ∀ x : Nat, cnt (p'.take fr) x = 0 := fun x => cnt_zero fun l hl => List.count_eq_zero.2 fun hm => by
    obtain ⟨h, hh⟩ := List.mem_iff_getElem?.1 hl
    rw [List.getElem?_take] at hh
    split at hh
    · rename_i hlt
      obtain ⟨m, hm'⟩ := List.mem_iff_getElem?.1 hm
      obtain ⟨_, _, o3, o4⟩ := (a.rows h l hh).on m x hm'
      have o3' : x < q.rs.length := by rw [← hrl]; exact o3
      have := ((Qu.rest_may o3').1 o4).2
      omega
    · cases hh
  have hTfr : fr < T := by
    have h1 := c r (by rw [hrl]; exact hr)
    refine Classical.byContradiction fun hc => ?_
    have h2 : p'.take fr = p' := List.take_of_length_le (by omega)
    have h3 := hbefore r
    rw [h2] at h3
    omega
  have hP0 := hP.len
  refine hno T hT ⟨P.take fr ++ p'.drop fr, ⟨fun h l e => ?_, ?_⟩, ?_, fun x hx => ?_⟩
  · rw [List.getElem?_append, List.length_take] at e
    split at e
    · rw [List.getElem?_take] at e
      split at e
      · exact hP.rows h l e
      · cases e
    · rename_i hlt
      rw [List.getElem?_drop] at e
      have hh : fr + (h - min fr P.length) = h := by omega
      rw [hh] at e
      have R := a.rows h l e
      refine ⟨R.len, R.ok, fun m x e' => ?_, R.one⟩
      obtain ⟨o1, o2, o3, o4⟩ := R.on m x e'
      have o3' : x < q.rs.length := by rw [← hrl]; exact o3
      exact ⟨o1, o2, o3', ((Qu.rest_may o3').1 o4).1⟩
  · rw [List.length_append, List.length_take, List.length_drop]; omega
  · rw [List.length_append, List.length_take, List.length_drop]; omega
  · have h1 := c x (by rw [hrl]; exact hx)
    rw [Qu.rest_run hx] at h1
    have h1 : (cnt p' x : Int) = (q.run x).hours - ((ranP (x : Int) [] (q.cutP P) (min fr (q.cutP P).length) : Nat) : Int) := h1
    rw [ran_is hP] at h1
    have h2 : cnt p' x = cnt (p'.take fr) x + cnt (p'.drop fr) x := by rw [← cnt_app, List.take_append_drop]
    have h3 := hbefore x
    rw [cnt_app]
    omega
theorem firstV_is {F : Nat} (hF : 407 < F) {q : Qu} (hq : q.ok) {T : Nat} (hT : T ≤ 40) (hf : Feas q T) (hno : ∀ T', T' < T → ¬ Feas q T') : firstV F q = T := by
  unfold firstV
  rcases early_spec hF hq with ⟨p, e, _, _, hl, hf', hn', _⟩ | ⟨e, hn', _⟩
  · rw [e]
    have h1 : ¬ p.length < T := fun h => hno _ h hf'
    have h2 : ¬ T < p.length := fun h => hn' _ h hf
    simp only; omega
  · exact (hn' T hT hf).elim
/-- The rest has the same earliest end, if something is left. -/
theorem rest_first {F : Nat} (hF : 407 < F) {q : Qu} (hq : q.ok) {P : List (List Int)} (hP : LP q P) (hd : Done q P) {fr : Nat} (hfr : fr ≤ 40) (hno : ∀ T, T < P.length → ¬ Feas q T) :
    firstV F (q.rest (q.cutP P) fr []) = if (q.rest (q.cutP P) fr []).needs (allR (q.rest (q.cutP P) fr [])) = 0 then 0 else (P.length : Int) := by
  have hX := Qu.rest_ok hq hP hd hfr []
  split
  · rename_i h0
    exact firstV_is (T := 0) hF hX (by omega) (needs_zero hX h0) fun T' hT' => by omega
  · rename_i h0
    obtain ⟨r, hr, hpos⟩ := needs_pos hX h0
    rw [Qu.rest_len] at hr
    exact firstV_is hF hX hP.len (rest_feas hP hd fr) (rest_early hP hd hno hr hpos)
/-- With losses it is not earlier. -/
theorem rest_later {F : Nat} (hF : 407 < F) {q : Qu} (hq : q.ok) {P : List (List Int)} (hP : LP q P) (hd : Done q P) {fr : Nat} (hfr : fr ≤ 40) (ls : List Ls) : firstV F (q.rest (q.cutP P) fr []) ≤ firstV F (q.rest (q.cutP P) fr ls) := by
  have hX := Qu.rest_ok hq hP hd hfr []
  have hY := Qu.rest_ok hq hP hd hfr ls
  refine first_le hF hY hX fun T hf => ?_
  obtain ⟨p, a, b, c⟩ := hf
  refine Feas.less (q := q.rest (q.cutP P) fr ls) (q' := q.rest (q.cutP P) fr []) rfl (by simp [Qu.rest]) (fun r m h hm => ?_) (fun x hx => ?_) ⟨p, a, b, c⟩
  · unfold Qu.may at hm ⊢
    by_cases hr : r < q.rs.length
    · rw [Qu.rest_run hr] at hm ⊢; exact hm
    · have e : ∀ ls, (q.rest (q.cutP P) fr ls).run r = ⟨0, 0, []⟩ := fun ls => by
        unfold Qu.run
        rw [List.getElem?_eq_none (by rw [Qu.rest_len]; omega)]; rfl
      rw [e] at hm ⊢; exact hm
  · rw [Qu.rest_len] at hx
    have h1 := ran_bd hP hd fr [] hx
    have h2 := ranP_le (x : Int) ls (q.cutP P) (min fr (q.cutP P).length)
    rw [Qu.rest_run hx, Qu.rest_run hx]
    show 0 ≤ (q.run x).hours - ((ranP (x : Int) [] (q.cutP P) (min fr (q.cutP P).length) : Nat) : Int) ∧ (q.run x).hours - ((ranP (x : Int) [] (q.cutP P) (min fr (q.cutP P).length) : Nat) : Int) ≤ (q.run x).hours - ((ranP (x : Int) ls (q.cutP P) (min fr (q.cutP P).length) : Nat) : Int)
    omega
end Go.Proofs.Ytohhjnpiiackjaa

/-! Layer 10 (queue): the law QueueOn. -/
namespace Go.Proofs.Ytohhjnpiiackjaa
open Go.RowKit

set_option maxRecDepth 10000
set_option linter.unusedSimpArgs false

attribute [local simp] AS.exp expG Box.ren AV.map AV.mapL outsOk noRet Site.isRet Box.allS AV.allS AV.allSL retB dropL AS.adds renL outG outOk lentBx inG fnOf lookA List.findIdx?_cons
attribute [local simp] Box.purge Site.isLoc
attribute [local simp] retFz frzL AS.frz AV.frz AV.frzL Box.frz AS.tidy AS.frzC
theorem Qu.thin_of {q : Qu} (h : q.small) : q.thin = true := by
  have h1 := h.m
  have h2 := h.r
  unfold Qu.thin
  have a1 : ((q.ms.take 7).all fun l => decide ((l.length : Int) ≤ 9)) = true := List.all_eq_true.2 fun l hl => by have := h.s l (List.mem_of_mem_take hl); simp; omega
  have a2 : ((q.rs.take 9).all fun r => decide ((r.on.length : Int) ≤ 9)) = true := List.all_eq_true.2 fun r hr => by have := h.f r (List.mem_of_mem_take hr); simp; omega
  rw [a1, a2, decide_eq_true (by omega), decide_eq_true (by omega)]; rfl
theorem Qu.ready_of {q : Qu} (h : q.ok) : q.readyB = true := by
  unfold Qu.readyB
  rw [Qu.thin_of h.small, Qu.check_of h]; rfl
theorem back_of {q : Qu} (hs : q.small) : CallsA Try.prog 41 ([q.pv].map .pv) [] (fun r B => r = .pv q.pv ∧ B = []) := by
  have h1 := hs.m
  have h2 := hs.r
  exact back_c q (by omega) (by omega) (fun l h => by have := hs.s l h; omega) (fun l h => by have := hs.f l h; omega)
def w16 (l : List Int) : PV := .lst false 1 (l.map (PV.int .u16))
def lsOf (N : Int) (w : Int) : Ls := ⟨w.tmod N, (w.tdiv 8).tmod 40⟩
def onS (q : Qu) (C : List (List Int)) (ws : List Int) (fr : Nat) (V : Int) (k : Nat) : AS := ⟨[(2, .pv (w16 ws)), (3, .ptr (.loc 3 0) 0), (7, .pv (planP C)), (10, .pv (.int .i64 fr)), (14, .pv (.int .i64 V)), (17, .vec (.loc 124 0) 2 0 k), (18, .pv (.int .i64 k))],
  [(.loc 124 0, .arr 66 2 (((ws.take k).map (lsOf q.ms.length)).map Ls.pv)), (.loc 3 0, .cells q.cells)]⟩
def onT (q Y : Qu) (C : List (List Int)) (LS : List Ls) (fr : Nat) (k : Nat) : AS := ⟨[(3, .ptr (.loc 3 0) 0), (7, .pv (planP C)), (10, .pv (.int .i64 fr)), (17, .pv (lossP LS)), (21, .ptr (.loc 21 0) 0), (24, .pv (.int .i64 k))],
  [(.loc 21 0, .cells Y.cells), (.loc 3 0, .cells q.cells)]⟩
set_option maxHeartbeats 8000000 in
theorem on_law (q : Qu) (b : Int) (ws : List Int) (hb : 0 ≤ b ∧ b < 256) (hws : ∀ w ∈ ws, 0 ≤ w ∧ w < 65536) : Gives Try.prog 12 [q.pv, .int .u8 b, w16 ws] (.bool true) := by
  have hF : 407 < 408 := by decide
  generalize 408 = F at hF
  have hw := wakes_c
  refine calls_of_awpS mixed L12_ok (Nat.le_of_ble_eq_true rfl) ?_
  simp [-getElem?_pos, L12, Qu.pv]
  refine call_gives (k := 0) (fs := []) (xs := [q.pv]) (cs := []) rfl rfl (light_c q) rfl ?_
  by_cases ht : q.light = true
  case neg =>
    simp [-getElem?_pos, ht]
    refine call_gives (k := 0) (fs := []) (xs := []) (cs := []) rfl rfl hw rfl ?_
    simp [-getElem?_pos]
  obtain ⟨hs, hc, hq, _⟩ := Qu.light_of ht
  by_cases hl6 : ws.length ≤ 6
  case neg =>
    have h5 : (6 : Int) < (ws.length : Int) := by omega
    have h5' : 6 < ws.length := by omega
    simp [-getElem?_pos, ht, Qu.cells, w16, h5, h5']
    refine call_gives (k := 0) (fs := []) (xs := []) (cs := []) rfl rfl hw rfl ?_
    simp [-getElem?_pos]
  have h5 : ¬ (6 : Int) < (ws.length : Int) := by omega
  have h5' : ¬ 6 < ws.length := by omega
  by_cases hN0 : q.ms = []
  · simp [-getElem?_pos, ht, Qu.cells, w16, h5, h5', hN0]
    refine call_gives (k := 0) (fs := []) (xs := []) (cs := []) rfl rfl hw rfl ?_
    simp [-getElem?_pos]
  have hNp : 0 < q.ms.length := List.length_pos_iff.2 hN0
  have hqm := hq.m
  have hqr := hq.r
  have hqc := queue_of hs
  have he := earl_of hF hs hc
  simp [-getElem?_pos, ht, Qu.cells, w16, h5, h5', hN0]
  refine .inl (call_pv [] (fs := []) (xs := [q.pv]) (cs := []) rfl rfl hqc ?_)
  simp [-getElem?_pos, frzsL]
  refine .inl (call_pv [] (fs := []) (xs := [q.pv]) (cs := []) rfl rfl he ?_)
  rcases lay_spec hF hq with ⟨P, e, hP, hd, _⟩ | ⟨e, _⟩
  case inr =>
    rw [e]
    simp [-getElem?_pos, frzsL]
    refine .inl (call_pv [] (fs := []) (xs := []) (cs := []) rfl rfl hw ?_)
    simp [-getElem?_pos, frzsL]
  have hno : ∀ T, T < P.length → ¬ Feas q T := by
    rcases early_spec hF hq with ⟨P', e', _, _, _, _, hno, _⟩ | ⟨e', _⟩
    · rw [e] at e'; cases e'; exact hno
    · rw [e] at e'; cases e'
  rw [e]
  have hl40 := hP.len
  have hrt := right_of hq hP hd
  have hcl : (q.cutP P).length = P.length := by simp [Qu.cutP]
  have hC9 : ∀ l ∈ q.cutP P, l.length ≤ 1000 := fun l hl => by
    unfold Qu.cutP at hl
    obtain ⟨l0, _, rfl⟩ := List.mem_map.1 hl
    rw [List.length_take]; omega
  have hip := isplan_c q hq (q.cutP P) (by omega) hC9
  rw [hrt] at hip
  have hrw := rows_c (q.cutP P) (by omega) hC9
  have w1 : IntKind.i64.wrap b = b := wrap64 (by omega)
  obtain ⟨fr, hfr, hfr40⟩ : ∃ fr : Nat, b.tmod 41 = (fr : Int) ∧ fr ≤ 40 := by
    have a1 := Int.tmod_eq_emod_of_nonneg (b := 41) hb.1
    exact ⟨(b.tmod 41).toNat, by omega, by omega⟩
  have hX := Qu.rest_ok hq hP hd hfr40 []
  have hrx := restR_c q hq hc (q.cutP P) hrt fr hfr40 [] (by simp) rfl
  have hrx' : CallsA Try.prog 39 ([q.pv, planP (q.cutP P), .int .i64 fr, .emp (some true)].map .pv) [] (fun r B => r = .pv (.tup [(q.rest (q.cutP P) fr []).pv, .int .i64 0]) ∧ B = []) := CallsA.weakArgs hrx rfl (fun j x y m v e1 e2 hd => by
    match j with
    | 0 => simp at e1 e2; subst e1 e2; exact hd
    | 1 => simp at e1 e2; subst e1 e2; exact hd
    | 2 => simp at e1 e2; subst e1 e2; exact hd
    | 3 => simp at e1 e2; subst e1 e2; exact emp_lst hd
    | j + 4 => simp at e1)
  have hfx := first_c hF hX.small (Qu.check_of hX)
  have hbx := back_of hX.small
  have hyx := ready_c (q.rest (q.cutP P) fr [])
  rw [Qu.ready_of hX] at hyx
  have hxl := Qu.rest_len (q := q) (p := q.cutP P) (fr := fr) (ls := [])
  have hax := all_c (q.rest (q.cutP P) fr []) (by omega)
  have hnx := needs_c (q.rest (q.cutP P) fr []) (allR (q.rest (q.cutP P) fr [])) (by unfold allR; simp; omega) (by omega) hX.h allR_in
  have eA : (List.range (q.rest (q.cutP P) fr []).rs.length).map Int.ofNat = allR (q.rest (q.cutP P) fr []) := rfl
  rw [eA] at hax
  have hfv := rest_first hF hq hP hd hfr40 hno
  have hlater := rest_later hF hq hP hd hfr40 (ws.map (lsOf q.ms.length))
  obtain ⟨Y, hY⟩ : ∃ Y, Y = q.rest (q.cutP P) fr (ws.map (lsOf q.ms.length)) := ⟨_, rfl⟩
  have hYok := Qu.rest_ok hq hP hd hfr40 (ws.map (lsOf q.ms.length))
  have hlal : (ws.map (lsOf q.ms.length)).all q.lossB = true := by
    rw [List.all_eq_true]
    intro x hx
    obtain ⟨w, hw', rfl⟩ := List.mem_map.1 hx
    have hwb := hws w hw'
    have a1 := Int.tmod_eq_emod_of_nonneg (b := (q.ms.length : Int)) hwb.1
    have a2 := Int.emod_nonneg w (b := (q.ms.length : Int)) (by omega)
    have a3 := Int.emod_lt_of_pos w (b := (q.ms.length : Int)) (by omega)
    have a4 : w.tdiv 8 = w / 8 := Int.tdiv_eq_ediv_of_nonneg hwb.1
    have a5 := Int.tmod_eq_emod_of_nonneg (b := 40) (show 0 ≤ w / 8 by omega)
    have m1 : 0 ≤ w.tmod (q.ms.length : Int) ∧ w.tmod (q.ms.length : Int) ≤ (q.ms.length : Int) - 1 := by omega
    have m2 : 0 ≤ (w.tdiv 8).tmod 40 ∧ (w.tdiv 8).tmod 40 ≤ 39 := by rw [a4]; omega
    show (decide (0 ≤ w.tmod (q.ms.length : Int)) && decide (w.tmod (q.ms.length : Int) ≤ (q.ms.length : Int) - 1) && (decide (0 ≤ (w.tdiv 8).tmod 40) && decide ((w.tdiv 8).tmod 40 ≤ 39))) = true
    rw [decide_eq_true m1.1, decide_eq_true m1.2, decide_eq_true m2.1, decide_eq_true m2.2]; rfl
  have hry := restR_c q hq hc (q.cutP P) hrt fr hfr40 (ws.map (lsOf q.ms.length)) (by simp; omega) hlal
  rw [← hY] at hry hYok hlater
  have hfy := first_c hF hYok.small (Qu.check_of hYok)
  have hby := back_of hYok.small
  have hyy := ready_c Y
  rw [Qu.ready_of hYok] at hyy
  have hyl : Y.rs.length = q.rs.length := by rw [hY]; exact Qu.rest_len
  have hrn := fun (i : Nat) => ran_c (q.cutP P) (by omega) hC9 i fr [] (by simp)
  have hrl := fun (i : Nat) => ran_c (q.cutP P) (by omega) hC9 i fr (ws.map (lsOf q.ms.length)) (by simp; omega)
  have hYg : ∀ i, i < q.rs.length → (Y.rs.map Rq.pv)[i]? = some (.agg [.int .i64 ((q.run i).hours - ((ranP (i : Int) (ws.map (lsOf q.ms.length)) (q.cutP P) (min fr (q.cutP P).length) : Nat) : Int)), .int .i64 (if (fr : Int) > (q.run i).ready then (fr : Int) else (q.run i).ready), onP (q.run i).on]) := fun i hi => by
    rw [hY]; unfold Qu.rest
    rw [List.getElem?_map, List.getElem?_map, List.getElem?_range hi]; rfl
  have hab : ∀ i, i < q.rs.length → ranP (i : Int) (ws.map (lsOf q.ms.length)) (q.cutP P) (min fr (q.cutP P).length) ≤ ranP (i : Int) [] (q.cutP P) (min fr (q.cutP P).length) ∧ ((ranP (i : Int) [] (q.cutP P) (min fr (q.cutP P).length) : Nat) : Int) ≤ (q.run i).hours := fun i hi => ⟨ranP_le _ _ _ _, ran_bd hP hd fr [] hi⟩
  clear hrx hX hd e hno he eA
  simp [-getElem?_pos, frzsL]
  generalize hXX : q.rest (q.cutP P) fr [] = X at *
  generalize q.cutP P = C at *
  refine .inl (call_pv [] (fs := []) (xs := [q.pv, planP C]) (cs := []) rfl rfl hip ?_)
  simp [-getElem?_pos, frzsL, w1, hfr]
  refine .inl (call_pv [] (fs := []) (xs := [q.pv]) (cs := []) rfl rfl hqc ?_)
  simp [-getElem?_pos, frzsL]
  refine .inl (call_pv [] (fs := []) (xs := [planP C]) (cs := []) rfl rfl hrw ?_)
  simp [-getElem?_pos, frzsL]
  refine .inl (call_pv [] (fs := []) (xs := [q.pv, planP C, .int .i64 fr, .emp (some true)]) (cs := []) rfl rfl hrx' ?_)
  simp [-getElem?_pos, frzsL, Qu.pv]
  refine .inl (call_pv [] (fs := []) (xs := [X.pv]) (cs := []) rfl rfl hbx ?_)
  simp [-getElem?_pos, frzsL]
  refine .inl (call_pv [] (fs := []) (xs := [X.pv]) (cs := []) rfl rfl hyx ?_)
  simp [-getElem?_pos, frzsL]
  refine .inl (call_pv [] (fs := []) (xs := [X.pv]) (cs := []) rfl rfl hbx ?_)
  simp [-getElem?_pos, frzsL, Qu.pv]
  refine .inl (call_pv [] (fs := []) (xs := [X.pv]) (cs := []) rfl rfl hfx ?_)
  simp [-getElem?_pos, frzsL]
  refine call_pv [] (fs := []) (xs := [X.pv]) (cs := []) rfl rfl hax ?_
  simp [-getElem?_pos, frzsL]
  refine .inl (call_pv [] (fs := []) (xs := [X.pv, intsP (allR X)]) (cs := []) rfl rfl hnx ?_)
  have hdue : firstV F X = (if X.needs (allR X) = 0 then 0 else (P.length : Int)) := hfv
  by_cases hnz : X.needs (allR X) = 0
  all_goals
    simp only [hnz, if_true, if_false] at hdue
    simp [-getElem?_pos, frzsL, hnz, hdue]
    refine awp_loopS (fun n τ => ∃ k : Nat, k ≤ ws.length ∧ n = ws.length - k ∧ τ = onS q C ws fr (firstV F X) k)
      ⟨ws.length, onS q C ws fr (firstV F X) 0, Sub.trans' (Sub.mk (by simp [onS, AS.vecT, w16, hdue, hnz]) (by simp [onS, AS.vecT, Qu.cells])) (vecT 124 66 2 17 rfl (by decide)), 0, by omega, rfl, rfl⟩ ?_
    rintro J hJ n τ ⟨k, hk, rfl, rfl⟩
    by_cases hlt : k < ws.length
    · obtain ⟨w, hwk⟩ : ∃ w, ws[k]? = some w := ⟨ws[k], List.getElem?_eq_getElem hlt⟩
      have hwb := hws w (List.mem_of_getElem? hwk)
      have hg : (ws.map (PV.int .u16))[k]? = some (.int .u16 w) := by rw [List.getElem?_map, hwk]; rfl
      have hround := hJ _ _ ⟨k + 1, hlt, rfl, rfl⟩
      have hmeas : ws.length - (k + 1) < ws.length - k := by omega
      have hw2 := wrapS (k := k) (by omega)
      have hww : IntKind.i64.wrap w = w := wrap64 (by omega)
      have hnn : ¬ (q.ms.length : Int) = 0 := by omega
      have htk : ((ws.take (k + 1)).map (lsOf q.ms.length)).map Ls.pv = ((ws.take k).map (lsOf q.ms.length)).map Ls.pv ++ [.agg [.int .i64 (w.tmod (q.ms.length : Int)), .int .i64 ((w.tdiv 8).tmod 40)]] := by
        rw [take_next hwk, List.map_append, List.map_append]; rfl
      have htl : (((ws.take k).map (lsOf q.ms.length)).map Ls.pv).length = k := by rw [List.length_map, List.length_map, List.length_take]; omega
      unfold onS at hround
      rw [htk] at hround
      have hk6 : k + 1 ≤ 1000000 := by omega
      have hk9 : k ≤ 999999 := by omega
      have hwd : IntKind.i64.wrap (w.tdiv 8) = w.tdiv 8 := by
        rw [Int.tdiv_eq_ediv_of_nonneg hwb.1]; exact wrap64 (by omega)
      clear hJ htk
      simp only [onS]
      generalize ((ws.take k).map (lsOf q.ms.length)).map Ls.pv = TK at *
      simp [-getElem?_pos, -List.getElem?_map, w16, Qu.cells, hlt, hg, hww, hnn, hN0, hwd, nble, nblt, hk6, hk9, htl, hw2]
      refine ⟨_, _, hmeas, Sub.mk ?_ ?_, hround⟩
      · simp [w16]
      · simp [Qu.cells]
    · have hke : k = ws.length := by omega
      subst hke
      have hlo := losses_c (ws.map (lsOf q.ms.length)) (by simp; omega)
      have hLl : (ws.map (lsOf q.ms.length)).length = ws.length := by simp
      clear hJ
      simp only [onS, List.take_length]
      generalize ws.map (lsOf q.ms.length) = LS at *
      have htt : List.take ws.length (LS.map Ls.pv) = LS.map Ls.pv := List.take_of_length_le (by simp; omega)
      have hle : ¬ firstV F Y < firstV F X := by omega
      have hne0 : ¬ Y.rs.length ≠ q.rs.length := by omega
      simp [-getElem?_pos, -List.getElem?_map, w16, Qu.cells]
      refine .inl (call_pv [] (fs := []) (xs := [q.pv]) (cs := []) rfl rfl hqc ?_)
      simp [-getElem?_pos, -List.getElem?_map, frzsL]
      refine .inl (call_pv [] (fs := []) (xs := [planP C]) (cs := []) rfl rfl hrw ?_)
      simp [-getElem?_pos, -List.getElem?_map, frzsL]
      refine .inl (call_pv [.loc 124 0] (fs := []) (xs := [lossP LS]) (cs := []) rfl ?_ hlo ?_)
      · simp [frzsL, lossP, htt, hLl]
      simp [-getElem?_pos, -List.getElem?_map, frzsL, htt, hLl]
      refine .inl (call_pv [] (fs := []) (xs := [q.pv, planP C, .int .i64 fr, lossP LS]) (cs := []) rfl rfl hry ?_)
      simp [-getElem?_pos, -List.getElem?_map, frzsL, Qu.pv]
      refine .inl (call_pv [] (fs := []) (xs := [Y.pv]) (cs := []) rfl rfl hby ?_)
      simp [-getElem?_pos, -List.getElem?_map, frzsL]
      refine .inl (call_pv [] (fs := []) (xs := [Y.pv]) (cs := []) rfl rfl hyy ?_)
      simp [-getElem?_pos, -List.getElem?_map, frzsL, hyl]
      refine .inl (call_pv [] (fs := []) (xs := [Y.pv]) (cs := []) rfl rfl hby ?_)
      simp [-getElem?_pos, -List.getElem?_map, frzsL, Qu.pv]
      refine .inl (call_pv [] (fs := []) (xs := [Y.pv]) (cs := []) rfl rfl hfy ?_)
      simp [-getElem?_pos, -List.getElem?_map, frzsL, hle]
      refine awp_loopS (fun n τ => ∃ k : Nat, k ≤ q.rs.length ∧ n = q.rs.length - k ∧ τ = onT q Y C LS fr k)
        ⟨q.rs.length, onT q Y C LS fr 0, Sub.mk (by simp [onT, lossP, htt, hLl]) (by simp [onT, Qu.cells]), 0, by omega, rfl, rfl⟩ ?_
      rintro J hJ n τ ⟨k, hk2, rfl, rfl⟩
      by_cases hlt2 : k < q.rs.length
      · have hround := hJ _ _ ⟨k + 1, hlt2, rfl, rfl⟩
        have hmeas : q.rs.length - (k + 1) < q.rs.length - k := by omega
        have hw2 := wrapS (k := k) (by omega)
        have hgY := hYg k hlt2
        obtain ⟨ha1, ha2⟩ := hab k hlt2
        have hA := hrn k
        have hB := hrl k
        have hqh := hq.h _ (run_mem' hlt2)
        have hgq : (q.rs.map Rq.pv)[k]? = some (.agg [.int .i64 (q.run k).hours, .int .i64 (q.run k).ready, onP (q.run k).on]) := by
          rw [List.getElem?_map, List.getElem?_eq_getElem hlt2, run_of (List.getElem?_eq_getElem hlt2)]; rfl
        have hA' : CallsA Try.prog 42 ([planP C, .int .i64 k, .int .i64 fr, .emp (some true)].map .pv) [] (fun r B => r = .pv (.int .i64 (ranP k [] C (min fr C.length) : Nat)) ∧ B = []) := CallsA.weakArgs hA rfl (fun j x y m v e1 e2 hd => by
          match j with
          | 0 => simp at e1 e2; subst e1 e2; exact hd
          | 1 => simp at e1 e2; subst e1 e2; exact hd
          | 2 => simp at e1 e2; subst e1 e2; exact hd
          | 3 => simp at e1 e2; subst e1 e2; exact emp_lst hd
          | j + 4 => simp at e1)
        clear hJ hYg hab hrn hrl hA
        generalize ranP (k : Int) [] C (min fr C.length) = A at *
        generalize ranP (k : Int) LS C (min fr C.length) = B at *
        generalize (q.run k).hours = H at *
        generalize (if (fr : Int) > (q.run k).ready then (fr : Int) else (q.run k).ready) = Z at *
        have e1 : IntKind.i64.wrap ((A : Int) - (B : Int)) = (A : Int) - (B : Int) := wrap64 (by omega)
        have e2 : IntKind.i64.wrap (H + ((A : Int) - (B : Int))) = H + ((A : Int) - (B : Int)) := wrap64 (by omega)
        have e3 : IntKind.i64.wrap ((A : Int) + (H - (B : Int))) = H + ((A : Int) - (B : Int)) := by rw [wrap64 (by omega)]; omega
        simp [-getElem?_pos, -List.getElem?_map, onT, Qu.cells, hlt2]
        refine .inl (call_pv [] (fs := []) (xs := [planP C, .int .i64 k, .int .i64 fr, .emp (some true)]) (cs := []) rfl rfl hA' ?_)
        simp [-getElem?_pos, -List.getElem?_map, frzsL]
        refine .inl (call_pv [] (fs := []) (xs := [planP C, .int .i64 k, .int .i64 fr, lossP LS]) (cs := []) rfl rfl hB ?_)
        simp [-getElem?_pos, -List.getElem?_map, frzsL, e1, hgY, hgq, hyl, hlt2, e2]
        refine call_pv [] (fs := []) (xs := [planP C, .int .i64 k, .int .i64 fr, .emp (some true)]) (cs := []) rfl rfl hA' ?_
        simp [-getElem?_pos, -List.getElem?_map, frzsL, e1, e2, e3, hw2]
        refine ⟨_, _, hmeas, Sub.mk ?_ ?_, hround⟩
        · simp [onT]
        · simp [onT, Qu.cells]
      · have hke : k = q.rs.length := by omega
        subst hke
        clear hJ
        simp [-getElem?_pos, -List.getElem?_map, onT, Qu.cells]
        refine .inl (call_pv [] (fs := []) (xs := []) (cs := []) rfl rfl hw ?_)
        simp [-getElem?_pos, frzsL]
end Go.Proofs.Ytohhjnpiiackjaa

/-! Layer 10 (queue): reading a list of small numbers. -/
namespace Go.Proofs.Ytohhjnpiiackjaa
open Go.RowKit Go.ChangeShapes Go.WideShapes Go.Deep

set_option maxRecDepth 10000
section
variable {H : Type} {enc : TypeId × Value → H} {W : World} {sp : Nat → Bool} {held : Bool} {r : Reach} {base : Nat}
theorem cq16 : Try.prog.cellsOf 88 = 1 := by kernel_rfl
theorem kq16 {n : Int} (h : IntKind.u16.min ≤ n ∧ n ≤ IntKind.u16.max) : 0 ≤ n ∧ n < 65536 := by
  have e1 : IntKind.u16.min = 0 := by decide
  have e2 : IntKind.u16.max = 65535 := by decide
  omega
theorem rd_u16s {v : Value} {fuel : Nat} {x : DataW H × List MemPlace} (hok : Value.okWide Try.prog W r base 87 v) (h : DataW.trod enc Try.prog W 0 sp held fuel 87 v.cells.toList = some x) :
    ∃ l : List Int, (∀ y ∈ l, 0 ≤ y ∧ y < 65536) ∧ l.length ≤ 9223372036854775807 ∧ RdP W.mem v (.lst false 1 (l.map (PV.int .u16))) := by
  obtain ⟨_, _, _, rfl⟩ := okWide_slice Try.underlying87 hok
  exact rd_slice2 (PV.int .u16) (fun y => 0 ≤ y ∧ y < 65536) Try.underlying87 cq16 (by omega) h (fun k cs y hy hl => by
    obtain ⟨m, e, g, hr⟩ := rd_int Try.underlying88 hy
    exact ⟨m, kq16 g, hr⟩)
end
end Go.Proofs.Ytohhjnpiiackjaa

/-! The statement QueueOn holds: for every input the law answers true, and its arguments read behind the call as before. No conditions. -/
namespace Go.Proofs.Ytohhjnpiiackjaa
open Go.ChangeShapes Go.WideShapes Go.ChangeAt Go.RowKit

set_option maxRecDepth 100000 in
theorem walkQueueOn (v0 v1 v2 : Value) (W : World) {H : Type} {enc : TypeId × Value → H} {base : Nat} {sp : Nat → Bool} {hd : Bool} {d0 d1 d2 : DataW H} {p0 p1 p2 : List MemPlace}
    (k0 : Value.okWide Try.prog W .any base 25 v0) (h0 : DataW.Trod enc Try.prog W 0 sp hd 25 v0 d0 p0)
    (k1 : Value.okWide Try.prog W .any base 5 v1) (h1 : DataW.Trod enc Try.prog W 0 sp hd 5 v1 d1 p1)
    (k2 : Value.okWide Try.prog W .any base 87 v2) (h2 : DataW.Trod enc Try.prog W 0 sp hd 87 v2 d2 p2) :
    Calls Try.prog 12 #[v0, v1, v2] W fun e w' => e = .returned (.bool true) ∧ Keep [] W w' := by
  obtain ⟨n0, h0⟩ := h0
  obtain ⟨s0, w0, r0⟩ := rq_queue k0 h0
  obtain ⟨s1, rfl, rfl, rfl, w1⟩ := open_int Try.underlying5 k1 h1
  obtain ⟨n2, h2⟩ := h2
  obtain ⟨s2, w2, l2, r2⟩ := rd_u16s k2 h2
  refine calls_bool (xs := [s0.pv, .int .u8 s1, .lst false 1 (s2.map (PV.int .u16))]) (b := true) ((on_law s0 s1 s2 (u8_bd w1) w2).mono (fun _ _ h => h.1)) rfl (fun j v x e1 e2 => ?_)
  match j with
  | 0 => simp at e1 e2; subst e1 e2; exact r0
  | 1 => simp at e1 e2; subst e1 e2; exact .int .u8 s1
  | 2 => simp at e1 e2; subst e1 e2; exact r2
  | j + 3 => simp at e1
set_option maxRecDepth 100000 in
theorem liftedQueueOn (os : Os) (started : os.Started) (H : Type) (enc : TypeId × Value → H) :
    ReturnsInHanded {} Try.checked os 12 .any (Rows.queueOnSpec.pre6 enc Try.prog Try.f12 Rows.queueOnRow.domain false) (Rows.queueOnSpec.post enc Try.prog Try.f12 false true false false) := by
  refine returnsInHanded_of_change (C := Try.checked) own started (by kernel_rfl) Try.func12
    (ChangeSpec.witness6 (enc := enc) (C := Try.checked) false ⟨#[], #[.agg #[.slice none 0 0, .slice none 0 0], .int .u8 0, .slice none 0 0], []⟩ 8 (by kernel_rfl) (by kernel_rfl) (by kernel_rfl) (by kernel_rfl)) ?_
  intro W base args ds gs before hval0 hW hcnd _
  have hval : ∀ (j : Nat) t v, Try.f12.params[j]? = some t → args[j]? = some v → Value.okWide Try.prog W .any base t v := hval0
  have hW' := hW
  obtain ⟨p, q, hA0, hV, rfl, hfz, hnd⟩ := hW
  have hA : DataW.TrodAll enc Try.prog W 0 (fun _ => true) true Try.f12.params.toList args.toList ds p := hA0
  rw [Try.params12] at hA hval
  obtain ⟨v0, vs0, d0, ds0, p0, q0, hargs, rfl, rfl, h0, r0⟩ := trodAll_cons hA
  obtain ⟨v1, vs1, d1, ds1, p1, q1, rfl, rfl, rfl, h1, r1⟩ := trodAll_cons r0
  obtain ⟨v2, vs2, d2, ds2, p2, q2, rfl, rfl, rfl, h2, r2⟩ := trodAll_cons r1
  obtain ⟨rfl, rfl, rfl⟩ := trodAll_nil r2
  have hargs' : args = #[v0, v1, v2] := by
    apply Array.ext'
    exact hargs
  subst hargs'
  have k0 := hval 0 _ v0 rfl rfl
  have k1 := hval 1 _ v1 rfl rfl
  have k2 := hval 2 _ v2 rfl rfl
  obtain ⟨rfl, rfl⟩ := trodVars_none hV
  refine (walkQueueOn v0 v1 v2 W k0 h0 k1 h1 k2 h2).mono fun e W' ⟨he, hk⟩ => ?_
  subst he
  exact ⟨_, rfl, post_law (tb := 4) laidP rowedP fullP (by decide +kernel) rfl rfl rfl Try.underlying4 hW' hk⟩
theorem overQueueOn : Rows.queueOnRow.holds Try.pinned (OpenSpec.ofChange Rows.queueOnSpec) :=
  OpenClaim.holds_of_wide 12 Try.f12 rfl rfl rfl rfl rfl rfl rfl ⟨rfl, rfl, rfl, rfl, rfl⟩ rfl rfl rfl rfl rfl (by kernel_rfl) Try.func12 (by kernel_rfl)
    (of_decide_eq_true (by kernel_rfl)) (by unfold Func.isWrapper; first | (rw [if_pos (by decide +kernel)]; kernel_rfl) | (rw [if_neg (by decide +kernel)]; exact ⟨rfl, rfl⟩))
    (fun os started H enc _ => liftedQueueOn os started H enc)
theorem provedQueueOn : Rows.QueueOnSaid := overQueueOn
end Go.Proofs.Ytohhjnpiiackjaa
