/- Layer 10 (queue), the reference: all lists of runs. (Several texts in one.) -/
import Derived.Test.YtohhjnpiiackjaaQuK
import Derived.Test.YtohhjnpiiackjaaQuL
import Derived.Test.YtohhjnpiiackjaaQuI
import Derived.Test.YtohhjnpiiackjaaRows
import Derived.WalkKit
import Derived.ProofKit
import Derived.OpenShut
import Derived.Test.YtohhjnpiiackjaaQuE
set_option linter.unusedVariables false
set_option linter.unusedSimpArgs false
/-! Layer 10 (queue), the reference: all lists of runs. -/
namespace Go.Proofs.Ytohhjnpiiackjaa
open Go.RowKit

set_option maxRecDepth 10000
set_option linter.unusedSimpArgs false

attribute [local simp] AS.exp expG Box.ren AV.map AV.mapL outsOk noRet Site.isRet Box.allS AV.allS AV.allSL retB dropL AS.adds renL outG outOk lentBx inG fnOf lookA List.findIdx?_cons
attribute [local simp] Box.purge Site.isLoc
attribute [local simp] retFz frzL AS.frz AV.frz AV.frzL Box.frz AS.tidy AS.frzC
theorem loopL_next {rec : Nat → List (List Int)} : ∀ (f k : Nat), loopL rec (f + 1) k = loopL rec f k ++ rec (k + f)
  | 0, k => by simp [loopL]
  | f + 1, k => by
    have ih := loopL_next (rec := rec) f (k + 1)
    have e1 : loopL rec (f + 1 + 1) k = rec k ++ loopL rec (f + 1) (k + 1) := rfl
    have e2 : loopL rec (f + 1) k = rec k ++ loopL rec f (k + 1) := rfl
    rw [e1, e2, ih, List.append_assoc, show k + 1 + f = k + (f + 1) by omega]
theorem loopL_len {n : Nat} {rec : Nat → List (List Int)} (h : ∀ k, k < n → (rec k).length ≤ 2 ^ (n - (k + 1))) : ∀ (f k : Nat), k + f ≤ n → (loopL rec f k).length + 2 ^ (n - (k + f)) ≤ 2 ^ (n - k)
  | 0, k, _ => by simp [loopL]
  | f + 1, k, hk => by
    have ih := loopL_len h f (k + 1) (by omega)
    have h1 := h k (by omega)
    have e1 : loopL rec (f + 1) k = rec k ++ loopL rec f (k + 1) := rfl
    rw [e1, List.length_append]
    rw [show k + 1 + f = k + (f + 1) by omega] at ih
    have : 2 ^ (n - k) = 2 ^ (n - (k + 1)) + 2 ^ (n - (k + 1)) := by
      rw [show n - k = n - (k + 1) + 1 by omega, Nat.pow_succ]; omega
    omega
theorem lists_len {n : Nat} : ∀ (m : Nat) (B : List Int) (next : Nat), next ≤ n → (listsM n m B next).length ≤ 2 ^ (n - next)
  | 0, B, next, _ => Nat.one_le_two_pow
  | m + 1, B, next, hx => by
    have := loopL_len (n := n) (rec := fun k => listsM n m (B ++ [(k : Int)]) (k + 1)) (fun k hk => lists_len m _ _ (by omega)) (n - next) next (by omega)
    exact Nat.le_trans (Nat.le_add_right _ _) this
def ListsC (q : Qu) (m : Nat) : Prop := ∀ (B : List Int) (next : Nat), B.length + m ≤ 1000 → next ≤ q.rs.length → CallsA Try.prog 67 ([q.pv, intsP B, .int .i64 next, .int .i64 m].map .pv) [] (fun r Bx => r = .pv (planP (listsM q.rs.length m B next)) ∧ Bx = [])
theorem lists_0 (q : Qu) : ListsC q 0 := by
  intro B next hB _
  refine calls_of_awpF [.loc 16 0] mixed L67_ok (Nat.le_of_ble_eq_true rfl) ?_
  have hb1 : B.length ≤ 1000000 := by omega
  have htB : List.take B.length (List.map intP B) = List.map intP B := List.take_of_length_le (by simp)
  simp [-getElem?_pos, L67, Qu.pv, intsP, planP, listsM, nble, nblt, hb1, htB]
def lsS (q : Qu) (m : Nat) (B : List Int) (k : Nat) (acc : List (List Int)) : AS := ⟨[(1, .pv (intsP B)), (3, .pv (.int .i64 (m + 1 : Nat))), (4, .ptr (.loc 4 0) 0), (9, .vec (.loc 38 0) 1 0 acc.length), (10, .pv (.int .i64 k))], [(.loc 38 0, .arr 26 1 (acc.map intsP)), (.loc 4 0, .cells q.cells)]⟩
def lsJ (q : Qu) (m : Nat) (B : List Int) (k : Nat) (acc : List (List Int)) : AS := ⟨[(25, .vec (.loc 38 0) 1 0 acc.length), (26, .pv q.pv), (32, .vec (.loc 32 0) 1 0 (B.length + 1)), (34, .pv (.int .i64 (k + 1 : Nat))), (36, .pv (.int .i64 m)), (1, .pv (intsP B)), (3, .pv (.int .i64 (m + 1 : Nat))), (4, .ptr (.loc 4 0) 0), (10, .pv (.int .i64 k))],
  [(.loc 32 0, .arr 3 1 ((B ++ [(k : Int)]).map intP)), (.loc 38 0, .arr 26 1 (acc.map intsP)), (.loc 4 0, .cells q.cells)]⟩
set_option maxHeartbeats 8000000 in
theorem lists_s (q : Qu) (hr : q.rs.length ≤ 6) (m : Nat) (ih : ListsC q m) : ListsC q (m + 1) := by
  intro B next hB hnext
  refine calls_of_awpF [.loc 38 0] mixed L67_ok (Nat.le_of_ble_eq_true rfl) ?_
  generalize hR : (fun (r : AV) (Bx : List (Site × Box)) => r = .pv (planP (listsM q.rs.length (m + 1) B next)) ∧ Bx = []) = R
  have hm0 : ¬ ((m : Int) + 1 = 0) := by omega
  have hwm : IntKind.i64.wrap (m : Int) = (m : Int) := wrap64 (by omega)
  have htB : List.take B.length (List.map intP B) = List.map intP B := List.take_of_length_le (by simp)
  simp [-getElem?_pos, L67, Qu.pv, hm0]
  refine awp_loopS (fun n τ => ∃ f : Nat, next + f ≤ q.rs.length ∧ n = q.rs.length - (next + f) ∧ τ = lsS q m B (next + f) (loopL (fun k => listsM q.rs.length m (B ++ [(k : Int)]) (k + 1)) f next))
    ⟨q.rs.length - (next + 0), lsS q m B next [], Sub.trans' (Sub.mk (by simp [lsS, AS.vecT]) (by simp [lsS, AS.vecT, Qu.cells])) (vecT 38 26 1 9 rfl (by decide)), 0, by omega, rfl, rfl⟩ ?_
  rintro J hJ n τ ⟨f, hf, rfl, rfl⟩
  obtain ⟨k, hk⟩ : ∃ k, next + f = k := ⟨_, rfl⟩
  rw [hk]
  rw [hk] at hf
  by_cases hlt : k < q.rs.length
  · have hround := hJ _ _ ⟨f + 1, by omega, rfl, rfl⟩
    rw [loopL_next, show next + (f + 1) = k + 1 by omega, hk] at hround
    have hw := wrapS (k := k) (by omega)
    have hmeas : q.rs.length - (k + 1) < q.rs.length - k := by omega
    have hC := ih (B ++ [(k : Int)]) (k + 1) (by simp; omega) (by omega)
    have hlen := lists_len (n := q.rs.length) (m + 1) B next hnext
    have hacc := loopL_len (n := q.rs.length) (rec := fun k => listsM q.rs.length m (B ++ [(k : Int)]) (k + 1)) (fun k hk => lists_len m _ _ (by omega)) f next (by omega)
    have hpow : 2 ^ (q.rs.length - next) ≤ 2 ^ 6 := Nat.pow_le_pow_right (by decide) (by omega)
    have hll := lists_len (n := q.rs.length) m (B ++ [(k : Int)]) (k + 1) (by omega)
    have hpow2 : 2 ^ (q.rs.length - (k + 1)) ≤ 2 ^ 6 := Nat.pow_le_pow_right (by decide) (by omega)
    have haccl := Nat.le_trans (Nat.le_add_right _ _) hacc
    clear hJ hlen ih hacc
    generalize listsM q.rs.length m (B ++ [(k : Int)]) (k + 1) = new at *
    generalize loopL (fun k => listsM q.rs.length m (B ++ [(k : Int)]) (k + 1)) f next = acc at *
    have hb1 : B.length ≤ 1000000 := by omega
    have hb2 : B.length + 1 ≤ 1000000 := by omega
    have hb3 : B.length ≤ 999999 := by omega
    have hb4 : acc.length + new.length ≤ 1000000 := by omega
    simp [-getElem?_pos, -List.getElem?_map, lsS, Qu.cells, hlt, hw, hwm]
    refine ltS_seq (lsJ q m B k acc) ?_ ?_
    · simp [-getElem?_pos, -List.getElem?_map, ltS_alt, ltS_no, nble, nblt, hb1, hb2, hb3, intsP]
      repeat' (with_reducible refine And.intro ?_ ?_)
      all_goals
        refine Sub.mk ?_ ?_
        · simp [lsJ, intsP, Qu.pv]
        · simp [lsJ, intP, Qu.cells]
    · have hTT : List.take (B.length + 1) ((B ++ [(k : Int)]).map intP) = (B ++ [(k : Int)]).map intP := List.take_of_length_le (by simp)
      have hTl : ((B ++ [(k : Int)]).map intP).length = B.length + 1 := by simp
      simp [-getElem?_pos, -List.getElem?_map, -List.map_append, ltS_alt, ltS_no, lsJ, Qu.cells]
      refine .inl (call_pv [.loc 32 0] (fs := []) (xs := [q.pv, intsP (B ++ [(k : Int)]), .int .i64 (k + 1 : Nat), .int .i64 m]) (cs := []) rfl ?_ hC ?_)
      · simp [-List.map_append, frzsL, intsP, hTT]
      simp [-getElem?_pos, -List.getElem?_map, -List.map_append, ltS_alt, ltS_no, frzsL, planP, nble, nblt, hb4, hw]
      refine ⟨_, _, hmeas, Sub.mk ?_ ?_, hround⟩
      · simp [lsS]
      · simp [lsS, Qu.cells]
  · have he : k = q.rs.length := by omega
    have hf2 : f = q.rs.length - next := by omega
    subst hf2
    clear hJ
    have hV : listsM q.rs.length (m + 1) B next = loopL (fun k => listsM q.rs.length m (B ++ [(k : Int)]) (k + 1)) (q.rs.length - next) next := rfl
    rw [hV] at hR
    generalize loopL (fun k => listsM q.rs.length m (B ++ [(k : Int)]) (k + 1)) (q.rs.length - next) next = acc at *
    have hta : List.take acc.length (acc.map intsP) = acc.map intsP := List.take_of_length_le (by simp)
    rw [he]
    simp [-getElem?_pos, -List.getElem?_map, lsS, Qu.cells, nblt, hta]
    rw [← hR]
    exact ⟨rfl, rfl⟩
theorem lists_c (q : Qu) (hr : q.rs.length ≤ 6) : ∀ m, ListsC q m
  | 0 => lists_0 q
  | m + 1 => lists_s q hr m (lists_c q hr m)
theorem loopL_64 {n : Nat} (hn : n ≤ 6) : ∀ (f k : Nat), (loopL (fun k => listsM n k [] 0) f k).length ≤ 64 * f
  | 0, k => Nat.zero_le _
  | f + 1, k => by
    have ih := loopL_64 hn f (k + 1)
    have h1 := Nat.le_trans (lists_len (n := n) k [] 0 (by omega)) (Nat.pow_le_pow_right (n := 2) (by decide) (show n - 0 ≤ 6 by omega))
    have e1 : loopL (fun k => listsM n k [] 0) (f + 1) k = listsM n k [] 0 ++ loopL (fun k => listsM n k [] 0) f (k + 1) := rfl
    rw [e1, List.length_append]
    omega
def alS (q : Qu) (k : Nat) (acc : List (List Int)) : AS := ⟨[(1, .ptr (.loc 1 0) 0), (3, .vec (.loc 16 0) 1 0 acc.length), (4, .pv (.int .i64 k))], [(.loc 16 0, .arr 26 1 (acc.map intsP)), (.loc 1 0, .cells q.cells)]⟩
set_option maxHeartbeats 8000000 in
theorem rlists_c (q : Qu) (hr : q.rs.length ≤ 6) : CallsA Try.prog 32 ([q.pv].map .pv) [] (fun r Bx => r = .pv (planP (allL q.rs.length)) ∧ Bx = []) := by
  refine calls_of_awpF [.loc 16 0] mixed L32_ok (Nat.le_of_ble_eq_true rfl) ?_
  generalize hR : (fun (r : AV) (Bx : List (Site × Box)) => r = .pv (planP (allL q.rs.length)) ∧ Bx = []) = R
  simp [-getElem?_pos, L32, Qu.pv]
  refine awp_loopS (fun n τ => ∃ f : Nat, f ≤ q.rs.length ∧ n = q.rs.length - f ∧ τ = alS q (1 + f) (loopL (fun k => listsM q.rs.length k [] 0) f 1))
    ⟨q.rs.length, alS q 1 [], Sub.trans' (Sub.mk (by simp [alS, AS.vecT]) (by simp [alS, AS.vecT, Qu.cells])) (vecT 16 26 1 3 rfl (by decide)), 0, by omega, rfl, rfl⟩ ?_
  rintro J hJ n τ ⟨f, hf, rfl, rfl⟩
  by_cases hlt : f < q.rs.length
  · have hround := hJ _ _ ⟨f + 1, by omega, rfl, rfl⟩
    rw [loopL_next] at hround
    have hw := wrapS (k := 1 + f) (by omega)
    have hmeas : q.rs.length - (f + 1) < q.rs.length - f := by omega
    have hC := lists_c q hr (1 + f) [] 0 (by simp; omega) (by omega)
    have hC' : CallsA Try.prog 67 ([q.pv, .emp (some true), .int .i64 (0 : Nat), .int .i64 (1 + f : Nat)].map .pv) [] (fun r Bx => r = .pv (planP (listsM q.rs.length (1 + f) [] 0)) ∧ Bx = []) := hC.weakArgs rfl (fun j x y m v e1 e2 hd => by
      match j with
      | 0 => simp at e1 e2; subst e1 e2; exact hd
      | 1 => simp at e1 e2; subst e1 e2; exact emp_lst hd
      | 2 => simp at e1 e2; subst e1 e2; exact hd
      | 3 => simp at e1 e2; subst e1 e2; exact hd
      | j + 4 => simp at e1)
    have hacc := loopL_64 (n := q.rs.length) hr f 1
    have hll := Nat.le_trans (lists_len (n := q.rs.length) (1 + f) [] 0 (by omega)) (Nat.pow_le_pow_right (n := 2) (by decide) (show q.rs.length - 0 ≤ 6 by omega))
    clear hJ hC
    have hle : (1 : Int) + (f : Int) ≤ (q.rs.length : Int) := by omega
    have hle2 : 1 + f ≤ q.rs.length := by omega
    rw [show 1 + (f + 1) = 1 + f + 1 by omega] at hround
    generalize listsM q.rs.length (1 + f) [] 0 = new at *
    generalize loopL (fun k => listsM q.rs.length k [] 0) f 1 = acc at *
    have hb4 : acc.length + new.length ≤ 1000000 := by omega
    simp [-getElem?_pos, -List.getElem?_map, alS, Qu.cells, hle, hle2]
    refine .inl (call_pv [] (fs := []) (xs := [q.pv, .emp (some true), .int .i64 (0 : Nat), .int .i64 (1 + f : Nat)]) (cs := []) rfl ?_ hC' ?_)
    · simp [frzsL, Qu.pv]
    have hw' : IntKind.i64.wrap ((1 : Int) + (f : Int) + 1) = ((1 + f + 1 : Nat) : Int) := by rw [← hw]; congr 1
    simp [-getElem?_pos, -List.getElem?_map, frzsL, planP, nble, nblt, hb4, hw']
    refine ⟨_, _, hmeas, Sub.mk ?_ ?_, hround⟩
    · simp [alS]
    · simp [alS, Qu.cells]
  · have he : f = q.rs.length := by omega
    subst he
    clear hJ
    have hV : allL q.rs.length = loopL (fun k => listsM q.rs.length k [] 0) q.rs.length 1 := rfl
    rw [hV] at hR
    generalize loopL (fun k => listsM q.rs.length k [] 0) q.rs.length 1 = acc at *
    have hta : List.take acc.length (acc.map intsP) = acc.map intsP := List.take_of_length_le (by simp)
    have hgt : ¬ (1 : Int) + (q.rs.length : Int) ≤ (q.rs.length : Int) := by omega
    simp [-getElem?_pos, -List.getElem?_map, alS, Qu.cells, nblt, hta, hgt]
    rw [← hR]
    exact ⟨rfl, rfl⟩
end Go.Proofs.Ytohhjnpiiackjaa

/-! Layer 10 (queue): the law QueueReasons. -/
namespace Go.Proofs.Ytohhjnpiiackjaa
open Go.RowKit

set_option maxRecDepth 10000
set_option linter.unusedSimpArgs false

attribute [local simp] AS.exp expG Box.ren AV.map AV.mapL outsOk noRet Site.isRet Box.allS AV.allS AV.allSL retB dropL AS.adds renL outG outOk lentBx inG fnOf lookA List.findIdx?_cons
attribute [local simp] Box.purge Site.isLoc
attribute [local simp] retFz frzL AS.frz AV.frz AV.frzL Box.frz AS.tidy AS.frzC
def rsX (x : Option (List Int)) : PV := match x with
  | none => .emp (some true)
  | some l => intsP l
def rsS (q : Qu) (X : List Int) (u : Nat) (x : Option (List Int)) (i : Nat) : AS := ⟨[(1, .ptr (.loc 1 0) 0), (3, .pv (intsP X)), (4, .pv (.int .i64 0)), (5, .pv (.int .i64 0)), (6, .pv (rsX x)), (7, .pv (.int .i64 u)), (9, .pv (planP (allL q.rs.length))), (10, .pv (.int .i64 i))], [(.loc 1 0, .cells q.cells)]⟩
theorem find_ix {P : List Int → Bool} {l : List (List Int)} {x : List Int} (h : l.find? P = some x) : ∃ k : Nat, l[k]? = some x ∧ P x = true ∧ ∀ (i : Nat) (y : List Int), i < k → l[i]? = some y → P y = false := by
  obtain ⟨h1, k, hk, h2, h3⟩ := List.find?_eq_some_iff_getElem.1 h
  refine ⟨k, by rw [List.getElem?_eq_getElem hk, h2], h1, fun i y hi e => ?_⟩
  have := h3 i hi
  rw [List.getElem?_eq_getElem (by omega)] at e
  cases e
  simpa using this
set_option maxHeartbeats 8000000 in
theorem reasons_law (q : Qu) : Gives Try.prog 5 [q.pv] (.bool true) := by
  have hF : 407 < 408 := by decide
  generalize 408 = F at hF
  have hw := wakes_c
  refine calls_of_awpS mixed L5_ok (Nat.le_of_ble_eq_true rfl) ?_
  simp [-getElem?_pos, L5, Qu.pv]
  refine call_gives (k := 0) (fs := []) (xs := [q.pv]) (cs := []) rfl rfl (lfew_c q) rfl ?_
  by_cases ht : q.few = true
  case neg =>
    simp [-getElem?_pos, ht]
    refine call_gives (k := 0) (fs := []) (xs := []) (cs := []) rfl rfl hw rfl ?_
    simp [-getElem?_pos]
  obtain ⟨hs, h3⟩ := Qu.few_of ht
  have h1 := hs.m
  have h2 := hs.r
  have h36 : ∀ l ∈ q.ms, l.length ≤ 1000000 := fun l h => by have := hs.s l h; omega
  have hqc := queue_of hs
  have hfa := lfault_c q (by omega) (by omega) h36
  have he := reason_c hF q (by omega) (by omega) h36
  unfold Qu.reasP at he
  simp [-getElem?_pos, ht]
  refine .inl (call_pv [] (fs := []) (xs := [q.pv]) (cs := []) rfl rfl hqc ?_)
  simp [-getElem?_pos, frzsL]
  refine .inl (call_pv [] (fs := []) (xs := [q.pv]) (cs := []) rfl rfl he ?_)
  clear he
  by_cases hc : q.check = 0
  case neg =>
    rw [if_pos hc]
    simp [-getElem?_pos, frzsL]
    refine .inl (call_pv [] (fs := []) (xs := [q.pv]) (cs := []) rfl rfl hfa ?_)
    simp [-getElem?_pos, frzsL, hc, intsP]
    refine .inl (call_pv [] (fs := []) (xs := []) (cs := []) rfl rfl hw ?_)
    simp [-getElem?_pos, frzsL]
  have hq := Qu.ok_of hc
  have hn3 := h3 hc
  have hre := rearl_c hq hn3
  have hal := rlists_c q (by omega)
  rw [hc] at hfa
  rw [if_neg (by simp [hc])]
  by_cases h0 : q.untilM F < 0
  · rw [if_pos h0]
    rcases early_spec hF hq with ⟨P, e, _, _, hl40, hfe, hno, _⟩ | ⟨e, _, _⟩
    · have hP0 : P.length = 0 := by unfold Qu.untilM at h0; rw [e] at h0; simp only at h0; omega
      rw [earlR_some hq hn3 hl40 hfe hno, hP0] at hre
      have hwm : IntKind.i64.wrap (-1) = -1 := rfl
      generalize allL q.rs.length = AL at *
      simp [-getElem?_pos, frzsL]
      refine .inl (call_pv [] (fs := []) (xs := [q.pv]) (cs := []) rfl rfl hfa ?_)
      simp [-getElem?_pos, frzsL]
      refine .inl (call_pv [] (fs := []) (xs := [q.pv, .int .i64 40]) (cs := []) rfl rfl hre ?_)
      simp [-getElem?_pos, frzsL, hwm]
      refine .inl (call_pv [] (fs := []) (xs := [q.pv]) (cs := []) rfl rfl hal ?_)
      simp [-getElem?_pos, frzsL]
      refine awp_loopS (fun n τ => n = 0 ∧ τ = ⟨[(1, .ptr (.loc 1 0) 0), (3, .pv (intsP [])), (4, .pv (.int .i64 7)), (5, .pv (.int .i64 7)), (6, .pv (.emp (some true))), (9, .pv (planP AL)), (10, .pv (.int .i64 0))], [(.loc 1 0, .cells q.cells)]⟩) ⟨0, _, Sub.mk (by simp) (by simp [Qu.cells]), rfl, rfl⟩ ?_
      rintro J hJ n τ ⟨rfl, rfl⟩
      clear hJ
      cases AL with
      | nil =>
        simp [-getElem?_pos, planP, intsP]
        refine .inl (call_pv [] (fs := []) (xs := []) (cs := []) rfl rfl hw ?_)
        simp [-getElem?_pos, frzsL]
      | cons a r =>
        have hpos : (0 : Int) < (r.length : Int) + 1 := by omega
        simp [-getElem?_pos, planP, intsP, hpos]
        refine .inl (call_pv [] (fs := []) (xs := []) (cs := []) rfl rfl hw ?_)
        simp [-getElem?_pos, frzsL]
    · unfold Qu.untilM at h0; rw [e] at h0; simp only at h0; omega
  rw [if_neg h0]
  obtain ⟨u, hu, hu40, hL⟩ : ∃ u : Nat, q.untilM F = u ∧ u ≤ 40 ∧ Lack q u := by
    unfold Qu.untilM at h0 ⊢
    rcases early_spec hF hq with ⟨P, e, _, _, hl40, _, _, hL⟩ | ⟨e, _, hL⟩
    · rw [e] at h0 ⊢
      simp only at h0 ⊢
      exact ⟨P.length - 1, by omega, by omega, by rcases hL with hL | hL; omega; exact hL⟩
    · rw [e]; exact ⟨40, rfl, Nat.le_refl _, hL⟩
  obtain ⟨x, x1, x2, x3, x4, x5⟩ := lack_find hL
  have hX : q.reasM F = x := by unfold Qu.reasM; rw [hu, Int.toNat_natCast, x2]
  rw [hX]
  obtain ⟨k, k1, k2, k3⟩ := find_ix x1
  have hR := Runs.of_rising x3
  have hxl : x.length ≤ 1000 := by
    have := nodup_lt q.rs.length (x.map Int.toNat) (by
      rw [List.nodup_iff_pairwise_ne, List.pairwise_map]
      refine List.Pairwise.imp_of_mem ?_ (rising_inc x3)
      intro a b ha hb hlt e
      have := hR.inn a ha
      have := hR.inn b hb
      omega) (fun y hy => by
      obtain ⟨z, hz, rfl⟩ := List.mem_map.1 hy
      have := hR.inn z hz
      omega)
    rw [List.length_map] at this
    omega
  have hnil : nilOf QK.sl (.pv (.lst false 1 (x.map intP))) = some false := by
    cases x with
    | nil => exact absurd rfl x4
    | cons a r => rfl
  have hnile : nilOf QK.sl (.pv (.emp (some true))) = some true := rfl
  have hint := ints_c x x (by omega)
  rw [decide_eq_true rfl] at hint
  have hxp : 0 < x.length := List.length_pos_iff.2 x4
  have hxp2 : (0 : Int) < (x.length : Int) := by omega
  obtain ⟨E, hE1, hE2⟩ : ∃ E, earlR q = E ∧ ((0 ≤ E ∧ IntKind.i64.wrap (E - 1) = (u : Int)) ∨ (¬ 0 ≤ E ∧ (u : Int) = 40)) := by
    rcases early_spec hF hq with ⟨P, e, _, _, hl40, hfe, hno, _⟩ | ⟨e, hno, _⟩
    · refine ⟨P.length, earlR_some hq hn3 hl40 hfe hno, .inl ⟨by omega, ?_⟩⟩
      unfold Qu.untilM at hu
      rw [e] at hu
      simp only at hu
      rw [wrap64 (by omega), hu]
    · refine ⟨-1, earlR_none hq hn3 hno, .inr ⟨by omega, ?_⟩⟩
      unfold Qu.untilM at hu
      rw [e] at hu
      simp only at hu
      omega
  rw [hE1] at hre
  have hmem : ∀ (i : Nat) (y : List Int), (allL q.rs.length)[i]? = some y → q.rising y = true := fun i y e => (mem_allL.1 (List.mem_of_getElem? e)).1
  have hu0 : ¬ ((u : Int) < 0) := by omega
  have hkl := (List.getElem?_eq_some_iff.1 k1).1
  generalize hAL : allL q.rs.length = AL at *
  clear h0 hu hL x1 x2 hX hE1
  simp [-getElem?_pos, frzsL]
  refine .inl (call_pv [] (fs := []) (xs := [q.pv]) (cs := []) rfl rfl hfa ?_)
  simp [-getElem?_pos, frzsL]
  refine .inl (call_pv [] (fs := []) (xs := [q.pv, .int .i64 40]) (cs := []) rfl rfl hre ?_)
  rcases hE2 with ⟨a, b⟩ | ⟨a, b⟩
  all_goals
    simp [-getElem?_pos, frzsL, a, b, hu0]
    refine .inl (call_pv [] (fs := []) (xs := [q.pv]) (cs := []) rfl rfl hal ?_)
    simp [-getElem?_pos, frzsL]
    refine awp_loopS (fun n τ => ∃ (i : Nat) (o : Option (List Int)), ((o = none ∧ i ≤ k) ∨ (o = some x ∧ i = k + 1)) ∧ n = k + 1 - i ∧ τ = rsS q x u o i)
      ⟨k + 1 - 0, rsS q x u none 0, Sub.mk (by simp [rsS, rsX, hAL, b]) (by simp [rsS, Qu.cells]), 0, none, .inl ⟨rfl, Nat.zero_le _⟩, rfl, rfl⟩ ?_
    rintro J hJ n τ ⟨i, o, ho, rfl, rfl⟩
    rcases ho with ⟨rfl, hik⟩ | ⟨rfl, rfl⟩
    · obtain ⟨y, hy⟩ : ∃ y, AL[i]? = some y := ⟨AL[i]'(by omega), List.getElem?_eq_getElem _⟩
      have hyr := hmem i y hy
      have hyR := Runs.of_rising hyr
      have hg : (AL.map intsP)[i]? = some (.lst false 1 (y.map intP)) := by rw [List.getElem?_map, hy]; rfl
      have hlt : i < AL.length := by omega
      have hlti : (i : Int) < (AL.length : Int) := by omega
      have hwi := wrapS (k := i) (by
        have := loopL_64 (n := q.rs.length) (by omega) q.rs.length 1
        have e : allL q.rs.length = loopL (fun k => listsM q.rs.length k [] 0) q.rs.length 1 := rfl
        rw [← e, hAL] at this
        omega)
      have hyl : y.length ≤ 1000 := by
        have := nodup_lt q.rs.length (y.map Int.toNat) (by
          rw [List.nodup_iff_pairwise_ne, List.pairwise_map]
          refine List.Pairwise.imp_of_mem ?_ (rising_inc hyr)
          intro a b ha hb hlt e
          have := hyR.inn a ha
          have := hyR.inn b hb
          omega) (fun z hz => by
          obtain ⟨z', hz', rfl⟩ := List.mem_map.1 hz
          have := hyR.inn z' hz'
          omega)
        rw [List.length_map] at this
        omega
      have hne := needs_c q y hyl (by omega) hq.h hyR.inn
      have hro := rroom_c q hq y hyl hyR.inn u (by omega)
      rw [rroom_is hq hyR] at hro
      have hmeas : k + 1 - (i + 1) < k + 1 - i := by omega
      have hno : i < k → ¬ (q.roomM y u : Int) < q.needs y := fun hi => by have := k3 i y hi hy; simpa [lackB] using this
      have hyes : i = k → y = x ∧ (q.roomM x u : Int) < q.needs x := fun hi => by
        subst hi
        rw [k1] at hy; cases hy
        exact ⟨rfl, x5⟩
      by_cases hikk : i < k
      · have hround := hJ _ _ ⟨i + 1, none, .inl ⟨rfl, by omega⟩, rfl, rfl⟩
        have hnl := hno hikk
        clear hJ
        generalize q.needs y = N at *
        generalize q.roomM y u = A at *
        have hnl2 : N ≤ A := by omega
        simp [-getElem?_pos, -List.getElem?_map, rsS, rsX, planP, hAL, hlt, hlti, hg, hnile, Qu.cells]
        refine call_give (k := 0) (fs := []) (xs := [q.pv, intsP y]) (cs := []) rfl rfl hne rfl ?_
        simp [-getElem?_pos, -List.getElem?_map]
        refine call_gives (k := 0) (fs := []) (xs := [q.pv, intsP y, .int .i64 u]) (cs := []) rfl rfl hro rfl ?_
        simp [-getElem?_pos, -List.getElem?_map, hnl, hnl2, hwi]
        refine ⟨_, _, hmeas, Sub.mk ?_ ?_, hround⟩
        · simp [rsS, rsX, planP, hAL]
        · simp [rsS, Qu.cells]
      · obtain ⟨rfl, hyl2⟩ := hyes (by omega)
        have hround := hJ _ _ ⟨i + 1, some y, .inr ⟨rfl, by omega⟩, rfl, rfl⟩
        clear hJ
        generalize q.needs y = N at *
        generalize q.roomM y u = A at *
        have hnl2 : ¬ N ≤ A := by omega
        simp [-getElem?_pos, -List.getElem?_map, rsS, rsX, planP, hAL, hlt, hlti, hg, hnile, Qu.cells]
        refine call_give (k := 0) (fs := []) (xs := [q.pv, intsP y]) (cs := []) rfl rfl hne rfl ?_
        simp [-getElem?_pos, -List.getElem?_map]
        refine call_gives (k := 0) (fs := []) (xs := [q.pv, intsP y, .int .i64 u]) (cs := []) rfl rfl hro rfl ?_
        simp [-getElem?_pos, -List.getElem?_map, hyl2, hnl2, hwi, hlt, hg]
        refine ⟨_, _, hmeas, Sub.mk ?_ ?_, hround⟩
        · simp [rsS, rsX, planP, hAL, intsP]
        · simp [rsS, Qu.cells]
    · clear hJ
      by_cases hlast : k + 1 < AL.length
      all_goals
        have hlast2 : ((k : Int) + 1 < (AL.length : Int)) = (k + 1 < AL.length) := propext (by omega)
        simp [-getElem?_pos, -List.getElem?_map, rsS, rsX, planP, hAL, hlast, hlast2, Qu.cells, intsP, hxp, hxp2, hnil]
        refine .inl (call_pv [] (fs := []) (xs := [intsP x, intsP x]) (cs := []) rfl rfl hint ?_)
        simp [-getElem?_pos, frzsL]
        refine .inl (call_pv [] (fs := []) (xs := []) (cs := []) rfl rfl hw ?_)
        simp [-getElem?_pos, frzsL]
end Go.Proofs.Ytohhjnpiiackjaa

/-! The statement QueueReasons holds: for every input the law answers true, and its arguments read behind the call as before. No conditions. -/
namespace Go.Proofs.Ytohhjnpiiackjaa
open Go.ChangeShapes Go.WideShapes Go.ChangeAt Go.RowKit

set_option maxRecDepth 100000 in
theorem walkQueueReasons (v0 : Value) (W : World) {H : Type} {enc : TypeId × Value → H} {base : Nat} {sp : Nat → Bool} {hd : Bool} {d0 : DataW H} {p0 : List MemPlace}
    (k0 : Value.okWide Try.prog W .any base 25 v0) (h0 : DataW.Trod enc Try.prog W 0 sp hd 25 v0 d0 p0) :
    Calls Try.prog 5 #[v0] W fun e w' => e = .returned (.bool true) ∧ Keep [] W w' := by
  obtain ⟨n0, h0⟩ := h0
  obtain ⟨s0, w0, r0⟩ := rq_queue k0 h0
  refine calls_bool (xs := [s0.pv]) (b := true) ((reasons_law s0).mono (fun _ _ h => h.1)) rfl (fun j v x e1 e2 => ?_)
  match j with
  | 0 => simp at e1 e2; subst e1 e2; exact r0
  | j + 1 => simp at e1
set_option maxRecDepth 100000 in
theorem liftedQueueReasons (os : Os) (started : os.Started) (H : Type) (enc : TypeId × Value → H) :
    ReturnsInHanded {} Try.checked os 5 .any (Rows.queueReasonsSpec.pre6 enc Try.prog Try.f5 Rows.queueReasonsRow.domain false) (Rows.queueReasonsSpec.post enc Try.prog Try.f5 false true false false) := by
  refine returnsInHanded_of_change (C := Try.checked) own started (by kernel_rfl) Try.func5
    (ChangeSpec.witness6 (enc := enc) (C := Try.checked) false ⟨#[], #[.agg #[.slice none 0 0, .slice none 0 0]], []⟩ 8 (by kernel_rfl) (by kernel_rfl) (by kernel_rfl) (by kernel_rfl)) ?_
  intro W base args ds gs before hval0 hW hcnd _
  have hval : ∀ (j : Nat) t v, Try.f5.params[j]? = some t → args[j]? = some v → Value.okWide Try.prog W .any base t v := hval0
  have hW' := hW
  obtain ⟨p, q, hA0, hV, rfl, hfz, hnd⟩ := hW
  have hA : DataW.TrodAll enc Try.prog W 0 (fun _ => true) true Try.f5.params.toList args.toList ds p := hA0
  rw [Try.params5] at hA hval
  obtain ⟨v0, vs0, d0, ds0, p0, q0, hargs, rfl, rfl, h0, r0⟩ := trodAll_cons hA
  obtain ⟨rfl, rfl, rfl⟩ := trodAll_nil r0
  have hargs' : args = #[v0] := by
    apply Array.ext'
    exact hargs
  subst hargs'
  have k0 := hval 0 _ v0 rfl rfl
  obtain ⟨rfl, rfl⟩ := trodVars_none hV
  refine (walkQueueReasons v0 W k0 h0).mono fun e W' ⟨he, hk⟩ => ?_
  subst he
  exact ⟨_, rfl, post_law (tb := 4) laidP rowedP fullP (by decide +kernel) rfl rfl rfl Try.underlying4 hW' hk⟩
theorem overQueueReasons : Rows.queueReasonsRow.holds Try.pinned (OpenSpec.ofChange Rows.queueReasonsSpec) :=
  OpenClaim.holds_of_wide 5 Try.f5 rfl rfl rfl rfl rfl rfl rfl ⟨rfl, rfl, rfl, rfl, rfl⟩ rfl rfl rfl rfl rfl (by kernel_rfl) Try.func5 (by kernel_rfl)
    (of_decide_eq_true (by kernel_rfl)) (by unfold Func.isWrapper; first | (rw [if_pos (by decide +kernel)]; kernel_rfl) | (rw [if_neg (by decide +kernel)]; exact ⟨rfl, rfl⟩))
    (fun os started H enc _ => liftedQueueReasons os started H enc)
theorem provedQueueReasons : Rows.QueueReasonsSaid := overQueueReasons
end Go.Proofs.Ytohhjnpiiackjaa
