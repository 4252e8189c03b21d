/- Layer 10 (queue): the law QueueEarliest. (Several texts in one.) -/
import Derived.Test.YtohhjnpiiackjaaQuJ
import Derived.Test.YtohhjnpiiackjaaQuH
import Derived.Test.YtohhjnpiiackjaaQuE
import Derived.Test.YtohhjnpiiackjaaRows
import Derived.WalkKit
import Derived.ProofKit
import Derived.OpenShut
set_option linter.unusedVariables false
set_option linter.unusedSimpArgs false
/-! Layer 10 (queue): the law QueueEarliest. -/
namespace Go.Proofs.Ytohhjnpiiackjaa
open Go.RowKit

set_option maxRecDepth 10000
set_option linter.unusedSimpArgs false

attribute [local simp] AS.exp expG Box.ren AV.map AV.mapL outsOk noRet Site.isRet Box.allS AV.allS AV.allSL retB dropL AS.adds renL outG outOk lentBx inG fnOf lookA List.findIdx?_cons
attribute [local simp] Box.purge Site.isLoc
attribute [local simp] retFz frzL AS.frz AV.frz AV.frzL Box.frz AS.tidy AS.frzC
def Qu.few (q : Qu) : Bool := q.thin && (decide (q.check ≠ 0) || (decide (q.rs.length ≤ 3) && decide (q.needs (allR q) ≤ 14)))
theorem lfew_c (q : Qu) : Gives Try.prog 26 [q.pv] (.bool q.few) := by
  refine calls_of_awpS mixed L26_ok (Nat.le_of_ble_eq_true rfl) ?_
  simp [-getElem?_pos, L26, Qu.pv]
  refine call_give (k := 0) (fs := []) (xs := [q.pv]) (cs := []) rfl rfl (thin_c q) rfl ?_
  cases ht : q.thin with
  | false =>
    have : q.few = false := by unfold Qu.few; rw [ht]; rfl
    simp [-getElem?_pos, this]
  | true =>
    have hs := Qu.small_of ht
    have h1 := hs.m
    have h2 := hs.r
    have hf := fault_c q (by omega) (by omega) (fun l h => by have := hs.s l h; omega)
    simp [-getElem?_pos]
    refine call_give (k := 0) (fs := []) (xs := [q.pv]) (cs := []) rfl rfl hf rfl ?_
    by_cases hc : q.check = 0
    · have hq := Qu.ok_of hc
      have hfw : q.few = (decide (q.rs.length ≤ 3) && decide (q.needs (allR q) ≤ 14)) := by unfold Qu.few; rw [ht, decide_eq_false (by simp [hc])]; rfl
      rw [hfw]
      have hal := all_c q (by omega)
      have hne := needs_c q (allR q) (by unfold allR; simp; omega) (by omega) hq.h allR_in
      have e : (List.range q.rs.length).map Int.ofNat = allR q := rfl
      rw [e] at hal
      generalize allR q = A at *
      by_cases h3 : q.rs.length ≤ 3
      · have h3' : (q.rs.length : Int) ≤ 3 := by omega
        simp [-getElem?_pos, frzsL, hc, Qu.cells, h3, h3']
        refine call_pv [] (fs := []) (xs := [q.pv]) (cs := []) rfl rfl hal ?_
        simp [-getElem?_pos, frzsL]
        refine .inl (call_pv [] (fs := []) (xs := [q.pv, intsP A]) (cs := []) rfl rfl hne ?_)
        simp [-getElem?_pos, frzsL]
      · have h3' : ¬ (q.rs.length : Int) ≤ 3 := by omega
        simp [-getElem?_pos, frzsL, hc, Qu.cells, h3, h3']
    · have hfw : q.few = true := by unfold Qu.few; rw [ht, decide_eq_true hc]; rfl
      rw [hfw]
      simp [-getElem?_pos, frzsL, hc]
theorem Qu.few_of {q : Qu} (h : q.few = true) : q.small ∧ (q.check = 0 → q.rs.length ≤ 3) := by
  unfold Qu.few at h
  simp only [Bool.and_eq_true, Bool.or_eq_true, decide_eq_true_eq] at h
  refine ⟨Qu.small_of h.1, fun hc => ?_⟩
  rcases h.2 with h2 | h2
  · exact absurd hc h2
  · exact h2.1
theorem cut_len {q : Qu} (hq : q.ok) (P : List (List Int)) : ∀ l ∈ q.cutP P, l.length ≤ 1000 := fun l hl => by
  unfold Qu.cutP at hl
  obtain ⟨l0, _, rfl⟩ := List.mem_map.1 hl
  rw [List.length_take]; have := hq.m; omega
set_option maxHeartbeats 4000000 in
theorem early_law (q : Qu) : Gives Try.prog 4 [q.pv] (.bool true) := by
  have hF : 407 < 408 := by decide
  generalize 408 = F at hF
  have hw := wakes_c
  refine calls_of_awpS mixed L4_ok (Nat.le_of_ble_eq_true rfl) ?_
  simp [-getElem?_pos, L4, Qu.pv]
  refine call_gives (k := 0) (fs := []) (xs := [q.pv]) (cs := []) rfl rfl (lfew_c q) rfl ?_
  by_cases ht : q.few = true
  case neg =>
    simp [-getElem?_pos, ht]
    refine call_gives (k := 0) (fs := []) (xs := []) (cs := []) rfl rfl hw rfl ?_
    simp [-getElem?_pos]
  obtain ⟨hs, h3⟩ := Qu.few_of ht
  have h1 := hs.m
  have h2 := hs.r
  have h36 : ∀ l ∈ q.ms, l.length ≤ 1000000 := fun l h => by have := hs.s l h; omega
  have hqc := queue_of hs
  have hfa := lfault_c q (by omega) (by omega) h36
  have he := earliest_c hF q (by omega) (by omega) h36
  unfold Qu.earlP at he
  simp [-getElem?_pos, ht]
  refine .inl (call_pv [] (fs := []) (xs := [q.pv]) (cs := []) rfl rfl hqc ?_)
  simp [-getElem?_pos, frzsL]
  refine .inl (call_pv [] (fs := []) (xs := [q.pv]) (cs := []) rfl rfl he ?_)
  clear he
  by_cases hc : q.check = 0
  · have hq := Qu.ok_of hc
    have hn3 := h3 hc
    have hre := rearl_c hq hn3
    rw [hc] at hfa
    rw [if_neg (by simp [hc])]
    rcases early_spec hF hq with ⟨P, e, hrt, hend, hl40, hfe, hno, _⟩ | ⟨e, hno, _⟩
    · have hcl : (q.cutP P).length = P.length := by simp [Qu.cutP]
      have hip := isplan_c q hq (q.cutP P) (by omega) (cut_len hq P)
      have hen := rend_c (q.cutP P) (by omega) (cut_len hq P)
      rw [hrt] at hip
      rw [hend] at hen
      rw [earlR_some hq hn3 hl40 hfe hno] at hre
      have hneg : ¬ ((P.length : Int) < 0) := by omega
      rw [e]
      simp [-getElem?_pos, frzsL]
      generalize q.cutP P = C at *
      refine .inl (call_pv [] (fs := []) (xs := [q.pv]) (cs := []) rfl rfl hfa ?_)
      simp [-getElem?_pos, frzsL]
      refine .inl (call_pv [] (fs := []) (xs := [q.pv, .int .i64 40]) (cs := []) rfl rfl hre ?_)
      simp [-getElem?_pos, frzsL, hneg, planP, hcl]
      refine .inl (call_pv [] (fs := []) (xs := [q.pv, planP C]) (cs := []) rfl rfl hip ?_)
      simp [-getElem?_pos, frzsL]
      refine .inl (call_pv [] (fs := []) (xs := [planP C]) (cs := []) rfl rfl hen ?_)
      simp [-getElem?_pos, frzsL]
      refine .inl (call_pv [] (fs := []) (xs := []) (cs := []) rfl rfl hw ?_)
      simp [-getElem?_pos, frzsL]
    · rw [earlR_none hq hn3 hno] at hre
      rw [e]
      simp [-getElem?_pos, frzsL]
      refine .inl (call_pv [] (fs := []) (xs := [q.pv]) (cs := []) rfl rfl hfa ?_)
      simp [-getElem?_pos, frzsL]
      refine .inl (call_pv [] (fs := []) (xs := [q.pv, .int .i64 40]) (cs := []) rfl rfl hre ?_)
      simp [-getElem?_pos, frzsL, planP]
      refine .inl (call_pv [] (fs := []) (xs := []) (cs := []) rfl rfl hw ?_)
      simp [-getElem?_pos, frzsL]
  · rw [if_pos hc]
    simp [-getElem?_pos, frzsL]
    refine .inl (call_pv [] (fs := []) (xs := [q.pv]) (cs := []) rfl rfl hfa ?_)
    simp [-getElem?_pos, frzsL, hc, planP]
    refine .inl (call_pv [] (fs := []) (xs := []) (cs := []) rfl rfl hw ?_)
    simp [-getElem?_pos, frzsL]
end Go.Proofs.Ytohhjnpiiackjaa

/-! The statement QueueEarliest holds: for every input the law answers true, and its arguments read behind the call as before. No conditions. -/
namespace Go.Proofs.Ytohhjnpiiackjaa
open Go.ChangeShapes Go.WideShapes Go.ChangeAt Go.RowKit

set_option maxRecDepth 100000 in
theorem walkQueueEarliest (v0 : Value) (W : World) {H : Type} {enc : TypeId × Value → H} {base : Nat} {sp : Nat → Bool} {hd : Bool} {d0 : DataW H} {p0 : List MemPlace}
    (k0 : Value.okWide Try.prog W .any base 25 v0) (h0 : DataW.Trod enc Try.prog W 0 sp hd 25 v0 d0 p0) :
    Calls Try.prog 4 #[v0] W fun e w' => e = .returned (.bool true) ∧ Keep [] W w' := by
  obtain ⟨n0, h0⟩ := h0
  obtain ⟨s0, w0, r0⟩ := rq_queue k0 h0
  refine calls_bool (xs := [s0.pv]) (b := true) ((early_law s0).mono (fun _ _ h => h.1)) rfl (fun j v x e1 e2 => ?_)
  match j with
  | 0 => simp at e1 e2; subst e1 e2; exact r0
  | j + 1 => simp at e1
set_option maxRecDepth 100000 in
theorem liftedQueueEarliest (os : Os) (started : os.Started) (H : Type) (enc : TypeId × Value → H) :
    ReturnsInHanded {} Try.checked os 4 .any (Rows.queueEarliestSpec.pre6 enc Try.prog Try.f4 Rows.queueEarliestRow.domain false) (Rows.queueEarliestSpec.post enc Try.prog Try.f4 false true false false) := by
  refine returnsInHanded_of_change (C := Try.checked) own started (by kernel_rfl) Try.func4
    (ChangeSpec.witness6 (enc := enc) (C := Try.checked) false ⟨#[], #[.agg #[.slice none 0 0, .slice none 0 0]], []⟩ 8 (by kernel_rfl) (by kernel_rfl) (by kernel_rfl) (by kernel_rfl)) ?_
  intro W base args ds gs before hval0 hW hcnd _
  have hval : ∀ (j : Nat) t v, Try.f4.params[j]? = some t → args[j]? = some v → Value.okWide Try.prog W .any base t v := hval0
  have hW' := hW
  obtain ⟨p, q, hA0, hV, rfl, hfz, hnd⟩ := hW
  have hA : DataW.TrodAll enc Try.prog W 0 (fun _ => true) true Try.f4.params.toList args.toList ds p := hA0
  rw [Try.params4] at hA hval
  obtain ⟨v0, vs0, d0, ds0, p0, q0, hargs, rfl, rfl, h0, r0⟩ := trodAll_cons hA
  obtain ⟨rfl, rfl, rfl⟩ := trodAll_nil r0
  have hargs' : args = #[v0] := by
    apply Array.ext'
    exact hargs
  subst hargs'
  have k0 := hval 0 _ v0 rfl rfl
  obtain ⟨rfl, rfl⟩ := trodVars_none hV
  refine (walkQueueEarliest v0 W k0 h0).mono fun e W' ⟨he, hk⟩ => ?_
  subst he
  exact ⟨_, rfl, post_law (tb := 4) laidP rowedP fullP (by decide +kernel) rfl rfl rfl Try.underlying4 hW' hk⟩
theorem overQueueEarliest : Rows.queueEarliestRow.holds Try.pinned (OpenSpec.ofChange Rows.queueEarliestSpec) :=
  OpenClaim.holds_of_wide 4 Try.f4 rfl rfl rfl rfl rfl rfl rfl ⟨rfl, rfl, rfl, rfl, rfl⟩ rfl rfl rfl rfl rfl (by kernel_rfl) Try.func4 (by kernel_rfl)
    (of_decide_eq_true (by kernel_rfl)) (by unfold Func.isWrapper; first | (rw [if_pos (by decide +kernel)]; kernel_rfl) | (rw [if_neg (by decide +kernel)]; exact ⟨rfl, rfl⟩))
    (fun os started H enc _ => liftedQueueEarliest os started H enc)
theorem provedQueueEarliest : Rows.QueueEarliestSaid := overQueueEarliest
end Go.Proofs.Ytohhjnpiiackjaa
