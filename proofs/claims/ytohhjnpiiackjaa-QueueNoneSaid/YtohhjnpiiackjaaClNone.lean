/- Layer 10 (queue): the law QueueNone. (Several texts in one.) -/
import Derived.Test.YtohhjnpiiackjaaQuH
import Derived.Test.YtohhjnpiiackjaaQuE
import Derived.Test.YtohhjnpiiackjaaRows
import Derived.WalkKit
import Derived.ProofKit
import Derived.OpenShut
set_option linter.unusedVariables false
set_option linter.unusedSimpArgs false
/-! Layer 10 (queue): the law QueueNone. -/
namespace Go.Proofs.Ytohhjnpiiackjaa
open Go.RowKit

set_option maxRecDepth 10000
set_option linter.unusedSimpArgs false

attribute [local simp] AS.exp expG Box.ren AV.map AV.mapL outsOk noRet Site.isRet Box.allS AV.allS AV.allSL retB dropL AS.adds renL outG outOk lentBx inG fnOf lookA List.findIdx?_cons
attribute [local simp] Box.purge Site.isLoc
attribute [local simp] retFz frzL AS.frz AV.frz AV.frzL Box.frz AS.tidy AS.frzC
theorem short_bd {p : List (List Int)} (h : shortP p = true) : p.length ≤ 45 ∧ ∀ l ∈ p, l.length ≤ 9 := by
  simp only [shortP, Bool.and_eq_true, List.all_eq_true, decide_eq_true_eq] at h
  have hl : p.length ≤ 45 := by omega
  refine ⟨hl, fun l hm => ?_⟩
  have := h.1 l (by rw [List.take_of_length_le (by omega)]; exact hm)
  omega
set_option maxHeartbeats 4000000 in
theorem none_law (q : Qu) (p : List (List Int)) : Gives Try.prog 10 [q.pv, planP p] (.bool true) := by
  have hF : 407 < 408 := by decide
  generalize 408 = F at hF
  have hw := wakes_c
  refine calls_of_awpS mixed L10_ok (Nat.le_of_ble_eq_true rfl) ?_
  simp [-getElem?_pos, L10, Qu.pv]
  refine call_gives (k := 0) (fs := []) (xs := [q.pv]) (cs := []) rfl rfl (light_c q) rfl ?_
  by_cases ht : q.light = true
  case neg =>
    simp [-getElem?_pos, ht]
    refine call_gives (k := 0) (fs := []) (xs := []) (cs := []) rfl rfl hw rfl ?_
    simp [-getElem?_pos]
  obtain ⟨hs, hc, hq, _⟩ := Qu.light_of ht
  simp [-getElem?_pos, ht]
  refine call_gives (k := 0) (fs := []) (xs := [planP p]) (cs := []) rfl rfl (short_c p) rfl ?_
  by_cases hp : shortP p = true
  case neg =>
    simp [-getElem?_pos, hp]
    refine call_gives (k := 0) (fs := []) (xs := []) (cs := []) rfl rfl hw rfl ?_
    simp [-getElem?_pos]
  obtain ⟨p1, p2⟩ := short_bd hp
  have p3 : ∀ l ∈ p, l.length ≤ 1000 := fun l h => by have := p2 l h; omega
  have he := earl_of hF hs hc
  have hqc := queue_of hs
  have hrw := rows_c p (by omega) p3
  simp [-getElem?_pos, hp]
  refine .inl (call_pv [] (fs := []) (xs := [q.pv]) (cs := []) rfl rfl hqc ?_)
  simp [-getElem?_pos, frzsL]
  refine .inl (call_pv [] (fs := []) (xs := [q.pv]) (cs := []) rfl rfl he ?_)
  rcases early_spec hF hq with ⟨P, e, _, _, hl, _, hno, _⟩ | ⟨e, hno, _⟩
  · have hpr := proves_of hs (p := p) (by omega) p3 ((P.length : Int) - 1)
    rw [proves_no hq hno] at hpr
    have hwp : IntKind.i64.wrap ((P.length : Int) - 1) = (P.length : Int) - 1 := wrap64 (by omega)
    rw [e]
    simp [-getElem?_pos, frzsL]
    refine .inl (call_pv [] (fs := []) (xs := [q.pv]) (cs := []) rfl rfl hqc ?_)
    simp [-getElem?_pos, frzsL]
    refine .inl (call_pv [] (fs := []) (xs := [planP p]) (cs := []) rfl rfl hrw ?_)
    simp [-getElem?_pos, frzsL, hwp]
    refine .inl (call_pv [] (fs := []) (xs := [q.pv, planP p, .int .i64 ((P.length : Int) - 1)]) (cs := []) rfl rfl hpr ?_)
    simp [-getElem?_pos, frzsL]
    refine .inl (call_pv [] (fs := []) (xs := []) (cs := []) rfl rfl hw ?_)
    simp [-getElem?_pos, frzsL]
  · have hpr := proves_of hs (p := p) (by omega) p3 40
    rw [proves_none hq hno] at hpr
    rw [e]
    simp [-getElem?_pos, frzsL]
    refine .inl (call_pv [] (fs := []) (xs := [q.pv]) (cs := []) rfl rfl hqc ?_)
    simp [-getElem?_pos, frzsL]
    refine .inl (call_pv [] (fs := []) (xs := [planP p]) (cs := []) rfl rfl hrw ?_)
    simp [-getElem?_pos, frzsL]
    refine .inl (call_pv [] (fs := []) (xs := [q.pv, planP p, .int .i64 40]) (cs := []) rfl rfl hpr ?_)
    simp [-getElem?_pos, frzsL]
    refine .inl (call_pv [] (fs := []) (xs := []) (cs := []) rfl rfl hw ?_)
    simp [-getElem?_pos, frzsL]
end Go.Proofs.Ytohhjnpiiackjaa

/-! The statement QueueNone holds: for every input the law answers true, and its arguments read behind the call as before. No conditions. -/
namespace Go.Proofs.Ytohhjnpiiackjaa
open Go.ChangeShapes Go.WideShapes Go.ChangeAt Go.RowKit

set_option maxRecDepth 100000 in
theorem walkQueueNone (v0 v1 : Value) (W : World) {H : Type} {enc : TypeId × Value → H} {base : Nat} {sp : Nat → Bool} {hd : Bool} {d0 d1 : DataW H} {p0 p1 : List MemPlace}
    (k0 : Value.okWide Try.prog W .any base 25 v0) (h0 : DataW.Trod enc Try.prog W 0 sp hd 25 v0 d0 p0)
    (k1 : Value.okWide Try.prog W .any base 44 v1) (h1 : DataW.Trod enc Try.prog W 0 sp hd 44 v1 d1 p1) :
    Calls Try.prog 10 #[v0, v1] W fun e w' => e = .returned (.bool true) ∧ Keep [] W w' := by
  obtain ⟨n0, h0⟩ := h0
  obtain ⟨s0, w0, r0⟩ := rq_queue k0 h0
  obtain ⟨n1, h1⟩ := h1
  obtain ⟨s1, w1, l1, r1⟩ := rd_plan k1 h1
  refine calls_bool (xs := [s0.pv, planP s1]) (b := true) ((none_law s0 s1).mono (fun _ _ h => h.1)) rfl (fun j v x e1 e2 => ?_)
  match j with
  | 0 => simp at e1 e2; subst e1 e2; exact r0
  | 1 => simp at e1 e2; subst e1 e2; exact r1
  | j + 2 => simp at e1
set_option maxRecDepth 100000 in
theorem liftedQueueNone (os : Os) (started : os.Started) (H : Type) (enc : TypeId × Value → H) :
    ReturnsInHanded {} Try.checked os 10 .any (Rows.queueNoneSpec.pre6 enc Try.prog Try.f10 Rows.queueNoneRow.domain false) (Rows.queueNoneSpec.post enc Try.prog Try.f10 false true false false) := by
  refine returnsInHanded_of_change (C := Try.checked) own started (by kernel_rfl) Try.func10
    (ChangeSpec.witness6 (enc := enc) (C := Try.checked) false ⟨#[], #[.agg #[.slice none 0 0, .slice none 0 0], .slice none 0 0], []⟩ 8 (by kernel_rfl) (by kernel_rfl) (by kernel_rfl) (by kernel_rfl)) ?_
  intro W base args ds gs before hval0 hW hcnd _
  have hval : ∀ (j : Nat) t v, Try.f10.params[j]? = some t → args[j]? = some v → Value.okWide Try.prog W .any base t v := hval0
  have hW' := hW
  obtain ⟨p, q, hA0, hV, rfl, hfz, hnd⟩ := hW
  have hA : DataW.TrodAll enc Try.prog W 0 (fun _ => true) true Try.f10.params.toList args.toList ds p := hA0
  rw [Try.params10] at hA hval
  obtain ⟨v0, vs0, d0, ds0, p0, q0, hargs, rfl, rfl, h0, r0⟩ := trodAll_cons hA
  obtain ⟨v1, vs1, d1, ds1, p1, q1, rfl, rfl, rfl, h1, r1⟩ := trodAll_cons r0
  obtain ⟨rfl, rfl, rfl⟩ := trodAll_nil r1
  have hargs' : args = #[v0, v1] := by
    apply Array.ext'
    exact hargs
  subst hargs'
  have k0 := hval 0 _ v0 rfl rfl
  have k1 := hval 1 _ v1 rfl rfl
  obtain ⟨rfl, rfl⟩ := trodVars_none hV
  refine (walkQueueNone v0 v1 W k0 h0 k1 h1).mono fun e W' ⟨he, hk⟩ => ?_
  subst he
  exact ⟨_, rfl, post_law (tb := 4) laidP rowedP fullP (by decide +kernel) rfl rfl rfl Try.underlying4 hW' hk⟩
theorem overQueueNone : Rows.queueNoneRow.holds Try.pinned (OpenSpec.ofChange Rows.queueNoneSpec) :=
  OpenClaim.holds_of_wide 10 Try.f10 rfl rfl rfl rfl rfl rfl rfl ⟨rfl, rfl, rfl, rfl, rfl⟩ rfl rfl rfl rfl rfl (by kernel_rfl) Try.func10 (by kernel_rfl)
    (of_decide_eq_true (by kernel_rfl)) (by unfold Func.isWrapper; first | (rw [if_pos (by decide +kernel)]; kernel_rfl) | (rw [if_neg (by decide +kernel)]; exact ⟨rfl, rfl⟩))
    (fun os started H enc _ => liftedQueueNone os started H enc)
theorem provedQueueNone : Rows.QueueNoneSaid := overQueueNone
end Go.Proofs.Ytohhjnpiiackjaa
