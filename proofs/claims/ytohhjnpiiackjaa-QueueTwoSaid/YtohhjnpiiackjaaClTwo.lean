/- The statement QueueTwo holds: for every input the law answers true, and its arguments read behind the call as before. No conditions. (Several texts in one.) -/
import Derived.Test.YtohhjnpiiackjaaRows
import Derived.WalkKit
import Derived.ProofKit
import Derived.OpenShut
import Derived.Test.YtohhjnpiiackjaaQuM
import Derived.Test.YtohhjnpiiackjaaQuE
set_option linter.unusedVariables false
set_option linter.unusedSimpArgs false
/-! The statement QueueTwo holds: for every input the law answers true, and its arguments read behind the call as before. No conditions. -/
namespace Go.Proofs.Ytohhjnpiiackjaa
open Go.ChangeShapes Go.WideShapes Go.ChangeAt Go.RowKit

set_option maxRecDepth 100000 in
theorem walkQueueTwo (v0 v1 v2 : Value) (W : World) {H : Type} {enc : TypeId × Value → H} {base : Nat} {sp : Nat → Bool} {hd : Bool} {d0 d1 d2 : DataW H} {p0 p1 p2 : List MemPlace}
    (k0 : Value.okWide Try.prog W .any base 25 v0) (h0 : DataW.Trod enc Try.prog W 0 sp hd 25 v0 d0 p0)
    (k1 : Value.okWide Try.prog W .any base 5 v1) (h1 : DataW.Trod enc Try.prog W 0 sp hd 5 v1 d1 p1)
    (k2 : Value.okWide Try.prog W .any base 5 v2) (h2 : DataW.Trod enc Try.prog W 0 sp hd 5 v2 d2 p2) :
    Calls Try.prog 14 #[v0, v1, v2] W fun e w' => e = .returned (.bool true) ∧ Keep [] W w' := by
  obtain ⟨n0, h0⟩ := h0
  obtain ⟨s0, w0, r0⟩ := rq_queue k0 h0
  obtain ⟨s1, rfl, rfl, rfl, w1⟩ := open_int Try.underlying5 k1 h1
  obtain ⟨s2, rfl, rfl, rfl, w2⟩ := open_int Try.underlying5 k2 h2
  refine calls_bool (xs := [s0.pv, .int .u8 s1, .int .u8 s2]) (b := true) ((two_law s0 s1 s2 (u8_bd w1) (u8_bd w2)).mono (fun _ _ h => h.1)) rfl (fun j v x e1 e2 => ?_)
  match j with
  | 0 => simp at e1 e2; subst e1 e2; exact r0
  | 1 => simp at e1 e2; subst e1 e2; exact .int .u8 s1
  | 2 => simp at e1 e2; subst e1 e2; exact .int .u8 s2
  | j + 3 => simp at e1
set_option maxRecDepth 100000 in
theorem liftedQueueTwo (os : Os) (started : os.Started) (H : Type) (enc : TypeId × Value → H) :
    ReturnsInHanded {} Try.checked os 14 .any (Rows.queueTwoSpec.pre6 enc Try.prog Try.f14 Rows.queueTwoRow.domain false) (Rows.queueTwoSpec.post enc Try.prog Try.f14 false true false false) := by
  refine returnsInHanded_of_change (C := Try.checked) own started (by kernel_rfl) Try.func14
    (ChangeSpec.witness6 (enc := enc) (C := Try.checked) false ⟨#[], #[.agg #[.slice none 0 0, .slice none 0 0], .int .u8 0, .int .u8 0], []⟩ 8 (by kernel_rfl) (by kernel_rfl) (by kernel_rfl) (by kernel_rfl)) ?_
  intro W base args ds gs before hval0 hW hcnd _
  have hval : ∀ (j : Nat) t v, Try.f14.params[j]? = some t → args[j]? = some v → Value.okWide Try.prog W .any base t v := hval0
  have hW' := hW
  obtain ⟨p, q, hA0, hV, rfl, hfz, hnd⟩ := hW
  have hA : DataW.TrodAll enc Try.prog W 0 (fun _ => true) true Try.f14.params.toList args.toList ds p := hA0
  rw [Try.params14] at hA hval
  obtain ⟨v0, vs0, d0, ds0, p0, q0, hargs, rfl, rfl, h0, r0⟩ := trodAll_cons hA
  obtain ⟨v1, vs1, d1, ds1, p1, q1, rfl, rfl, rfl, h1, r1⟩ := trodAll_cons r0
  obtain ⟨v2, vs2, d2, ds2, p2, q2, rfl, rfl, rfl, h2, r2⟩ := trodAll_cons r1
  obtain ⟨rfl, rfl, rfl⟩ := trodAll_nil r2
  have hargs' : args = #[v0, v1, v2] := by
    apply Array.ext'
    exact hargs
  subst hargs'
  have k0 := hval 0 _ v0 rfl rfl
  have k1 := hval 1 _ v1 rfl rfl
  have k2 := hval 2 _ v2 rfl rfl
  obtain ⟨rfl, rfl⟩ := trodVars_none hV
  refine (walkQueueTwo v0 v1 v2 W k0 h0 k1 h1 k2 h2).mono fun e W' ⟨he, hk⟩ => ?_
  subst he
  exact ⟨_, rfl, post_law (tb := 4) laidP rowedP fullP (by decide +kernel) rfl rfl rfl Try.underlying4 hW' hk⟩
theorem overQueueTwo : Rows.queueTwoRow.holds Try.pinned (OpenSpec.ofChange Rows.queueTwoSpec) :=
  OpenClaim.holds_of_wide 14 Try.f14 rfl rfl rfl rfl rfl rfl rfl ⟨rfl, rfl, rfl, rfl, rfl⟩ rfl rfl rfl rfl rfl (by kernel_rfl) Try.func14 (by kernel_rfl)
    (of_decide_eq_true (by kernel_rfl)) (by unfold Func.isWrapper; first | (rw [if_pos (by decide +kernel)]; kernel_rfl) | (rw [if_neg (by decide +kernel)]; exact ⟨rfl, rfl⟩))
    (fun os started H enc _ => liftedQueueTwo os started H enc)
theorem provedQueueTwo : Rows.QueueTwoSaid := overQueueTwo
end Go.Proofs.Ytohhjnpiiackjaa
