/- The statement ChainHangs holds: for every input the law answers true, and its arguments read behind the call as before. No conditions. (Several texts in one.) -/
import Derived.Test.YtcgdopjmbadonaaRows
import Derived.WalkKit
import Derived.ProofKit
import Derived.OpenShut
import Derived.Test.YtcgdopjmbadonaaChG
import Derived.Test.YtcgdopjmbadonaaChF
set_option linter.unusedVariables false
set_option linter.unusedSimpArgs false
/-! The statement ChainHangs holds: for every input the law answers true, and its arguments read behind the call as before. No conditions. -/
namespace Go.Proofs.Ytcgdopjmbadonaa
open Go.ChangeShapes Go.WideShapes Go.ChangeAt Go.RowKit

set_option maxRecDepth 100000 in
theorem walkChainHangs (v0 v1 : Value) (W : World) {H : Type} {enc : TypeId × Value → H} {base : Nat} {sp : Nat → Bool} {hd : Bool} {d0 d1 : DataW H} {p0 p1 : List MemPlace}
    (k0 : Value.okWide Try.prog W .any base 25 v0) (h0 : DataW.Trod enc Try.prog W 0 sp hd 25 v0 d0 p0)
    (k1 : Value.okWide Try.prog W .any base 26 v1) (h1 : DataW.Trod enc Try.prog W 0 sp hd 26 v1 d1 p1) :
    Calls Try.prog 3 #[v0, v1] W fun e w' => e = .returned (.bool true) ∧ Keep [] W w' := by
  obtain ⟨n0, h0⟩ := h0
  obtain ⟨s0, w0, r0⟩ := rk_book k0 h0
  obtain ⟨n1, h1⟩ := h1
  obtain ⟨s1, w1, l1, r1⟩ := rd_ints k1 h1
  refine calls_bool (xs := [s0.pv, .lst false 1 (s1.map intP)]) (b := true) ((hangs_law s0 s1).mono (fun _ _ h => h.1)) rfl (fun j v x e1 e2 => ?_)
  match j with
  | 0 => simp at e1 e2; subst e1 e2; exact r0
  | 1 => simp at e1 e2; subst e1 e2; exact r1
  | j + 2 => simp at e1
set_option maxRecDepth 100000 in
theorem liftedChainHangs (os : Os) (started : os.Started) (H : Type) (enc : TypeId × Value → H) :
    ReturnsInHanded {} Try.checked os 3 .any (Rows.chainHangsSpec.pre6 enc Try.prog Try.f3 Rows.chainHangsRow.domain false) (Rows.chainHangsSpec.post enc Try.prog Try.f3 false true false false) := by
  refine returnsInHanded_of_change (C := Try.checked) own started (by kernel_rfl) Try.func3
    (ChangeSpec.witness6 (enc := enc) (C := Try.checked) false ⟨#[], #[.agg #[.slice none 0 0, .slice none 0 0], .slice none 0 0], []⟩ 8 (by kernel_rfl) (by kernel_rfl) (by kernel_rfl) (by kernel_rfl)) ?_
  intro W base args ds gs before hval0 hW hcnd _
  have hval : ∀ (j : Nat) t v, Try.f3.params[j]? = some t → args[j]? = some v → Value.okWide Try.prog W .any base t v := hval0
  have hW' := hW
  obtain ⟨p, q, hA0, hV, rfl, hfz, hnd⟩ := hW
  have hA : DataW.TrodAll enc Try.prog W 0 (fun _ => true) true Try.f3.params.toList args.toList ds p := hA0
  rw [Try.params3] at hA hval
  obtain ⟨v0, vs0, d0, ds0, p0, q0, hargs, rfl, rfl, h0, r0⟩ := trodAll_cons hA
  obtain ⟨v1, vs1, d1, ds1, p1, q1, rfl, rfl, rfl, h1, r1⟩ := trodAll_cons r0
  obtain ⟨rfl, rfl, rfl⟩ := trodAll_nil r1
  have hargs' : args = #[v0, v1] := by
    apply Array.ext'
    exact hargs
  subst hargs'
  have k0 := hval 0 _ v0 rfl rfl
  have k1 := hval 1 _ v1 rfl rfl
  obtain ⟨rfl, rfl⟩ := trodVars_none hV
  refine (walkChainHangs v0 v1 W k0 h0 k1 h1).mono fun e W' ⟨he, hk⟩ => ?_
  subst he
  exact ⟨_, rfl, post_law (tb := 4) laidP rowedP fullP (by decide +kernel) rfl rfl rfl Try.underlying4 hW' hk⟩
theorem overChainHangs : Rows.chainHangsRow.holds Try.pinned (OpenSpec.ofChange Rows.chainHangsSpec) :=
  OpenClaim.holds_of_wide 3 Try.f3 rfl rfl rfl rfl rfl rfl rfl ⟨rfl, rfl, rfl, rfl, rfl⟩ rfl rfl rfl rfl rfl (by kernel_rfl) Try.func3 (by kernel_rfl)
    (of_decide_eq_true (by kernel_rfl)) (by unfold Func.isWrapper; first | (rw [if_pos (by decide +kernel)]; kernel_rfl) | (rw [if_neg (by decide +kernel)]; exact ⟨rfl, rfl⟩))
    (fun os started H enc _ => liftedChainHangs os started H enc)
theorem provedChainHangs : Rows.ChainHangsSaid := overChainHangs
end Go.Proofs.Ytcgdopjmbadonaa
