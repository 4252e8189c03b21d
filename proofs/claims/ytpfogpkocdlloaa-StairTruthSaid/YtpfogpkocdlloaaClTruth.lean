/- The statement StairTruth holds: for every input the law answers true, and its arguments read behind the call as before. No conditions. (Several texts in one.) -/
import Derived.Test.YtpfogpkocdlloaaRows
import Derived.WalkKit
import Derived.ProofKit
import Derived.OpenShut
import Derived.Test.YtpfogpkocdlloaaClTruthB
import Derived.Test.YtpfogpkocdlloaaStC
set_option linter.unusedVariables false
set_option linter.unusedSimpArgs false
/-! The statement StairTruth holds: for every input the law answers true, and its arguments read behind the call as before. No conditions. -/
namespace Go.Proofs.Ytpfogpkocdlloaa
open Go.ChangeShapes Go.WideShapes Go.ChangeAt Go.RowKit

set_option maxRecDepth 100000 in
theorem walkStairTruth (v0 v1 v2 v3 v4 : Value) (W : World) {H : Type} {enc : TypeId × Value → H} {base : Nat} {sp : Nat → Bool} {hd : Bool} {d0 d1 d2 d3 d4 : DataW H} {p0 p1 p2 p3 p4 : List MemPlace}
    (k0 : Value.okWide Try.prog W .any base 5 v0) (h0 : DataW.Trod enc Try.prog W 0 sp hd 5 v0 d0 p0)
    (k1 : Value.okWide Try.prog W .any base 5 v1) (h1 : DataW.Trod enc Try.prog W 0 sp hd 5 v1 d1 p1)
    (k2 : Value.okWide Try.prog W .any base 41 v2) (h2 : DataW.Trod enc Try.prog W 0 sp hd 41 v2 d2 p2)
    (k3 : Value.okWide Try.prog W .any base 75 v3) (h3 : DataW.Trod enc Try.prog W 0 sp hd 75 v3 d3 p3)
    (k4 : Value.okWide Try.prog W .any base 75 v4) (h4 : DataW.Trod enc Try.prog W 0 sp hd 75 v4 d4 p4) :
    Calls Try.prog 14 #[v0, v1, v2, v3, v4] W fun e w' => e = .returned (.bool true) ∧ Keep [] W w' := by
  obtain ⟨s0, rfl, rfl, rfl, w0⟩ := open_int Try.underlying5 k0 h0
  have w0 := kind_range w0
  obtain ⟨s1, rfl, rfl, rfl, w1⟩ := open_int Try.underlying5 k1 h1
  have w1 := kind_range w1
  obtain ⟨n2, h2⟩ := h2
  obtain ⟨s2, w2, l2, r2⟩ := rd_u8s k2 h2
  obtain ⟨s3, rfl, rfl, rfl, w3⟩ := open_int Try.underlying75 k3 h3
  have w3 := kind_range w3
  obtain ⟨s4, rfl, rfl, rfl, w4⟩ := open_int Try.underlying75 k4 h4
  have w4 := kind_range w4
  refine calls_bool (xs := [.int .u8 s0, .int .u8 s1, u8sP s2, .int .u16 s3, .int .u16 s4]) (b := true) ((truth_law s0 s1 s2 s3 s4 (kr8 w0) (kr8 w1) w2 (kr16 w3) (kr16 w4)).mono (fun _ _ h => h.1)) rfl (fun j v x e1 e2 => ?_)
  match j with
  | 0 => simp at e1 e2; subst e1 e2; exact .int .u8 s0
  | 1 => simp at e1 e2; subst e1 e2; exact .int .u8 s1
  | 2 => simp at e1 e2; subst e1 e2; exact r2
  | 3 => simp at e1 e2; subst e1 e2; exact .int .u16 s3
  | 4 => simp at e1 e2; subst e1 e2; exact .int .u16 s4
  | j + 5 => simp at e1
set_option maxRecDepth 100000 in
theorem liftedStairTruth (os : Os) (started : os.Started) (H : Type) (enc : TypeId × Value → H) :
    ReturnsInHanded {} Try.checked os 14 .any (Rows.stairTruthSpec.pre6 enc Try.prog Try.f14 Rows.stairTruthRow.domain false) (Rows.stairTruthSpec.post enc Try.prog Try.f14 false true false false) := by
  refine returnsInHanded_of_change (C := Try.checked) own started (by kernel_rfl) Try.func14
    (ChangeSpec.witness6 (enc := enc) (C := Try.checked) false ⟨#[], #[.int .u8 0, .int .u8 0, .slice none 0 0, .int .u16 0, .int .u16 0], []⟩ 8 (by kernel_rfl) (by kernel_rfl) (by kernel_rfl) (by kernel_rfl)) ?_
  intro W base args ds gs before hval0 hW hcnd _
  have hval : ∀ (j : Nat) t v, Try.f14.params[j]? = some t → args[j]? = some v → Value.okWide Try.prog W .any base t v := hval0
  have hW' := hW
  obtain ⟨p, q, hA0, hV, rfl, hfz, hnd⟩ := hW
  have hA : DataW.TrodAll enc Try.prog W 0 (fun _ => true) true Try.f14.params.toList args.toList ds p := hA0
  rw [Try.params14] at hA hval
  obtain ⟨v0, vs0, d0, ds0, p0, q0, hargs, rfl, rfl, h0, r0⟩ := trodAll_cons hA
  obtain ⟨v1, vs1, d1, ds1, p1, q1, rfl, rfl, rfl, h1, r1⟩ := trodAll_cons r0
  obtain ⟨v2, vs2, d2, ds2, p2, q2, rfl, rfl, rfl, h2, r2⟩ := trodAll_cons r1
  obtain ⟨v3, vs3, d3, ds3, p3, q3, rfl, rfl, rfl, h3, r3⟩ := trodAll_cons r2
  obtain ⟨v4, vs4, d4, ds4, p4, q4, rfl, rfl, rfl, h4, r4⟩ := trodAll_cons r3
  obtain ⟨rfl, rfl, rfl⟩ := trodAll_nil r4
  have hargs' : args = #[v0, v1, v2, v3, v4] := by
    apply Array.ext'
    exact hargs
  subst hargs'
  have k0 := hval 0 _ v0 rfl rfl
  have k1 := hval 1 _ v1 rfl rfl
  have k2 := hval 2 _ v2 rfl rfl
  have k3 := hval 3 _ v3 rfl rfl
  have k4 := hval 4 _ v4 rfl rfl
  obtain ⟨rfl, rfl⟩ := trodVars_none hV
  refine (walkStairTruth v0 v1 v2 v3 v4 W k0 h0 k1 h1 k2 h2 k3 h3 k4 h4).mono fun e W' ⟨he, hk⟩ => ?_
  subst he
  exact ⟨_, rfl, post_law (tb := 4) laidP rowedP fullP (by decide +kernel) rfl rfl rfl Try.underlying4 hW' hk⟩
theorem overStairTruth : Rows.stairTruthRow.holds Try.pinned (OpenSpec.ofChange Rows.stairTruthSpec) :=
  OpenClaim.holds_of_wide 14 Try.f14 rfl rfl rfl rfl rfl rfl rfl ⟨rfl, rfl, rfl, rfl, rfl⟩ rfl rfl rfl rfl rfl (by kernel_rfl) Try.func14 (by kernel_rfl)
    (of_decide_eq_true (by kernel_rfl)) (by unfold Func.isWrapper; first | (rw [if_pos (by decide +kernel)]; kernel_rfl) | (rw [if_neg (by decide +kernel)]; exact ⟨rfl, rfl⟩))
    (fun os started H enc _ => liftedStairTruth os started H enc)
theorem provedStairTruth : Rows.StairTruthSaid := overStairTruth
end Go.Proofs.Ytpfogpkocdlloaa
