/- Layer 10 (queue): the law QueueProves. (Several texts in one.) -/
import Derived.Test.YtohhjnpiiackjaaQuE
import Derived.Test.YtohhjnpiiackjaaRows
import Derived.WalkKit
import Derived.ProofKit
import Derived.OpenShut
set_option linter.unusedVariables false
set_option linter.unusedSimpArgs false
/-! Layer 10 (queue): the law QueueProves. -/
namespace Go.Proofs.Ytohhjnpiiackjaa
open Go.RowKit

set_option maxRecDepth 10000
set_option linter.unusedSimpArgs false

attribute [local simp] AS.exp expG Box.ren AV.map AV.mapL outsOk noRet Site.isRet Box.allS AV.allS AV.allSL retB dropL AS.adds renL outG outOk lentBx inG fnOf lookA List.findIdx?_cons
attribute [local simp] Box.purge Site.isLoc
attribute [local simp] retFz frzL AS.frz AV.frz AV.frzL Box.frz AS.tidy AS.frzC
theorem short_of {p : List (List Int)} (h : shortP p = true) : p.length ≤ 45 ∧ ∀ l ∈ p, l.length ≤ 9 := by
  simp only [shortP, Bool.and_eq_true, List.all_eq_true, decide_eq_true_eq] at h
  have hl : p.length ≤ 45 := by omega
  refine ⟨hl, fun l hm => ?_⟩
  have := h.1 l (by rw [List.take_of_length_le (by omega)]; exact hm)
  omega
set_option maxHeartbeats 4000000 in
theorem proves_law (q : Qu) (p : List (List Int)) (e : Int) : Gives Try.prog 6 [q.pv, planP p, .int .i64 e] (.bool true) := by
  refine calls_of_awpS mixed L6_ok (Nat.le_of_ble_eq_true rfl) ?_
  simp [-getElem?_pos, L6, Qu.pv]
  refine call_gives (k := 0) (fs := []) (xs := [q.pv]) (cs := []) rfl rfl (thin_c q) rfl ?_
  by_cases ht : q.thin = true
  case neg =>
    simp [-getElem?_pos, ht]
    refine call_gives (k := 0) (fs := []) (xs := []) (cs := []) rfl rfl wakes_c rfl ?_
    simp [-getElem?_pos]
  have hs := Qu.small_of ht
  have h1 := hs.m
  have h2 := hs.r
  have h3 : ∀ l ∈ q.ms, l.length ≤ 1000 := fun l h => by have := hs.s l h; omega
  have h36 : ∀ l ∈ q.ms, l.length ≤ 1000000 := fun l h => by have := hs.s l h; omega
  have h4 : ∀ r ∈ q.rs, r.on.length ≤ 1000 := fun l h => by have := hs.f l h; omega
  simp [-getElem?_pos, ht]
  refine call_gives (k := 0) (fs := []) (xs := [planP p]) (cs := []) rfl rfl (short_c p) rfl ?_
  by_cases hp : shortP p = true
  case neg =>
    simp [-getElem?_pos, hp]
    refine call_gives (k := 0) (fs := []) (xs := []) (cs := []) rfl rfl wakes_c rfl ?_
    simp [-getElem?_pos]
  obtain ⟨p1, p2⟩ := short_of hp
  have p3 : ∀ l ∈ p, l.length ≤ 1000 := fun l h => by have := p2 l h; omega
  simp [-getElem?_pos, hp]
  refine call_gives (k := 0) (fs := []) (xs := [q.pv]) (cs := []) rfl rfl (fault_c q (by omega) (by omega) h36) rfl ?_
  have hqc := queue_c q (by omega) (by omega) h3 h4
  have hrw := rows_c p (by omega) p3
  have hpc := proves_c q (by omega) (by omega) h36 p (by omega) p3 e
  obtain ⟨V, hV⟩ : ∃ z, z = q.proves p e := ⟨_, rfl⟩
  rw [← hV] at hpc
  have hV' := hV
  unfold Qu.proves at hV'
  have hw := wakes_c
  by_cases hc : q.check = 0
  · have hq := Qu.ok_of hc
    simp [-getElem?_pos, hc]
    refine .inl (call_pv [] (fs := []) (xs := [q.pv, planP p]) (cs := []) rfl rfl (isplan_c q hq p (by omega) p3) ?_)
    cases hr : q.right p
    · have hVf : V = false := by rw [hV', hr]; simp
      subst hVf
      clear hV hV' hq hs
      simp [-getElem?_pos, frzsL]
      refine .inl (call_pv [] (fs := []) (xs := [q.pv]) (cs := []) rfl rfl hqc ?_)
      simp [-getElem?_pos, frzsL]
      refine .inl (call_pv [] (fs := []) (xs := [planP p]) (cs := []) rfl rfl hrw ?_)
      simp [-getElem?_pos, frzsL]
      refine .inl (call_pv [] (fs := []) (xs := [q.pv, planP p, .int .i64 e]) (cs := []) rfl rfl hpc ?_)
      simp [-getElem?_pos, frzsL]
      refine .inl (call_pv [] (fs := []) (xs := []) (cs := []) rfl rfl hw ?_)
      simp [-getElem?_pos, frzsL]
    · simp [-getElem?_pos, frzsL]
      refine .inl (call_pv [] (fs := []) (xs := [planP p]) (cs := []) rfl rfl (rend_c p (by omega) p3) ?_)
      have hVe : V = decide (endP p ≤ e) := by rw [hV', hr, hc]; simp
      subst hVe
      clear hV hV' hq hs
      generalize hD : decide (endP p ≤ e) = D at *
      simp [-getElem?_pos, -decide_eq_true_eq, frzsL, hD]
      refine .inl (call_pv [] (fs := []) (xs := [q.pv]) (cs := []) rfl rfl hqc ?_)
      simp [-getElem?_pos, frzsL]
      refine .inl (call_pv [] (fs := []) (xs := [planP p]) (cs := []) rfl rfl hrw ?_)
      simp [-getElem?_pos, frzsL]
      refine .inl (call_pv [] (fs := []) (xs := [q.pv, planP p, .int .i64 e]) (cs := []) rfl rfl hpc ?_)
      clear hD
      cases D <;> simp [-getElem?_pos, frzsL]
      all_goals
        refine .inl (call_pv [] (fs := []) (xs := []) (cs := []) rfl rfl hw ?_)
        simp [-getElem?_pos, frzsL]
  · have hVf : V = false := by rw [hV']; simp [hc]
    subst hVf
    clear hV hV' hs
    simp [-getElem?_pos, hc]
    refine .inl (call_pv [] (fs := []) (xs := [q.pv]) (cs := []) rfl rfl hqc ?_)
    simp [-getElem?_pos, frzsL]
    refine .inl (call_pv [] (fs := []) (xs := [planP p]) (cs := []) rfl rfl hrw ?_)
    simp [-getElem?_pos, frzsL]
    refine .inl (call_pv [] (fs := []) (xs := [q.pv, planP p, .int .i64 e]) (cs := []) rfl rfl hpc ?_)
    simp [-getElem?_pos, frzsL]
    refine .inl (call_pv [] (fs := []) (xs := []) (cs := []) rfl rfl hw ?_)
    simp [-getElem?_pos, frzsL]
end Go.Proofs.Ytohhjnpiiackjaa

/-! The statement QueueProves holds: for every input the law answers true, and its arguments read behind the call as before. No conditions. -/
namespace Go.Proofs.Ytohhjnpiiackjaa
open Go.ChangeShapes Go.WideShapes Go.ChangeAt Go.RowKit

set_option maxRecDepth 100000 in
theorem walkQueueProves (v0 v1 v2 : Value) (W : World) {H : Type} {enc : TypeId × Value → H} {base : Nat} {sp : Nat → Bool} {hd : Bool} {d0 d1 d2 : DataW H} {p0 p1 p2 : List MemPlace}
    (k0 : Value.okWide Try.prog W .any base 25 v0) (h0 : DataW.Trod enc Try.prog W 0 sp hd 25 v0 d0 p0)
    (k1 : Value.okWide Try.prog W .any base 44 v1) (h1 : DataW.Trod enc Try.prog W 0 sp hd 44 v1 d1 p1)
    (k2 : Value.okWide Try.prog W .any base 3 v2) (h2 : DataW.Trod enc Try.prog W 0 sp hd 3 v2 d2 p2) :
    Calls Try.prog 6 #[v0, v1, v2] W fun e w' => e = .returned (.bool true) ∧ Keep [] W w' := by
  obtain ⟨n0, h0⟩ := h0
  obtain ⟨s0, w0, r0⟩ := rq_queue k0 h0
  obtain ⟨n1, h1⟩ := h1
  obtain ⟨s1, w1, l1, r1⟩ := rd_plan k1 h1
  obtain ⟨s2, rfl, rfl, rfl, w2⟩ := open_int Try.underlying3 k2 h2
  refine calls_bool (xs := [s0.pv, planP s1, .int .i64 s2]) (b := true) ((proves_law s0 s1 s2).mono (fun _ _ h => h.1)) rfl (fun j v x e1 e2 => ?_)
  match j with
  | 0 => simp at e1 e2; subst e1 e2; exact r0
  | 1 => simp at e1 e2; subst e1 e2; exact r1
  | 2 => simp at e1 e2; subst e1 e2; exact .int .i64 s2
  | j + 3 => simp at e1
set_option maxRecDepth 100000 in
theorem liftedQueueProves (os : Os) (started : os.Started) (H : Type) (enc : TypeId × Value → H) :
    ReturnsInHanded {} Try.checked os 6 .any (Rows.queueProvesSpec.pre6 enc Try.prog Try.f6 Rows.queueProvesRow.domain false) (Rows.queueProvesSpec.post enc Try.prog Try.f6 false true false false) := by
  refine returnsInHanded_of_change (C := Try.checked) own started (by kernel_rfl) Try.func6
    (ChangeSpec.witness6 (enc := enc) (C := Try.checked) false ⟨#[], #[.agg #[.slice none 0 0, .slice none 0 0], .slice none 0 0, .int .i64 0], []⟩ 8 (by kernel_rfl) (by kernel_rfl) (by kernel_rfl) (by kernel_rfl)) ?_
  intro W base args ds gs before hval0 hW hcnd _
  have hval : ∀ (j : Nat) t v, Try.f6.params[j]? = some t → args[j]? = some v → Value.okWide Try.prog W .any base t v := hval0
  have hW' := hW
  obtain ⟨p, q, hA0, hV, rfl, hfz, hnd⟩ := hW
  have hA : DataW.TrodAll enc Try.prog W 0 (fun _ => true) true Try.f6.params.toList args.toList ds p := hA0
  rw [Try.params6] at hA hval
  obtain ⟨v0, vs0, d0, ds0, p0, q0, hargs, rfl, rfl, h0, r0⟩ := trodAll_cons hA
  obtain ⟨v1, vs1, d1, ds1, p1, q1, rfl, rfl, rfl, h1, r1⟩ := trodAll_cons r0
  obtain ⟨v2, vs2, d2, ds2, p2, q2, rfl, rfl, rfl, h2, r2⟩ := trodAll_cons r1
  obtain ⟨rfl, rfl, rfl⟩ := trodAll_nil r2
  have hargs' : args = #[v0, v1, v2] := by
    apply Array.ext'
    exact hargs
  subst hargs'
  have k0 := hval 0 _ v0 rfl rfl
  have k1 := hval 1 _ v1 rfl rfl
  have k2 := hval 2 _ v2 rfl rfl
  obtain ⟨rfl, rfl⟩ := trodVars_none hV
  refine (walkQueueProves v0 v1 v2 W k0 h0 k1 h1 k2 h2).mono fun e W' ⟨he, hk⟩ => ?_
  subst he
  exact ⟨_, rfl, post_law (tb := 4) laidP rowedP fullP (by decide +kernel) rfl rfl rfl Try.underlying4 hW' hk⟩
theorem overQueueProves : Rows.queueProvesRow.holds Try.pinned (OpenSpec.ofChange Rows.queueProvesSpec) :=
  OpenClaim.holds_of_wide 6 Try.f6 rfl rfl rfl rfl rfl rfl rfl ⟨rfl, rfl, rfl, rfl, rfl⟩ rfl rfl rfl rfl rfl (by kernel_rfl) Try.func6 (by kernel_rfl)
    (of_decide_eq_true (by kernel_rfl)) (by unfold Func.isWrapper; first | (rw [if_pos (by decide +kernel)]; kernel_rfl) | (rw [if_neg (by decide +kernel)]; exact ⟨rfl, rfl⟩))
    (fun os started H enc _ => liftedQueueProves os started H enc)
theorem provedQueueProves : Rows.QueueProvesSaid := overQueueProves
end Go.Proofs.Ytohhjnpiiackjaa
