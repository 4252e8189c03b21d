/- The statement StairHistories answers true. (Several texts in one.) -/
import Derived.Test.YtpfogpkocdlloaaStC
import Derived.Test.YtpfogpkocdlloaaRows
import Derived.WalkKit
import Derived.ProofKit
import Derived.OpenShut
set_option linter.unusedVariables false
set_option linter.unusedSimpArgs false
/-! The statement StairHistories answers true. -/
namespace Go.Proofs.Ytpfogpkocdlloaa
open Go.RowKit
attribute [local simp] Box.purge Site.isLoc

set_option maxRecDepth 10000
set_option linter.unusedSimpArgs false

theorem St.many_all (s : St) : s.many = if s.possible = 0 then s.all.length else 0 := by
  unfold St.many
  rw [St.items_all, List.length_map]
theorem hist_g (s : St) (hl : s.runs.length ≤ 1000000) : Gives Try.prog 24 [s.pv] (.tup [.int .i64 s.many, .int .i64 s.possible]) := hist_c s hl
set_option maxHeartbeats 16000000 in
theorem histories_law (s : St) (l : List Int) (hb : ∀ x ∈ l, 0 ≤ x ∧ x ≤ 255) : Gives Try.prog 8 [s.pv, u8sP l] (.bool true) := by
  refine calls_of_awpS mixed L8_ok (Nat.le_of_ble_eq_true rfl) ?_
  simp [-getElem?_pos, L8, St.pv, u8sP]
  refine call_gives (k := 0) (fs := []) (xs := [s.pv]) (cs := []) rfl rfl (thin_c s) rfl ?_
  by_cases hn : s.runs.length ≤ 20
  · have hn' : decide ((s.runs.length : Int) ≤ 20) = true := by simp; omega
    by_cases hm : l.length ≤ 20
    · have hm' : decide ((l.length : Int) > 20) = false := by simp; omega
      simp [-getElem?_pos, -decide_eq_true_eq, -decide_eq_false_iff_not, hn', hm']
      refine .inl (call_pv [] (fs := []) (xs := [s.pv]) (cs := []) rfl rfl (stairs_c s (by omega)) ?_)
      simp [-getElem?_pos, frzsL]
      refine call_gives (k := 0) (fs := []) (xs := [s.pv]) (cs := []) rfl rfl (check_c s (by omega)) rfl ?_
      simp [-getElem?_pos]
      refine .inl (call_pv [] (fs := []) (xs := [s.pv]) (cs := []) rfl rfl (stairs_c s (by omega)) ?_)
      simp [-getElem?_pos, frzsL]
      refine call_gives (k := 0) (fs := []) (xs := [s.pv]) (cs := []) rfl rfl (hist_g s (by omega)) rfl ?_
      simp [-getElem?_pos]
      refine .inl (call_pv [] (fs := []) (xs := [s.pv]) (cs := []) rfl rfl (stairs_c s (by omega)) ?_)
      simp [-getElem?_pos, frzsL]
      refine .inl (call_pv [] (fs := []) (xs := [u8sP l]) (cs := []) rfl rfl (bytes_c l (by omega)) ?_)
      simp [-getElem?_pos, frzsL]
      refine call_gives (k := 0) (fs := []) (xs := [s.pv, u8sP l]) (cs := []) rfl rfl (prove_c s (by omega) l (by omega) hb) rfl ?_
      simp [-getElem?_pos]
      refine call_gives (k := 0) (fs := []) (xs := [s.pv]) (cs := []) rfl rfl (fault_c s (by omega)) rfl ?_
      by_cases hc : s.check = 0
      · have hp : s.prove l = s.isHist l := by simp [St.prove, hc]
        simp [-getElem?_pos, hc]
        refine call_gives (k := 0) (fs := []) (xs := [s.pv, u8sP l]) (cs := []) rfl rfl (isHist_c s hc l (by omega)) rfl ?_
        simp [-getElem?_pos, hp]
        refine call_gives (k := 0) (fs := []) (xs := [s.pv]) (cs := []) rfl rfl (askedL_c s (by omega)) rfl ?_
        by_cases hpo : s.possible = 0
        · have hmany : s.many = s.all.length := by rw [St.many_all, if_pos hpo]
          simp [-getElem?_pos, hpo]
          refine .inl (call_pv [] (fs := []) (xs := [s.pv, .emp (some true)]) (cs := []) rfl rfl (rhist_nil s hc) ?_)
          simp [-getElem?_pos, frzsL, hmany]
          refine call_gives (k := 0) (fs := []) (xs := []) (cs := []) rfl rfl awake_c rfl ?_
          simp [-getElem?_pos]
        · have hmany : s.many = 0 := by rw [St.many_all, if_neg hpo]
          simp [-getElem?_pos, hpo, hmany]
          refine call_gives (k := 0) (fs := []) (xs := []) (cs := []) rfl rfl awake_c rfl ?_
          simp [-getElem?_pos]
      · have hp : s.prove l = false := by simp [St.prove, hc]
        have hpo : s.possible = s.check := by unfold St.possible; rw [if_neg hc]
        have hmany : s.many = 0 := by rw [St.many_all, if_neg (by rw [hpo]; exact hc)]
        simp [-getElem?_pos, hc, hp]
        refine call_gives (k := 0) (fs := []) (xs := [s.pv]) (cs := []) rfl rfl (askedL_c s (by omega)) rfl ?_
        simp [-getElem?_pos, hpo, hc, hmany]
        refine call_gives (k := 0) (fs := []) (xs := []) (cs := []) rfl rfl awake_c rfl ?_
        simp [-getElem?_pos]
    · have hm' : decide ((l.length : Int) > 20) = true := by simp; omega
      simp [-getElem?_pos, -decide_eq_true_eq, -decide_eq_false_iff_not, hn', hm']
      refine call_gives (k := 0) (fs := []) (xs := []) (cs := []) rfl rfl awake_c rfl ?_
      simp [-getElem?_pos]
  · have hn' : decide ((s.runs.length : Int) ≤ 20) = false := by simp; omega
    simp [-getElem?_pos, -decide_eq_true_eq, -decide_eq_false_iff_not, hn']
    refine call_gives (k := 0) (fs := []) (xs := []) (cs := []) rfl rfl awake_c rfl ?_
    simp [-getElem?_pos]
end Go.Proofs.Ytpfogpkocdlloaa

/-! The statement StairHistories holds: for every input the law answers true, and its arguments read behind the call as before. No conditions. -/
namespace Go.Proofs.Ytpfogpkocdlloaa
open Go.ChangeShapes Go.WideShapes Go.ChangeAt Go.RowKit

set_option maxRecDepth 100000 in
theorem walkHistories (v0 v1 : Value) (W : World) {H : Type} {enc : TypeId × Value → H} {base : Nat} {sp : Nat → Bool} {hd : Bool} {d0 d1 : DataW H} {p0 p1 : List MemPlace}
    (k0 : Value.okWide Try.prog W .any base 24 v0) (h0 : DataW.Trod enc Try.prog W 0 sp hd 24 v0 d0 p0)
    (k1 : Value.okWide Try.prog W .any base 41 v1) (h1 : DataW.Trod enc Try.prog W 0 sp hd 41 v1 d1 p1) :
    Calls Try.prog 8 #[v0, v1] W fun e w' => e = .returned (.bool true) ∧ Keep [] W w' := by
  obtain ⟨n0, h0⟩ := h0
  obtain ⟨n1, h1⟩ := h1
  obtain ⟨s, _, _, r0⟩ := rd_stairs k0 h0
  obtain ⟨l, hb, _, r1⟩ := rd_u8s k1 h1
  refine calls_bool (xs := [s.pv, u8sP l]) (b := true) ((histories_law s l hb).mono (fun _ _ h => h.1)) rfl (fun j v x e1 e2 => ?_)
  match j with
  | 0 => simp at e1 e2; subst e1 e2; exact r0
  | 1 => simp at e1 e2; subst e1 e2; exact r1
  | j + 2 => simp at e1
set_option maxRecDepth 100000 in
theorem liftedHistories (os : Os) (started : os.Started) (H : Type) (enc : TypeId × Value → H) :
    ReturnsInHanded {} Try.checked os 8 .any (Rows.stairHistoriesSpec.pre6 enc Try.prog Try.f8 Rows.stairHistoriesRow.domain false) (Rows.stairHistoriesSpec.post enc Try.prog Try.f8 false true false false) := by
  refine returnsInHanded_of_change (C := Try.checked) own started (by kernel_rfl) Try.func8
    (ChangeSpec.witness6 (enc := enc) (C := Try.checked) false ⟨#[], #[.agg #[.int .i64 0, .int .i64 0, .slice none 0 0], .slice none 0 0], []⟩ 8 (by kernel_rfl) (by kernel_rfl) (by kernel_rfl) (by kernel_rfl)) ?_
  intro W base args ds gs before hval0 hW hcnd _
  have hval : ∀ (j : Nat) t v, Try.f8.params[j]? = some t → args[j]? = some v → Value.okWide Try.prog W .any base t v := hval0
  have hW' := hW
  obtain ⟨p, q, hA0, hV, rfl, hfz, hnd⟩ := hW
  have hA : DataW.TrodAll enc Try.prog W 0 (fun _ => true) true Try.f8.params.toList args.toList ds p := hA0
  rw [Try.params8] at hA hval
  obtain ⟨v0, vs0, d0, ds0, p0, q0, hargs, rfl, rfl, h0, r0⟩ := trodAll_cons hA
  obtain ⟨v1, vs1, d1, ds1, p1, q1, rfl, rfl, rfl, h1, r1⟩ := trodAll_cons r0
  obtain ⟨rfl, rfl, rfl⟩ := trodAll_nil r1
  have hargs' : args = #[v0, v1] := by
    apply Array.ext'
    exact hargs
  subst hargs'
  have k0 := hval 0 _ v0 rfl rfl
  have k1 := hval 1 _ v1 rfl rfl
  obtain ⟨rfl, rfl⟩ := trodVars_none hV
  refine (walkHistories v0 v1 W k0 h0 k1 h1).mono fun e W' ⟨he, hk⟩ => ?_
  subst he
  exact ⟨_, rfl, post_law (tb := 4) laidP rowedP fullP (by decide +kernel) rfl rfl rfl Try.underlying4 hW' hk⟩
theorem overHistories : Rows.stairHistoriesRow.holds Try.pinned (OpenSpec.ofChange Rows.stairHistoriesSpec) :=
  OpenClaim.holds_of_wide 8 Try.f8 rfl rfl rfl rfl rfl rfl rfl ⟨rfl, rfl, rfl, rfl, rfl⟩ rfl rfl rfl rfl rfl (by kernel_rfl) Try.func8 (by kernel_rfl)
    (of_decide_eq_true (by kernel_rfl)) (by unfold Func.isWrapper; first | (rw [if_pos (by decide +kernel)]; kernel_rfl) | (rw [if_neg (by decide +kernel)]; exact ⟨rfl, rfl⟩))
    (fun os started H enc _ => liftedHistories os started H enc)
theorem histories_proved : Rows.StairHistoriesSaid := overHistories
end Go.Proofs.Ytpfogpkocdlloaa
