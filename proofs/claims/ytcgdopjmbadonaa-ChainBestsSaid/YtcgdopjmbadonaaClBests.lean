/- Layer 2 (chain): the law ChainBests. (Several texts in one.) -/
import Derived.Test.YtcgdopjmbadonaaChM
import Derived.Test.YtcgdopjmbadonaaChG
import Derived.Test.YtcgdopjmbadonaaChI
import Derived.Test.YtcgdopjmbadonaaRows
import Derived.WalkKit
import Derived.ProofKit
import Derived.OpenShut
import Derived.Test.YtcgdopjmbadonaaChF
set_option linter.unusedVariables false
set_option linter.unusedSimpArgs false
/-! Layer 2 (chain): the law ChainBests. -/
namespace Go.Proofs.Ytcgdopjmbadonaa
open Go.RowKit

set_option maxRecDepth 10000
set_option linter.unusedSimpArgs false
attribute [local irreducible] Bk.held Bk.nums Bk.heldU Bk.span Bk.bestL Bk.chainB
attribute [local simp] AS.exp expG Box.ren AV.map AV.mapL outsOk noRet Site.isRet Box.allS AV.allS AV.allSL retB dropL AS.adds renL outG outOk lentBx inG fnOf lookA List.findIdx?_cons
attribute [local simp] Box.purge Site.isLoc
attribute [local simp] szL_has szL_all szL_purge szL_map szL_last szL_len
theorem ask_ok {b : Bk} {item day : Int} (h : b.askM item day = 0) : b.ok := by
  unfold Bk.askM at h
  split at h
  · rename_i h0; exact Bk.ok_iff.1 h0
  · rename_i h0; exact absurd h h0
set_option maxHeartbeats 16000000 in
theorem bests_law (b : Bk) (item day : Int) (l : List Int) : Gives Try.prog 15 [b.pv, .int .i64 item, .int .i64 day, .lst false 1 (l.map intP)] (.bool true) := by
  have hw := wakes_c
  refine calls_of_awpS mixed L15_ok (Nat.le_of_ble_eq_true rfl) ?_
  simp [-getElem?_pos, L15, Bk.pv]
  refine call_gives (k := 0) (fs := []) (xs := [b.pv]) (cs := []) rfl rfl (thin_c b) rfl ?_
  cases e1 : (decide (b.items.length ≤ 10) && decide (b.certs.length ≤ 28))
  · simp [-getElem?_pos]
    refine call_gives (k := 0) (fs := []) (xs := []) (cs := []) rfl rfl hw rfl ?_
    simp [-getElem?_pos]
  obtain ⟨h1, h2⟩ := thin_of e1
  clear e1
  cases e2 : decide ((30 : Int) < (l.length : Int))
  case true =>
    simp [-getElem?_pos, -decide_eq_true_eq, -decide_eq_false_iff_not, e2]
    refine call_gives (k := 0) (fs := []) (xs := []) (cs := []) rfl rfl hw rfl ?_
    simp [-getElem?_pos]
  have h3 : l.length ≤ 30 := by simp at e2; omega
  have hbk := book_c b (by omega) (by omega)
  have hli := list_c l (by omega)
  have has := asked_law b (by omega) (by omega) item day
  have hpr := prove_c b (by omega) (by omega) item day l (by omega)
  have hbe := Best_c b (by omega) (by omega) item day
  have hPM : b.proveM item day l = (decide (b.askM item day = 0) && b.chainB item day l) := rfl
  have hM : b.bestM item day = if b.askM item day = 0 then (if (b.item item).std = true then ([], 0) else (b.bestL item day, 0)) else ([], b.askM item day) := rfl
  have hok : b.askM item day = 0 → b.ok := ask_ok
  have hit : b.askM item day = 0 → 0 ≤ item ∧ item < b.items.length ∧ 0 ≤ day ∧ day ≤ 1000 := ask_item
  rw [hPM] at hpr
  clear hPM
  have hML : b.ok → (b.bestM item day).1.length ≤ 1000 := fun hb => bestM_len hb item day
  generalize b.askM item day = F at *
  simp [-getElem?_pos, -decide_eq_true_eq, -decide_eq_false_iff_not, e2]
  refine call_gives (k := 0) (fs := []) (xs := [b.pv, .int .i64 item, .int .i64 day]) (cs := []) rfl rfl has rfl ?_
  simp [-getElem?_pos]
  refine .inl (call_pv [] (fs := []) (xs := [b.pv]) (cs := []) rfl rfl hbk ?_)
  simp [-getElem?_pos, frzsL]
  refine .inl (call_pv [] (fs := []) (xs := [.lst false 1 (l.map intP)]) (cs := []) rfl rfl hli ?_)
  simp [-getElem?_pos, frzsL]
  refine call_gives (k := 0) (fs := []) (xs := [b.pv, .int .i64 item, .int .i64 day, .lst false 1 (l.map intP)]) (cs := []) rfl rfl hpr rfl ?_
  cases e3 : decide (F = 0)
  · have e3' : ¬ F = 0 := of_decide_eq_false e3
    rw [if_neg e3'] at hM
    rw [hM] at hbe
    simp [-getElem?_pos, -decide_eq_true_eq, -decide_eq_false_iff_not, e3]
    refine .inl (call_pv [] (fs := []) (xs := [b.pv]) (cs := []) rfl rfl hbk ?_)
    simp [-getElem?_pos, frzsL]
    refine .inl (call_pv [] (fs := []) (xs := [b.pv, .int .i64 item, .int .i64 day]) (cs := []) rfl rfl hbe ?_)
    simp [-getElem?_pos, -decide_eq_true_eq, -decide_eq_false_iff_not, frzsL, lstE, e3]
    refine call_gives (k := 0) (fs := []) (xs := []) (cs := []) rfl rfl hw rfl ?_
    simp [-getElem?_pos]
  have e3' : F = 0 := of_decide_eq_true e3
  subst e3'
  have hb := hok rfl
  obtain ⟨h4, h5, h6, h7⟩ := hit rfl
  have hic := ischain_c b hb item day h4 h5 l (by omega)
  rw [if_pos rfl] at hM
  generalize b.chainB item day l = C at *
  have hcc : (decide ((0 : Int) = 0) && C) = C := by simp
  try rw [hcc] at hpr
  simp [-getElem?_pos]
  refine call_gives (k := 0) (fs := []) (xs := [b.pv, .int .i64 item, .int .i64 day, .lst false 1 (l.map intP)]) (cs := []) rfl rfl hic rfl ?_
  have hCC : (C != C) = false := by cases C <;> rfl
  simp [-getElem?_pos, hCC, ctsP]
  cases e5 : decide ((10 : Int) < (b.certs.length : Int))
  case true =>
    simp [-getElem?_pos, -decide_eq_true_eq, -decide_eq_false_iff_not, e5]
    refine call_gives (k := 0) (fs := []) (xs := []) (cs := []) rfl rfl hw rfl ?_
    simp [-getElem?_pos]
  have h8 : b.certs.length ≤ 10 := by simp at e5; omega
  have hrb := rbest_c b hb h8 item day h4 h5
  have hM2 : b.bestM item day = ((if (b.item item).std = true then [] else b.bestL item day), 0) := by rw [hM]; split <;> rfl
  rw [hM2] at hbe hML
  have hl := hML hb
  generalize (if (b.item item).std = true then [] else b.bestL item day) = R at *
  have hin := ints_c R R (by simp only at hl; omega)
  rw [decide_eq_true rfl] at hin
  simp [-getElem?_pos, -decide_eq_true_eq, -decide_eq_false_iff_not, e5]
  refine .inl (call_pv [] (fs := []) (xs := [b.pv]) (cs := []) rfl rfl hbk ?_)
  simp [-getElem?_pos, frzsL]
  refine .inl (call_pv [] (fs := []) (xs := [b.pv, .int .i64 item, .int .i64 day]) (cs := []) rfl rfl hbe ?_)
  simp [-getElem?_pos, frzsL, lstE]
  refine .inl (call_pv [] (fs := []) (xs := [b.pv, .int .i64 item, .int .i64 day]) (cs := []) rfl rfl hrb ?_)
  simp [-getElem?_pos, frzsL]
  refine call_gives (k := 0) (fs := []) (xs := [.lst false 1 (R.map intP), .lst false 1 (R.map intP)]) (cs := []) rfl rfl hin rfl ?_
  simp [-getElem?_pos]
  refine call_gives (k := 0) (fs := []) (xs := []) (cs := []) rfl rfl hw rfl ?_
  simp [-getElem?_pos]
end Go.Proofs.Ytcgdopjmbadonaa

/-! The statement ChainBests holds: for every input the law answers true, and its arguments read behind the call as before. No conditions. -/
namespace Go.Proofs.Ytcgdopjmbadonaa
open Go.ChangeShapes Go.WideShapes Go.ChangeAt Go.RowKit

set_option maxRecDepth 100000 in
theorem walkChainBests (v0 v1 v2 v3 : Value) (W : World) {H : Type} {enc : TypeId × Value → H} {base : Nat} {sp : Nat → Bool} {hd : Bool} {d0 d1 d2 d3 : DataW H} {p0 p1 p2 p3 : List MemPlace}
    (k0 : Value.okWide Try.prog W .any base 25 v0) (h0 : DataW.Trod enc Try.prog W 0 sp hd 25 v0 d0 p0)
    (k1 : Value.okWide Try.prog W .any base 3 v1) (h1 : DataW.Trod enc Try.prog W 0 sp hd 3 v1 d1 p1)
    (k2 : Value.okWide Try.prog W .any base 3 v2) (h2 : DataW.Trod enc Try.prog W 0 sp hd 3 v2 d2 p2)
    (k3 : Value.okWide Try.prog W .any base 26 v3) (h3 : DataW.Trod enc Try.prog W 0 sp hd 26 v3 d3 p3) :
    Calls Try.prog 15 #[v0, v1, v2, v3] W fun e w' => e = .returned (.bool true) ∧ Keep [] W w' := by
  obtain ⟨n0, h0⟩ := h0
  obtain ⟨s0, w0, r0⟩ := rk_book k0 h0
  obtain ⟨s1, rfl, rfl, rfl, w1⟩ := open_int Try.underlying3 k1 h1
  obtain ⟨s2, rfl, rfl, rfl, w2⟩ := open_int Try.underlying3 k2 h2
  obtain ⟨n3, h3⟩ := h3
  obtain ⟨s3, w3, l3, r3⟩ := rd_ints k3 h3
  refine calls_bool (xs := [s0.pv, .int .i64 s1, .int .i64 s2, .lst false 1 (s3.map intP)]) (b := true) ((bests_law s0 s1 s2 s3).mono (fun _ _ h => h.1)) rfl (fun j v x e1 e2 => ?_)
  match j with
  | 0 => simp at e1 e2; subst e1 e2; exact r0
  | 1 => simp at e1 e2; subst e1 e2; exact .int .i64 s1
  | 2 => simp at e1 e2; subst e1 e2; exact .int .i64 s2
  | 3 => simp at e1 e2; subst e1 e2; exact r3
  | j + 4 => simp at e1
set_option maxRecDepth 100000 in
theorem liftedChainBests (os : Os) (started : os.Started) (H : Type) (enc : TypeId × Value → H) :
    ReturnsInHanded {} Try.checked os 15 .any (Rows.chainBestsSpec.pre6 enc Try.prog Try.f15 Rows.chainBestsRow.domain false) (Rows.chainBestsSpec.post enc Try.prog Try.f15 false true false false) := by
  refine returnsInHanded_of_change (C := Try.checked) own started (by kernel_rfl) Try.func15
    (ChangeSpec.witness6 (enc := enc) (C := Try.checked) false ⟨#[], #[.agg #[.slice none 0 0, .slice none 0 0], .int .i64 0, .int .i64 0, .slice none 0 0], []⟩ 8 (by kernel_rfl) (by kernel_rfl) (by kernel_rfl) (by kernel_rfl)) ?_
  intro W base args ds gs before hval0 hW hcnd _
  have hval : ∀ (j : Nat) t v, Try.f15.params[j]? = some t → args[j]? = some v → Value.okWide Try.prog W .any base t v := hval0
  have hW' := hW
  obtain ⟨p, q, hA0, hV, rfl, hfz, hnd⟩ := hW
  have hA : DataW.TrodAll enc Try.prog W 0 (fun _ => true) true Try.f15.params.toList args.toList ds p := hA0
  rw [Try.params15] at hA hval
  obtain ⟨v0, vs0, d0, ds0, p0, q0, hargs, rfl, rfl, h0, r0⟩ := trodAll_cons hA
  obtain ⟨v1, vs1, d1, ds1, p1, q1, rfl, rfl, rfl, h1, r1⟩ := trodAll_cons r0
  obtain ⟨v2, vs2, d2, ds2, p2, q2, rfl, rfl, rfl, h2, r2⟩ := trodAll_cons r1
  obtain ⟨v3, vs3, d3, ds3, p3, q3, rfl, rfl, rfl, h3, r3⟩ := trodAll_cons r2
  obtain ⟨rfl, rfl, rfl⟩ := trodAll_nil r3
  have hargs' : args = #[v0, v1, v2, v3] := by
    apply Array.ext'
    exact hargs
  subst hargs'
  have k0 := hval 0 _ v0 rfl rfl
  have k1 := hval 1 _ v1 rfl rfl
  have k2 := hval 2 _ v2 rfl rfl
  have k3 := hval 3 _ v3 rfl rfl
  obtain ⟨rfl, rfl⟩ := trodVars_none hV
  refine (walkChainBests v0 v1 v2 v3 W k0 h0 k1 h1 k2 h2 k3 h3).mono fun e W' ⟨he, hk⟩ => ?_
  subst he
  exact ⟨_, rfl, post_law (tb := 4) laidP rowedP fullP (by decide +kernel) rfl rfl rfl Try.underlying4 hW' hk⟩
theorem overChainBests : Rows.chainBestsRow.holds Try.pinned (OpenSpec.ofChange Rows.chainBestsSpec) :=
  OpenClaim.holds_of_wide 15 Try.f15 rfl rfl rfl rfl rfl rfl rfl ⟨rfl, rfl, rfl, rfl, rfl⟩ rfl rfl rfl rfl rfl (by kernel_rfl) Try.func15 (by kernel_rfl)
    (of_decide_eq_true (by kernel_rfl)) (by unfold Func.isWrapper; first | (rw [if_pos (by decide +kernel)]; kernel_rfl) | (rw [if_neg (by decide +kernel)]; exact ⟨rfl, rfl⟩))
    (fun os started H enc _ => liftedChainBests os started H enc)
theorem provedChainBests : Rows.ChainBestsSaid := overChainBests
end Go.Proofs.Ytcgdopjmbadonaa
