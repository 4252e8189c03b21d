/- Layer 2 (chain): the law ChainSuspects. (Several texts in one.) -/
import Derived.Test.YtcgdopjmbadonaaChH
import Derived.Test.YtcgdopjmbadonaaRows
import Derived.WalkKit
import Derived.ProofKit
import Derived.OpenShut
import Derived.Test.YtcgdopjmbadonaaChF
set_option linter.unusedVariables false
set_option linter.unusedSimpArgs false
/-! Layer 2 (chain): the law ChainSuspects. -/
namespace Go.Proofs.Ytcgdopjmbadonaa
open Go.RowKit

set_option maxRecDepth 10000
set_option linter.unusedSimpArgs false
/-- The suspects below a number, by the reference's words. -/
def spL (b : Bk) (n : Nat) : List Int := ((List.range n).filter fun m : Nat => b.isN m && b.suspB m).map Int.ofNat
theorem spL_next (b : Bk) (n : Nat) : spL b (n + 1) = spL b n ++ (if (b.isN n && b.suspB n) = true then [(n : Int)] else []) := by
  unfold spL
  rw [List.range_succ, List.filter_append, List.map_append]
  congr 1
  simp only [List.filter_cons, List.filter_nil]
  split
  · rfl
  · rfl
theorem spL_one {b : Bk} (hb : b.ok) : spL b 1 = [] := by
  have h : b.isN ((0 : Nat) : Int) = false := by
    unfold Bk.isN
    rw [List.any_eq_false]
    intro c hc
    have := (cert_bds hb hc).1
    simp
    omega
  rw [spL_next, h]; rfl
theorem spL_full {b : Bk} : spL b 1000 = b.nums.filter b.suspB := by
  unfold spL Bk.nums Bk.isN
  rw [List.filter_map, List.filter_filter]
  congr 1
  refine List.filter_congr fun m _ => ?_
  rw [Bool.and_comm]; rfl
theorem spL_len (b : Bk) (n : Nat) : (spL b n).length ≤ n := by
  unfold spL
  rw [List.length_map]
  exact Nat.le_trans (List.length_filter_le _ _) (by rw [List.length_range]; exact Nat.le_refl _)
attribute [local irreducible] Bk.held Bk.nums Bk.heldU Bk.span Bk.contra Bk.suspB Bk.isN spL
attribute [local simp] AS.exp expG Box.ren AV.map AV.mapL outsOk noRet Site.isRet Box.allS AV.allS AV.allSL retB dropL AS.adds renL outG outOk lentBx inG fnOf lookA List.findIdx?_cons
attribute [local simp] Box.purge Site.isLoc
def ssK (b : Bk) (X : List Int) (n : Nat) : AS := ⟨[(1, .ptr (.loc 1 0) 0), (3, .pv (.lst false 1 (X.map intP))), (4, .pv (.int .i64 0)), (6, .vec (.loc 63 0) 1 0 (spL b n).length), (7, .pv (.int .i64 n))], [(.loc 63 0, .arr 3 1 ((spL b n).map intP)), (.loc 1 0, .cells b.cells)]⟩
set_option maxHeartbeats 16000000 in
theorem suspects_law (b : Bk) : Gives Try.prog 10 [b.pv] (.bool true) := by
  have hw := wakes_c
  refine calls_of_awpS mixed L10_ok (Nat.le_of_ble_eq_true rfl) ?_
  simp [-getElem?_pos, L10, Bk.pv]
  refine call_gives (k := 0) (fs := []) (xs := [b.pv]) (cs := []) rfl rfl (thin_c b) rfl ?_
  cases e1 : (decide (b.items.length ≤ 10) && decide (b.certs.length ≤ 28))
  · simp [-getElem?_pos]
    refine call_gives (k := 0) (fs := []) (xs := []) (cs := []) rfl rfl hw rfl ?_
    simp [-getElem?_pos]
  obtain ⟨h1, h2⟩ := thin_of e1
  clear e1
  have hbk := book_c b (by omega) (by omega)
  have hsu := Suspects_c b (by omega) (by omega)
  have hfa := fault_c b (by omega) (by omega)
  have hM : b.suspM = if b.fault = 0 then (if b.contra = true then (b.nums.filter b.suspB, 0) else ([], 7)) else ([], b.fault) := rfl
  have hok : b.fault = 0 → b.ok := Bk.ok_iff.1
  generalize b.fault = F at *
  simp [-getElem?_pos]
  refine .inl (call_pv [] (fs := []) (xs := [b.pv]) (cs := []) rfl rfl hbk ?_)
  simp [-getElem?_pos, frzsL]
  refine .inl (call_pv [] (fs := []) (xs := [b.pv]) (cs := []) rfl rfl hsu ?_)
  simp [-getElem?_pos, frzsL, lstE]
  refine call_gives (k := 0) (fs := []) (xs := [b.pv]) (cs := []) rfl rfl hfa rfl ?_
  cases e3 : decide (F = 0)
  · have e3' : ¬ F = 0 := of_decide_eq_false e3
    rw [if_neg e3'] at hM
    rw [hM]
    simp [-getElem?_pos, -decide_eq_true_eq, -decide_eq_false_iff_not, e3]
    refine call_gives (k := 0) (fs := []) (xs := []) (cs := []) rfl rfl hw rfl ?_
    simp [-getElem?_pos]
  have e3' : F = 0 := of_decide_eq_true e3
  subst e3'
  have hb := hok rfl
  simp [-getElem?_pos]
  refine call_gives (k := 0) (fs := []) (xs := [b.pv]) (cs := []) rfl rfl (rcontra_c b hb) rfl ?_
  cases e4 : b.contra
  · rw [if_pos rfl, if_neg (by simp [e4])] at hM
    rw [hM]
    simp [-getElem?_pos]
    refine call_gives (k := 0) (fs := []) (xs := []) (cs := []) rfl rfl hw rfl ?_
    simp [-getElem?_pos]
  rw [if_pos rfl, if_pos e4, ← spL_full] at hM
  rw [hM]
  have hXl := spL_len b 1000
  have hin := ints_c (spL b 1000) (spL b 1000) (by omega)
  rw [decide_eq_true rfl] at hin
  obtain ⟨X, hX⟩ : ∃ X, spL b 1000 = X := ⟨_, rfl⟩
  rw [hX] at hin ⊢
  clear hM hXl
  simp [-getElem?_pos]
  refine awp_loopS (fun m τ => ∃ n : Nat, n ≤ 1000 ∧ m = 1000 - n ∧ τ = ssK b X n) ⟨999, ssK b X 1, Sub.trans' (Sub.mk (by simp [ssK, AS.vecT, spL_one hb]) (by simp [ssK, AS.vecT, spL_one hb, Bk.cells])) (vecT 63 3 1 6 rfl (by decide)), 1, by omega, rfl, rfl⟩ ?_
  rintro J hJ m τ ⟨n, hn, rfl, rfl⟩
  have hpl := spL_len b n
  by_cases hlt : n < 1000
  · have hwk : IntKind.i64.wrap ((n : Int) + 1) = ((n + 1 : Nat) : Int) := wrapK (by omega)
    have hle : decide ((n : Int) ≤ 999) = true := by simp; omega
    have hround := hJ _ _ ⟨n + 1, hlt, rfl, rfl⟩
    have hmeas : 1000 - (n + 1) < 1000 - n := by omega
    have hnext := spL_next b n
    have hget := rget_c b (by omega) n
    have hwo := rwo_c b (by omega) n
    have hct := rcontra_c (b.wo n) (wo_ok hb n)
    have hsB : b.suspB n = !(b.wo n).contra := by unfold Bk.suspB; rfl
    unfold ssK at hround ⊢
    rw [hnext, hsB] at hround
    clear hJ hnext hsB hX
    generalize spL b n = Y at *
    have hY : (Y.map intP).take Y.length = Y.map intP := List.take_of_length_le (by simp)
    have hY6 : Y.length ≤ 999999 := by omega
    unfold Ct.pv at hget
    generalize b.get n = c at *
    simp [-getElem?_pos, -List.getElem?_map, -decide_eq_true_eq, -decide_eq_false_iff_not, Bk.cells, hle]
    refine call_gives (k := 0) (fs := []) (xs := [b.pv, .int .i64 n]) (cs := []) rfl rfl hget rfl ?_
    cases c1 : b.isN n
    · rw [c1, Bool.false_and, if_neg (by simp), List.append_nil] at hround
      simp [-getElem?_pos, -List.getElem?_map, hwk]
      exact ⟨_, _, hmeas, Sub.mk (by simp) (by simp [Bk.cells]), hround⟩
    rw [c1, Bool.true_and] at hround
    simp [-getElem?_pos, -List.getElem?_map]
    refine .inl (call_pv [] (fs := []) (xs := [b.pv, .int .i64 n]) (cs := []) rfl rfl hwo ?_)
    simp [-getElem?_pos, -List.getElem?_map, frzsL]
    refine call_gives (k := 0) (fs := []) (xs := [(b.wo n).pv]) (cs := []) rfl rfl hct rfl ?_
    cases c2 : (b.wo n).contra
    case true =>
      rw [c2, if_neg (by simp), List.append_nil] at hround
      simp [-getElem?_pos, -List.getElem?_map, hwk]
      exact ⟨_, _, hmeas, Sub.mk (by simp) (by simp [Bk.cells]), hround⟩
    case false =>
    rw [c2, if_pos (by rfl)] at hround
    simp [-getElem?_pos, -List.getElem?_map, hwk, nble, nblt, hY, hY6]
    exact ⟨_, _, hmeas, Sub.mk (by simp) (by simp [Bk.cells, intP]), hround⟩
  have he : n = 1000 := by omega
  subst he
  clear hJ
  unfold ssK
  rw [hX]
  have hXt : (X.map intP).take X.length = X.map intP := List.take_of_length_le (by simp)
  simp [-getElem?_pos, -List.getElem?_map]
  refine call_gives (k := 0) (fs := []) (xs := [.lst false 1 (X.map intP), .lst false 1 (X.map intP)]) (cs := []) rfl (by simp [snapW, AV.snap, AV.snap0, hXt]) hin rfl ?_
  simp [-getElem?_pos]
  refine call_gives (k := 0) (fs := []) (xs := []) (cs := []) rfl rfl hw rfl ?_
  simp [-getElem?_pos]
end Go.Proofs.Ytcgdopjmbadonaa

/-! The statement ChainSuspects holds: for every input the law answers true, and its arguments read behind the call as before. No conditions. -/
namespace Go.Proofs.Ytcgdopjmbadonaa
open Go.ChangeShapes Go.WideShapes Go.ChangeAt Go.RowKit

set_option maxRecDepth 100000 in
theorem walkChainSuspects (v0 : Value) (W : World) {H : Type} {enc : TypeId × Value → H} {base : Nat} {sp : Nat → Bool} {hd : Bool} {d0 : DataW H} {p0 : List MemPlace}
    (k0 : Value.okWide Try.prog W .any base 25 v0) (h0 : DataW.Trod enc Try.prog W 0 sp hd 25 v0 d0 p0) :
    Calls Try.prog 10 #[v0] W fun e w' => e = .returned (.bool true) ∧ Keep [] W w' := by
  obtain ⟨n0, h0⟩ := h0
  obtain ⟨s0, w0, r0⟩ := rk_book k0 h0
  refine calls_bool (xs := [s0.pv]) (b := true) ((suspects_law s0).mono (fun _ _ h => h.1)) rfl (fun j v x e1 e2 => ?_)
  match j with
  | 0 => simp at e1 e2; subst e1 e2; exact r0
  | j + 1 => simp at e1
set_option maxRecDepth 100000 in
theorem liftedChainSuspects (os : Os) (started : os.Started) (H : Type) (enc : TypeId × Value → H) :
    ReturnsInHanded {} Try.checked os 10 .any (Rows.chainSuspectsSpec.pre6 enc Try.prog Try.f10 Rows.chainSuspectsRow.domain false) (Rows.chainSuspectsSpec.post enc Try.prog Try.f10 false true false false) := by
  refine returnsInHanded_of_change (C := Try.checked) own started (by kernel_rfl) Try.func10
    (ChangeSpec.witness6 (enc := enc) (C := Try.checked) false ⟨#[], #[.agg #[.slice none 0 0, .slice none 0 0]], []⟩ 8 (by kernel_rfl) (by kernel_rfl) (by kernel_rfl) (by kernel_rfl)) ?_
  intro W base args ds gs before hval0 hW hcnd _
  have hval : ∀ (j : Nat) t v, Try.f10.params[j]? = some t → args[j]? = some v → Value.okWide Try.prog W .any base t v := hval0
  have hW' := hW
  obtain ⟨p, q, hA0, hV, rfl, hfz, hnd⟩ := hW
  have hA : DataW.TrodAll enc Try.prog W 0 (fun _ => true) true Try.f10.params.toList args.toList ds p := hA0
  rw [Try.params10] at hA hval
  obtain ⟨v0, vs0, d0, ds0, p0, q0, hargs, rfl, rfl, h0, r0⟩ := trodAll_cons hA
  obtain ⟨rfl, rfl, rfl⟩ := trodAll_nil r0
  have hargs' : args = #[v0] := by
    apply Array.ext'
    exact hargs
  subst hargs'
  have k0 := hval 0 _ v0 rfl rfl
  obtain ⟨rfl, rfl⟩ := trodVars_none hV
  refine (walkChainSuspects v0 W k0 h0).mono fun e W' ⟨he, hk⟩ => ?_
  subst he
  exact ⟨_, rfl, post_law (tb := 4) laidP rowedP fullP (by decide +kernel) rfl rfl rfl Try.underlying4 hW' hk⟩
theorem overChainSuspects : Rows.chainSuspectsRow.holds Try.pinned (OpenSpec.ofChange Rows.chainSuspectsSpec) :=
  OpenClaim.holds_of_wide 10 Try.f10 rfl rfl rfl rfl rfl rfl rfl ⟨rfl, rfl, rfl, rfl, rfl⟩ rfl rfl rfl rfl rfl (by kernel_rfl) Try.func10 (by kernel_rfl)
    (of_decide_eq_true (by kernel_rfl)) (by unfold Func.isWrapper; first | (rw [if_pos (by decide +kernel)]; kernel_rfl) | (rw [if_neg (by decide +kernel)]; exact ⟨rfl, rfl⟩))
    (fun os started H enc _ => liftedChainSuspects os started H enc)
theorem provedChainSuspects : Rows.ChainSuspectsSaid := overChainSuspects
end Go.Proofs.Ytcgdopjmbadonaa
