/- Layer 2 (chain): the law ChainLater. (Several texts in one.) -/
import Derived.Test.YtcgdopjmbadonaaChI
import Derived.Test.YtcgdopjmbadonaaChG
import Derived.Test.YtcgdopjmbadonaaRows
import Derived.WalkKit
import Derived.ProofKit
import Derived.OpenShut
import Derived.Test.YtcgdopjmbadonaaChF
set_option linter.unusedVariables false
set_option linter.unusedSimpArgs false
/-! Layer 2 (chain): the law ChainLater. -/
namespace Go.Proofs.Ytcgdopjmbadonaa
open Go.RowKit

set_option maxRecDepth 10000
set_option linter.unusedSimpArgs false
attribute [local irreducible] Bk.held Bk.nums Bk.heldU Bk.span Bk.contra
attribute [local simp] AS.exp expG Box.ren AV.map AV.mapL outsOk noRet Site.isRet Box.allS AV.allS AV.allSL retB dropL AS.adds renL outG outOk lentBx inG fnOf lookA List.findIdx?_cons
attribute [local simp] Box.purge Site.isLoc
attribute [local simp] retFz frzL AS.frz AV.frz AV.frzL Box.frz AS.tidy AS.frzC
def laK (b : Bk) (K D : Int) (k : Nat) : AS := ⟨[(3, .ptr (.loc 3 0) 0), (7, .pv (.int .i64 K)), (8, .pv (.int .i64 D)), (9, .ptr (.loc 9 0) 0), (10, .pv (.int .i64 k))],
  [(.loc 64 0, .arr 58 7 (((b.certs.take k).filter fun c => decide (c.day ≤ D)).map Ct.pv)), (.loc 9 0, .cells [.pv (itsP b.items), .vec (.loc 64 0) 7 0 ((b.certs.take k).filter fun c => decide (c.day ≤ D)).length]), (.loc 3 0, .cells b.cells)]⟩
set_option maxHeartbeats 16000000 in
theorem later_law (b : Bk) (item day : Int) (hit : 0 ≤ item ∧ item ≤ 255) (hdy : 0 ≤ day ∧ day ≤ 65535) : Gives Try.prog 7 [b.pv, .int .u8 item, .int .u16 day] (.bool true) := by
  have hw := wakes_c
  refine calls_of_awpS mixed L7_ok (Nat.le_of_ble_eq_true rfl) ?_
  simp [-getElem?_pos, L7, Bk.pv]
  refine call_gives (k := 0) (fs := []) (xs := [b.pv]) (cs := []) rfl rfl (ready_c b) rfl ?_
  cases e1 : (decide (b.items.length ≤ 10) && decide (b.certs.length ≤ 28) && decide (b.fault = 0))
  · simp [-getElem?_pos]
    refine call_gives (k := 0) (fs := []) (xs := []) (cs := []) rfl rfl hw rfl ?_
    simp [-getElem?_pos]
  have hb := ready_of e1
  clear e1
  by_cases hne : b.items = []
  · simp [-getElem?_pos, itsP, ctsP, hne]
    refine call_gives (k := 0) (fs := []) (xs := []) (cs := []) rfl rfl hw rfl ?_
    simp [-getElem?_pos]
  have w1 : IntKind.i64.wrap item = item := wrap64 (by omega)
  have w2 : IntKind.i64.wrap day = day := wrap64 (by omega)
  simp [-getElem?_pos, itsP, ctsP, hne, w1, w2]
  generalize hK : item.tmod (b.items.length : Int) = K at *
  generalize hD : day.tmod 1001 = D at *
  have hil := hb.i
  have hcl := hb.c
  refine awp_loopS (fun n τ => ∃ k : Nat, k ≤ b.certs.length ∧ n = b.certs.length - k ∧ τ = laK b K D k) ⟨b.certs.length, laK b K D 0, Sub.trans' (Sub.mk (by simp [laK, AS.vecC]) (by simp [laK, AS.vecC, Bk.cells, itsP, ctsP])) (vecC 64 58 7 (s := .loc 9 0) (cs := [.pv (itsP b.items), .pv (.emp (some true))]) 1 rfl rfl (by decide)), 0, by omega, rfl, rfl⟩ ?_
  rintro J hJ n τ ⟨k, hk, rfl, rfl⟩
  by_cases hlt : k < b.certs.length
  · obtain ⟨o, ho, hom, hgo⟩ := ct_at hlt
    have hwk := wrapK (k := k) (by omega)
    have hround := hJ _ _ ⟨k + 1, hlt, rfl, rfl⟩
    have hmeas : b.certs.length - (k + 1) < b.certs.length - k := by omega
    have hnext : (b.certs.take (k + 1)).filter (fun c => decide (c.day ≤ D)) = (b.certs.take k).filter (fun c => decide (c.day ≤ D)) ++ (if (decide (o.day ≤ D)) = true then [o] else []) := by
      rw [List.take_add_one, ho, List.filter_append]
      congr 1
      simp only [Option.toList, List.filter_cons, List.filter_nil]
    have hpl : ((b.certs.take k).filter fun c => decide (c.day ≤ D)).length ≤ 1000 := Nat.le_trans (List.length_filter_le _ _) (by rw [List.length_take]; omega)
    unfold laK at hround ⊢
    rw [hnext] at hround
    clear hJ hnext
    generalize ((b.certs.take k).filter fun c => decide (c.day ≤ D)) = Y at *
    have hY : (Y.map Ct.pv).take Y.length = Y.map Ct.pv := List.take_of_length_le (by simp)
    have hY6 : Y.length ≤ 999999 := by omega
    cases e1 : decide (o.day ≤ D)
    · rw [e1, if_neg (by simp), List.append_nil] at hround
      simp [-getElem?_pos, -List.getElem?_map, -decide_eq_true_eq, -decide_eq_false_iff_not, Bk.cells, itsP, ctsP, hlt, hgo, hwk, e1]
      exact ⟨_, _, hmeas, Sub.mk (by simp) (by simp [Bk.cells, itsP, ctsP]), hround⟩
    · rw [e1, if_pos rfl] at hround
      simp [-getElem?_pos, -List.getElem?_map, -decide_eq_true_eq, -decide_eq_false_iff_not, Bk.cells, itsP, ctsP, hlt, hgo, hwk, e1, nble, nblt, hY, hY6]
      exact ⟨_, _, hmeas, Sub.mk (by simp) (by simp [Bk.cells, itsP, ctsP, Ct.pv]), hround⟩
  have he : k = b.certs.length := by omega
  subst he
  clear hJ
  have hb2 := upto_ok hb D
  have hxp : (b.upto D).pv = .agg [itsP b.items, .lst false 7 ((b.certs.filter fun c => decide (c.day ≤ D)).map Ct.pv)] := rfl
  have hx1 := hb2.i
  have hx2 := hb2.c
  have hbk := book_c b (by omega) (by omega)
  have hbk2 := book_c (b.upto D) (by omega) (by omega)
  have hs1 := Span_c b (by omega) (by omega) K D
  have hs2 := Span_c (b.upto D) (by omega) (by omega) K D
  have hb1 := Best_c b (by omega) (by omega) K D
  have hb2' := Best_c (b.upto D) (by omega) (by omega) K D
  rw [Part.bestM hb hb2 (upto_part b D) upto_on] at hb2'
  have hq := upto_span hb K D
  have l1 := bestM_len hb K D
  unfold laK
  rw [List.take_length]
  have hYl : (b.certs.filter fun c => decide (c.day ≤ D)).length ≤ 24 := hx2
  generalize (b.certs.filter fun c => decide (c.day ≤ D)) = Y at *
  have hY : (Y.map Ct.pv).take Y.length = Y.map Ct.pv := List.take_of_length_le (by simp)
  generalize b.upto D = b2 at *
  generalize b2.spanM K D = S2 at *
  generalize b.spanM K D = S1 at *
  generalize b.bestM K D = M1 at *
  obtain ⟨R1, E1⟩ := S1
  obtain ⟨R2, E2⟩ := S2
  obtain ⟨L, G⟩ := M1
  simp only at hq l1
  have hi1 := ints_c L L (by omega)
  rw [decide_eq_true rfl] at hi1
  unfold spanE Cr.pv at hs1 hs2
  unfold lstE at hb1 hb2'
  simp only at hs1 hs2 hb1 hb2'
  simp [-getElem?_pos, -List.getElem?_map, Bk.cells, itsP, ctsP]
  refine .inl (call_pv [] (fs := []) (xs := [b.pv]) (cs := []) rfl rfl hbk ?_)
  simp [-getElem?_pos, frzsL]
  refine .inl (call_pv [] (fs := []) (xs := [b.pv, .int .i64 K, .int .i64 D]) (cs := []) rfl rfl hs1 ?_)
  simp [-getElem?_pos, frzsL]
  refine .inl (call_pv [.loc 64 0] (fs := []) (xs := [b2.pv]) (cs := []) rfl ?_ hbk2 ?_)
  · simp [frzsL, hY, hxp, itsP]
  simp [-getElem?_pos, frzsL, hY]
  refine .inl (call_pv [] (fs := []) (xs := [b2.pv, .int .i64 K, .int .i64 D]) (cs := []) rfl rfl hs2 ?_)
  simp [-getElem?_pos, frzsL]
  refine .inl (call_pv [] (fs := []) (xs := [b.pv]) (cs := []) rfl rfl hbk ?_)
  simp [-getElem?_pos, frzsL]
  refine .inl (call_pv [] (fs := []) (xs := [b.pv, .int .i64 K, .int .i64 D]) (cs := []) rfl rfl hb1 ?_)
  simp [-getElem?_pos, frzsL]
  refine .inl (call_pv [] (fs := []) (xs := [b2.pv]) (cs := []) rfl (by simp [frzsL, hxp, itsP]) hbk2 ?_)
  simp [-getElem?_pos, frzsL]
  refine .inl (call_pv [] (fs := []) (xs := [b2.pv, .int .i64 K, .int .i64 D]) (cs := []) rfl rfl hb2' ?_)
  simp [-getElem?_pos, frzsL]
  refine call_gives (k := 0) (fs := []) (xs := [.lst false 1 (L.map intP), .lst false 1 (L.map intP)]) (cs := []) rfl rfl hi1 rfl ?_
  rcases hq with ⟨q1, q2⟩ | ⟨q1, q2⟩ | ⟨q1, q2⟩
  · subst q1 q2
    simp [-getElem?_pos]
    refine call_gives (k := 0) (fs := []) (xs := []) (cs := []) rfl rfl hw rfl ?_
    simp [-getElem?_pos]
  · subst q1 q2
    simp [-getElem?_pos]
    refine call_gives (k := 0) (fs := []) (xs := []) (cs := []) rfl rfl hw rfl ?_
    simp [-getElem?_pos]
  · cases q2
    have hre := rgI (a := R1) (b := R1)
    rw [decide_eq_true rfl] at hre
    simp [-getElem?_pos, q1, hre, -eqK]
    refine call_gives (k := 0) (fs := []) (xs := []) (cs := []) rfl rfl hw rfl ?_
    simp [-getElem?_pos]
end Go.Proofs.Ytcgdopjmbadonaa

/-! The statement ChainLater holds: for every input the law answers true, and its arguments read behind the call as before. No conditions. -/
namespace Go.Proofs.Ytcgdopjmbadonaa
open Go.ChangeShapes Go.WideShapes Go.ChangeAt Go.RowKit

set_option maxRecDepth 100000 in
theorem walkChainLater (v0 v1 v2 : Value) (W : World) {H : Type} {enc : TypeId × Value → H} {base : Nat} {sp : Nat → Bool} {hd : Bool} {d0 d1 d2 : DataW H} {p0 p1 p2 : List MemPlace}
    (k0 : Value.okWide Try.prog W .any base 25 v0) (h0 : DataW.Trod enc Try.prog W 0 sp hd 25 v0 d0 p0)
    (k1 : Value.okWide Try.prog W .any base 5 v1) (h1 : DataW.Trod enc Try.prog W 0 sp hd 5 v1 d1 p1)
    (k2 : Value.okWide Try.prog W .any base 64 v2) (h2 : DataW.Trod enc Try.prog W 0 sp hd 64 v2 d2 p2) :
    Calls Try.prog 7 #[v0, v1, v2] W fun e w' => e = .returned (.bool true) ∧ Keep [] W w' := by
  obtain ⟨n0, h0⟩ := h0
  obtain ⟨s0, w0, r0⟩ := rk_book k0 h0
  obtain ⟨s1, rfl, rfl, rfl, w1⟩ := open_int Try.underlying5 k1 h1
  obtain ⟨s2, rfl, rfl, rfl, w2⟩ := open_int Try.underlying64 k2 h2
  refine calls_bool (xs := [s0.pv, .int .u8 s1, .int .u16 s2]) (b := true) ((later_law s0 s1 s2 (ku8 w1) (ku16 w2)).mono (fun _ _ h => h.1)) rfl (fun j v x e1 e2 => ?_)
  match j with
  | 0 => simp at e1 e2; subst e1 e2; exact r0
  | 1 => simp at e1 e2; subst e1 e2; exact .int .u8 s1
  | 2 => simp at e1 e2; subst e1 e2; exact .int .u16 s2
  | j + 3 => simp at e1
set_option maxRecDepth 100000 in
theorem liftedChainLater (os : Os) (started : os.Started) (H : Type) (enc : TypeId × Value → H) :
    ReturnsInHanded {} Try.checked os 7 .any (Rows.chainLaterSpec.pre6 enc Try.prog Try.f7 Rows.chainLaterRow.domain false) (Rows.chainLaterSpec.post enc Try.prog Try.f7 false true false false) := by
  refine returnsInHanded_of_change (C := Try.checked) own started (by kernel_rfl) Try.func7
    (ChangeSpec.witness6 (enc := enc) (C := Try.checked) false ⟨#[], #[.agg #[.slice none 0 0, .slice none 0 0], .int .u8 0, .int .u16 0], []⟩ 8 (by kernel_rfl) (by kernel_rfl) (by kernel_rfl) (by kernel_rfl)) ?_
  intro W base args ds gs before hval0 hW hcnd _
  have hval : ∀ (j : Nat) t v, Try.f7.params[j]? = some t → args[j]? = some v → Value.okWide Try.prog W .any base t v := hval0
  have hW' := hW
  obtain ⟨p, q, hA0, hV, rfl, hfz, hnd⟩ := hW
  have hA : DataW.TrodAll enc Try.prog W 0 (fun _ => true) true Try.f7.params.toList args.toList ds p := hA0
  rw [Try.params7] at hA hval
  obtain ⟨v0, vs0, d0, ds0, p0, q0, hargs, rfl, rfl, h0, r0⟩ := trodAll_cons hA
  obtain ⟨v1, vs1, d1, ds1, p1, q1, rfl, rfl, rfl, h1, r1⟩ := trodAll_cons r0
  obtain ⟨v2, vs2, d2, ds2, p2, q2, rfl, rfl, rfl, h2, r2⟩ := trodAll_cons r1
  obtain ⟨rfl, rfl, rfl⟩ := trodAll_nil r2
  have hargs' : args = #[v0, v1, v2] := by
    apply Array.ext'
    exact hargs
  subst hargs'
  have k0 := hval 0 _ v0 rfl rfl
  have k1 := hval 1 _ v1 rfl rfl
  have k2 := hval 2 _ v2 rfl rfl
  obtain ⟨rfl, rfl⟩ := trodVars_none hV
  refine (walkChainLater v0 v1 v2 W k0 h0 k1 h1 k2 h2).mono fun e W' ⟨he, hk⟩ => ?_
  subst he
  exact ⟨_, rfl, post_law (tb := 4) laidP rowedP fullP (by decide +kernel) rfl rfl rfl Try.underlying4 hW' hk⟩
theorem overChainLater : Rows.chainLaterRow.holds Try.pinned (OpenSpec.ofChange Rows.chainLaterSpec) :=
  OpenClaim.holds_of_wide 7 Try.f7 rfl rfl rfl rfl rfl rfl rfl ⟨rfl, rfl, rfl, rfl, rfl⟩ rfl rfl rfl rfl rfl (by kernel_rfl) Try.func7 (by kernel_rfl)
    (of_decide_eq_true (by kernel_rfl)) (by unfold Func.isWrapper; first | (rw [if_pos (by decide +kernel)]; kernel_rfl) | (rw [if_neg (by decide +kernel)]; exact ⟨rfl, rfl⟩))
    (fun os started H enc _ => liftedChainLater os started H enc)
theorem provedChainLater : Rows.ChainLaterSaid := overChainLater
end Go.Proofs.Ytcgdopjmbadonaa
