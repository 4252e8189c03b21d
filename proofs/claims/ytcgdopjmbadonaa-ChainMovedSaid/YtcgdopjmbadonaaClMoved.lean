/- Layer 2 (chain): the law ChainMoved. (Several texts in one.) -/
import Derived.Test.YtcgdopjmbadonaaChI
import Derived.Test.YtcgdopjmbadonaaRows
import Derived.WalkKit
import Derived.ProofKit
import Derived.OpenShut
import Derived.Test.YtcgdopjmbadonaaChF
set_option linter.unusedVariables false
set_option linter.unusedSimpArgs false
/-! Layer 2 (chain): the law ChainMoved. -/
namespace Go.Proofs.Ytcgdopjmbadonaa
open Go.RowKit

set_option maxRecDepth 10000
set_option linter.unusedSimpArgs false
attribute [local irreducible] Bk.held Bk.nums Bk.heldU Bk.span Bk.contra
def It.mvd (t : Int) (z : It) : It := if z.std = true then ⟨z.drift, true, z.val.mv t⟩ else z
def Bk.mvd (b : Bk) (t : Int) : Bk := ⟨b.items.map (It.mvd t), b.certs⟩
theorem mvd_item {b : Bk} {t : Int} (i : Int) : (b.mvd t).item i = It.mvd t (b.item i) := by
  unfold Bk.item Bk.mvd
  simp only
  rw [List.getElem?_map]
  cases b.items[i.toNat]? <;> rfl
theorem mvd_moved (b : Bk) (t : Int) : Moved b (b.mvd t) t := by
  refine ⟨rfl, by unfold Bk.mvd; simp, fun i => ?_, fun i => ?_, fun i h => ?_⟩
  · rw [mvd_item]
    unfold It.mvd
    split
    · rename_i h; exact h.symm
    · rfl
  · rw [mvd_item]
    unfold It.mvd
    split <;> rfl
  · rw [mvd_item]
    unfold It.mvd
    rw [if_pos h]
attribute [local simp] AS.exp expG Box.ren AV.map AV.mapL outsOk noRet Site.isRet Box.allS AV.allS AV.allSL retB dropL AS.adds renL outG outOk lentBx inG fnOf lookA List.findIdx?_cons
attribute [local simp] Box.purge Site.isLoc
attribute [local simp] retFz frzL AS.frz AV.frz AV.frzL Box.frz AS.tidy AS.frzC
def mvK (b : Bk) (t K D : Int) (k : Nat) : AS := ⟨[(1, .pv (.int .i16 t)), (4, .ptr (.loc 4 0) 0), (9, .pv (.int .i64 K)), (10, .pv (.int .i64 D)), (11, .ptr (.loc 11 0) 0), (12, .pv (.int .i64 k))],
  [(.loc 80 0, .arr 83 4 (((b.items.take k).map (It.mvd t)).map It.pv)), (.loc 11 0, .cells [.vec (.loc 80 0) 4 0 k, .pv (ctsP b.certs)]), (.loc 4 0, .cells b.cells)]⟩
set_option maxHeartbeats 16000000 in
theorem moved_law (b : Bk) (t item day : Int) (ht : -32768 ≤ t ∧ t ≤ 32767) (hit : 0 ≤ item ∧ item ≤ 255) (hdy : 0 ≤ day ∧ day ≤ 65535) : Gives Try.prog 14 [b.pv, .int .i16 t, .int .u8 item, .int .u16 day] (.bool true) := by
  have hw := wakes_c
  refine calls_of_awpS mixed L14_ok (Nat.le_of_ble_eq_true rfl) ?_
  simp [-getElem?_pos, L14, Bk.pv]
  refine call_gives (k := 0) (fs := []) (xs := [b.pv]) (cs := []) rfl rfl (ready_c b) rfl ?_
  cases e1 : (decide (b.items.length ≤ 10) && decide (b.certs.length ≤ 28) && decide (b.fault = 0))
  · simp [-getElem?_pos]
    refine call_gives (k := 0) (fs := []) (xs := []) (cs := []) rfl rfl hw rfl ?_
    simp [-getElem?_pos]
  have hb := ready_of e1
  clear e1
  by_cases hne : b.items = []
  · simp [-getElem?_pos, itsP, ctsP, hne]
    refine call_gives (k := 0) (fs := []) (xs := []) (cs := []) rfl rfl hw rfl ?_
    simp [-getElem?_pos]
  have w1 : IntKind.i64.wrap item = item := wrap64 (by omega)
  have w2 : IntKind.i64.wrap day = day := wrap64 (by omega)
  have w3 : IntKind.i64.wrap t = t := wrap64 (by omega)
  simp [-getElem?_pos, itsP, ctsP, hne, w1, w2]
  generalize hK : item.tmod (b.items.length : Int) = K at *
  generalize hD : day.tmod 1001 = D at *
  have hil := hb.i
  have hcl := hb.c
  refine awp_loopS (fun n τ => ∃ k : Nat, k ≤ b.items.length ∧ n = b.items.length - k ∧ τ = mvK b t K D k) ⟨b.items.length, mvK b t K D 0, Sub.trans' (Sub.mk (by simp [mvK, AS.vecC]) (by simp [mvK, AS.vecC, Bk.cells, itsP, ctsP])) (vecC 80 83 4 (s := .loc 11 0) (cs := [.pv (.emp (some true)), .pv (ctsP b.certs)]) 0 rfl rfl (by decide)), 0, by omega, rfl, rfl⟩ ?_
  rintro J hJ n τ ⟨k, hk, rfl, rfl⟩
  by_cases hlt : k < b.items.length
  · obtain ⟨x, hx⟩ : ∃ x, b.items[k]? = some x := ⟨b.items[k], List.getElem?_eq_getElem hlt⟩
    have hg : (b.items.map It.pv)[k]? = some (.agg [.int .i64 x.drift, .bool x.std, .int .i64 x.val.lo, .int .i64 x.val.hi]) := by rw [List.getElem?_map, hx]; rfl
    have hwk := wrapK (k := k) (by omega)
    have hround := hJ _ _ ⟨k + 1, hlt, rfl, rfl⟩
    have hmeas : b.items.length - (k + 1) < b.items.length - k := by omega
    have hbd := item_bds hb (i := (k : Int)) (by omega) (by omega)
    have hbx : b.item (k : Int) = x := by unfold Bk.item; rw [Int.toNat_natCast, hx]; rfl
    rw [hbx] at hbd
    have hv := hbd.2.2.1
    unfold Cr.bdd at hv
    have w4 : IntKind.i64.wrap (x.val.lo + t) = x.val.lo + t := wrap64 (by omega)
    have w5 : IntKind.i64.wrap (x.val.hi + t) = x.val.hi + t := wrap64 (by omega)
    have htk : ((b.items.take (k + 1)).map (It.mvd t)).map It.pv = ((b.items.take k).map (It.mvd t)).map It.pv ++ [(It.mvd t x).pv] := by rw [List.take_add_one, hx]; simp
    have htl : (((b.items.take k).map (It.mvd t)).map It.pv).length = k := by rw [List.length_map, List.length_map, List.length_take]; omega
    have hk6 : k ≤ 999999 := by omega
    unfold mvK at hround ⊢
    rw [htk] at hround
    clear hJ htk hv hbd
    generalize ((b.items.take k).map (It.mvd t)).map It.pv = TL at *
    have htm : TL.take k = TL := List.take_of_length_le (by omega)
    unfold It.mvd at hround
    cases hs : x.std
    · rw [hs, if_neg (by simp)] at hround
      rw [hs] at hg
      have hxp : x.pv = .agg [.int .i64 x.drift, .bool false, .int .i64 x.val.lo, .int .i64 x.val.hi] := by rw [← hs]; rfl
      rw [hxp] at hround
      simp [-getElem?_pos, -List.getElem?_map, Bk.cells, itsP, ctsP, hlt, hg, nble, nblt, hwk, hk6, htl, htm]
      exact ⟨_, _, hmeas, Sub.mk (by simp) (by simp [Bk.cells, itsP, ctsP]), hround⟩
    · rw [hs, if_pos rfl] at hround
      rw [hs] at hg
      unfold Cr.mv It.pv at hround
      simp only at hround
      simp [-getElem?_pos, -List.getElem?_map, Bk.cells, itsP, ctsP, hlt, hg, nble, nblt, hwk, hk6, htl, htm, w3, w4, w5]
      exact ⟨_, _, hmeas, Sub.mk (by simp) (by simp [Bk.cells, itsP, ctsP]), hround⟩
  have he : k = b.items.length := by omega
  subst he
  clear hJ
  have hmv := mvd_moved b t
  have hx1 : (b.mvd t).items.length = b.items.length := hmv.l
  have hx2 : (b.mvd t).certs.length = b.certs.length := by rw [hmv.c]
  have hxp : (b.mvd t).pv = .agg [.lst false 4 ((b.items.map (It.mvd t)).map It.pv), ctsP b.certs] := rfl
  have hfa := rfault_c (b.mvd t) (by omega) (by omega)
  have hbk := book_c b (by omega) (by omega)
  have hbk2 := book_c (b.mvd t) (by omega) (by omega)
  have hs1 := Span_c b (by omega) (by omega) K D
  have hs2 := Span_c (b.mvd t) (by omega) (by omega) K D
  have hb1 := Best_c b (by omega) (by omega) K D
  have hb2 := Best_c (b.mvd t) (by omega) (by omega) K D
  have hu1 := Suspects_c b (by omega) (by omega)
  have hu2 := Suspects_c (b.mvd t) (by omega) (by omega)
  have hfb : (b.mvd t).fault = 0 → (b.mvd t).ok := Bk.ok_iff.1
  unfold mvK
  rw [List.take_length]
  have htl : ((b.items.map (It.mvd t)).map It.pv).length = b.items.length := by simp
  have hth : ((b.items.map (It.mvd t)).map It.pv).take b.items.length = (b.items.map (It.mvd t)).map It.pv := List.take_of_length_le (by simp)
  simp [-getElem?_pos, -List.getElem?_map, -List.map_map, Bk.cells, itsP, ctsP]
  refine call_gives (k := 1) (fs := []) (xs := [(b.mvd t).pv]) (cs := []) rfl ?_ hfa rfl ?_
  · simp [snapW, AV.snap, AV.snap0, hxp, ctsP, -List.map_map, hth]
  generalize ((b.items.map (It.mvd t)).map It.pv) = TL at *
  generalize b.mvd t = b2 at *
  by_cases hf : b2.fault = 0
  case neg =>
    simp [-getElem?_pos, hf]
    refine call_gives (k := 0) (fs := []) (xs := []) (cs := []) rfl rfl hw rfl ?_
    simp [-getElem?_pos]
  have hb' := hfb hf
  obtain ⟨q1, q2⟩ := hmv.spanM hb hb' K D
  rw [hmv.bestM hb hb'] at hb2
  rw [hmv.suspM hb hb'] at hu2
  have q3 := spanM_bdd hb K D
  have l1 := bestM_len hb K D
  have l2 := suspM_len (b := b)
  generalize b2.spanM K D = S2 at *
  generalize b.spanM K D = S1 at *
  obtain ⟨⟨a1, a2⟩, E1⟩ := S1
  obtain ⟨⟨c1, c2⟩, E2⟩ := S2
  simp only at q1 q2
  subst q1
  generalize b.bestM K D = M1 at *
  generalize b.suspM = U1 at *
  obtain ⟨L, G⟩ := M1
  obtain ⟨P, H⟩ := U1
  simp only at l1 l2
  have hi1 := ints_c L L (by omega)
  have hi2 := ints_c P P (by omega)
  rw [decide_eq_true rfl] at hi1 hi2
  unfold spanE Cr.pv at hs1 hs2
  unfold lstE at hb1 hb2 hu1 hu2
  simp only at hs1 hs2 hb1 hb2 hu1 hu2
  unfold Cr.bdd at q3
  simp only at q3
  have w6 : IntKind.i64.wrap (a1 + t) = a1 + t := wrap64 (by omega)
  have w7 : IntKind.i64.wrap (a2 + t) = a2 + t := wrap64 (by omega)
  clear hfa hfb q3 hmv
  simp [-getElem?_pos, hf]
  refine .inl (call_pv [] (fs := []) (xs := [b.pv]) (cs := []) rfl rfl hbk ?_)
  simp [-getElem?_pos, frzsL]
  refine .inl (call_pv [] (fs := []) (xs := [b.pv, .int .i64 K, .int .i64 D]) (cs := []) rfl rfl hs1 ?_)
  simp [-getElem?_pos, frzsL]
  refine .inl (call_pv [.loc 80 0] (fs := []) (xs := [b2.pv]) (cs := []) rfl ?_ hbk2 ?_)
  · simp [frzsL, hth, htl, hxp, ctsP]
  simp [-getElem?_pos, frzsL, hth, htl]
  refine .inl (call_pv [] (fs := []) (xs := [b2.pv, .int .i64 K, .int .i64 D]) (cs := []) rfl rfl hs2 ?_)
  simp [-getElem?_pos, frzsL]
  refine .inl (call_pv [] (fs := []) (xs := [b.pv]) (cs := []) rfl rfl hbk ?_)
  simp [-getElem?_pos, frzsL]
  refine .inl (call_pv [] (fs := []) (xs := [b.pv, .int .i64 K, .int .i64 D]) (cs := []) rfl rfl hb1 ?_)
  simp [-getElem?_pos, frzsL]
  refine .inl (call_pv [] (fs := []) (xs := [b2.pv]) (cs := []) rfl (by simp [frzsL, hxp, ctsP]) hbk2 ?_)
  simp [-getElem?_pos, frzsL]
  refine .inl (call_pv [] (fs := []) (xs := [b2.pv, .int .i64 K, .int .i64 D]) (cs := []) rfl rfl hb2 ?_)
  simp [-getElem?_pos, frzsL]
  refine .inl (call_pv [] (fs := []) (xs := [b.pv]) (cs := []) rfl rfl hbk ?_)
  simp [-getElem?_pos, frzsL]
  refine .inl (call_pv [] (fs := []) (xs := [b.pv]) (cs := []) rfl rfl hu1 ?_)
  simp [-getElem?_pos, frzsL]
  refine .inl (call_pv [] (fs := []) (xs := [b2.pv]) (cs := []) rfl (by simp [frzsL, hxp, ctsP]) hbk2 ?_)
  simp [-getElem?_pos, frzsL]
  refine .inl (call_pv [] (fs := []) (xs := [b2.pv]) (cs := []) rfl rfl hu2 ?_)
  by_cases hE : E2 = 0
  · have hq := q2 hE
    unfold Cr.mv at hq
    cases hq
    simp [-getElem?_pos, frzsL, hE, w3, w6, w7]
    refine call_gives (k := 0) (fs := []) (xs := [.lst false 1 (L.map intP), .lst false 1 (L.map intP)]) (cs := []) rfl rfl hi1 rfl ?_
    simp [-getElem?_pos]
    refine call_gives (k := 0) (fs := []) (xs := [.lst false 1 (P.map intP), .lst false 1 (P.map intP)]) (cs := []) rfl rfl hi2 rfl ?_
    simp [-getElem?_pos]
    refine call_gives (k := 0) (fs := []) (xs := []) (cs := []) rfl rfl hw rfl ?_
    simp [-getElem?_pos]
  · simp [-getElem?_pos, frzsL, hE]
    refine call_gives (k := 0) (fs := []) (xs := [.lst false 1 (L.map intP), .lst false 1 (L.map intP)]) (cs := []) rfl rfl hi1 rfl ?_
    simp [-getElem?_pos]
    refine call_gives (k := 0) (fs := []) (xs := [.lst false 1 (P.map intP), .lst false 1 (P.map intP)]) (cs := []) rfl rfl hi2 rfl ?_
    simp [-getElem?_pos]
    refine call_gives (k := 0) (fs := []) (xs := []) (cs := []) rfl rfl hw rfl ?_
    simp [-getElem?_pos]
end Go.Proofs.Ytcgdopjmbadonaa

/-! The statement ChainMoved holds: for every input the law answers true, and its arguments read behind the call as before. No conditions. -/
namespace Go.Proofs.Ytcgdopjmbadonaa
open Go.ChangeShapes Go.WideShapes Go.ChangeAt Go.RowKit

set_option maxRecDepth 100000 in
theorem walkChainMoved (v0 v1 v2 v3 : Value) (W : World) {H : Type} {enc : TypeId × Value → H} {base : Nat} {sp : Nat → Bool} {hd : Bool} {d0 d1 d2 d3 : DataW H} {p0 p1 p2 p3 : List MemPlace}
    (k0 : Value.okWide Try.prog W .any base 25 v0) (h0 : DataW.Trod enc Try.prog W 0 sp hd 25 v0 d0 p0)
    (k1 : Value.okWide Try.prog W .any base 78 v1) (h1 : DataW.Trod enc Try.prog W 0 sp hd 78 v1 d1 p1)
    (k2 : Value.okWide Try.prog W .any base 5 v2) (h2 : DataW.Trod enc Try.prog W 0 sp hd 5 v2 d2 p2)
    (k3 : Value.okWide Try.prog W .any base 64 v3) (h3 : DataW.Trod enc Try.prog W 0 sp hd 64 v3 d3 p3) :
    Calls Try.prog 14 #[v0, v1, v2, v3] W fun e w' => e = .returned (.bool true) ∧ Keep [] W w' := by
  obtain ⟨n0, h0⟩ := h0
  obtain ⟨s0, w0, r0⟩ := rk_book k0 h0
  obtain ⟨s1, rfl, rfl, rfl, w1⟩ := open_int Try.underlying78 k1 h1
  obtain ⟨s2, rfl, rfl, rfl, w2⟩ := open_int Try.underlying5 k2 h2
  obtain ⟨s3, rfl, rfl, rfl, w3⟩ := open_int Try.underlying64 k3 h3
  refine calls_bool (xs := [s0.pv, .int .i16 s1, .int .u8 s2, .int .u16 s3]) (b := true) ((moved_law s0 s1 s2 s3 (ki16 w1) (ku8 w2) (ku16 w3)).mono (fun _ _ h => h.1)) rfl (fun j v x e1 e2 => ?_)
  match j with
  | 0 => simp at e1 e2; subst e1 e2; exact r0
  | 1 => simp at e1 e2; subst e1 e2; exact .int .i16 s1
  | 2 => simp at e1 e2; subst e1 e2; exact .int .u8 s2
  | 3 => simp at e1 e2; subst e1 e2; exact .int .u16 s3
  | j + 4 => simp at e1
set_option maxRecDepth 100000 in
theorem liftedChainMoved (os : Os) (started : os.Started) (H : Type) (enc : TypeId × Value → H) :
    ReturnsInHanded {} Try.checked os 14 .any (Rows.chainMovedSpec.pre6 enc Try.prog Try.f14 Rows.chainMovedRow.domain false) (Rows.chainMovedSpec.post enc Try.prog Try.f14 false true false false) := by
  refine returnsInHanded_of_change (C := Try.checked) own started (by kernel_rfl) Try.func14
    (ChangeSpec.witness6 (enc := enc) (C := Try.checked) false ⟨#[], #[.agg #[.slice none 0 0, .slice none 0 0], .int .i16 0, .int .u8 0, .int .u16 0], []⟩ 8 (by kernel_rfl) (by kernel_rfl) (by kernel_rfl) (by kernel_rfl)) ?_
  intro W base args ds gs before hval0 hW hcnd _
  have hval : ∀ (j : Nat) t v, Try.f14.params[j]? = some t → args[j]? = some v → Value.okWide Try.prog W .any base t v := hval0
  have hW' := hW
  obtain ⟨p, q, hA0, hV, rfl, hfz, hnd⟩ := hW
  have hA : DataW.TrodAll enc Try.prog W 0 (fun _ => true) true Try.f14.params.toList args.toList ds p := hA0
  rw [Try.params14] at hA hval
  obtain ⟨v0, vs0, d0, ds0, p0, q0, hargs, rfl, rfl, h0, r0⟩ := trodAll_cons hA
  obtain ⟨v1, vs1, d1, ds1, p1, q1, rfl, rfl, rfl, h1, r1⟩ := trodAll_cons r0
  obtain ⟨v2, vs2, d2, ds2, p2, q2, rfl, rfl, rfl, h2, r2⟩ := trodAll_cons r1
  obtain ⟨v3, vs3, d3, ds3, p3, q3, rfl, rfl, rfl, h3, r3⟩ := trodAll_cons r2
  obtain ⟨rfl, rfl, rfl⟩ := trodAll_nil r3
  have hargs' : args = #[v0, v1, v2, v3] := by
    apply Array.ext'
    exact hargs
  subst hargs'
  have k0 := hval 0 _ v0 rfl rfl
  have k1 := hval 1 _ v1 rfl rfl
  have k2 := hval 2 _ v2 rfl rfl
  have k3 := hval 3 _ v3 rfl rfl
  obtain ⟨rfl, rfl⟩ := trodVars_none hV
  refine (walkChainMoved v0 v1 v2 v3 W k0 h0 k1 h1 k2 h2 k3 h3).mono fun e W' ⟨he, hk⟩ => ?_
  subst he
  exact ⟨_, rfl, post_law (tb := 4) laidP rowedP fullP (by decide +kernel) rfl rfl rfl Try.underlying4 hW' hk⟩
theorem overChainMoved : Rows.chainMovedRow.holds Try.pinned (OpenSpec.ofChange Rows.chainMovedSpec) :=
  OpenClaim.holds_of_wide 14 Try.f14 rfl rfl rfl rfl rfl rfl rfl ⟨rfl, rfl, rfl, rfl, rfl⟩ rfl rfl rfl rfl rfl (by kernel_rfl) Try.func14 (by kernel_rfl)
    (of_decide_eq_true (by kernel_rfl)) (by unfold Func.isWrapper; first | (rw [if_pos (by decide +kernel)]; kernel_rfl) | (rw [if_neg (by decide +kernel)]; exact ⟨rfl, rfl⟩))
    (fun os started H enc _ => liftedChainMoved os started H enc)
theorem provedChainMoved : Rows.ChainMovedSaid := overChainMoved
end Go.Proofs.Ytcgdopjmbadonaa
