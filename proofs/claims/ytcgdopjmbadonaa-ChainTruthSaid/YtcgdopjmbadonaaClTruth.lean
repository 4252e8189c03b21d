/- Layer 2 (chain): the law ChainTruth. (Several texts in one.) -/
import Derived.Test.YtcgdopjmbadonaaChK
import Derived.Test.YtcgdopjmbadonaaRows
import Derived.WalkKit
import Derived.ProofKit
import Derived.OpenShut
import Derived.Test.YtcgdopjmbadonaaChF
set_option linter.unusedVariables false
set_option linter.unusedSimpArgs false
/-! Layer 2 (chain): the law ChainTruth. -/
namespace Go.Proofs.Ytcgdopjmbadonaa
open Go.RowKit

set_option maxRecDepth 10000
set_option linter.unusedSimpArgs false
/-- What a book answers that was written by words. -/
theorem writ_spanM {b : Bk} {ws : List Int} (hb : b.ok) (hw : ∀ y ∈ ws, 0 ≤ y ∧ y < 65536) (hx : (b.writ ws).ok) {i d : Int} (h0 : 0 ≤ i) (h1 : i < b.items.length) (h2 : 0 ≤ d) (h3 : d ≤ 1000) : ((b.writ ws).spanM i d).2 = 10 ∨ (((b.writ ws).spanM i d).2 = 0 ∧ ((b.writ ws).spanM i d).1.has (trueM b ws i d)) := by
  have hc := truth_contra hx (writ_truth hb hw)
  have ha := ask_in hx (item := i) (day := d) h0 h1 h2 h3
  have hs := writ_span hb hw hx h0 h1 h2
  unfold Bk.spanM
  rw [ha, hc]
  cases (b.writ ws).isHeld i d
  · exact .inl rfl
  · exact .inr ⟨rfl, hs⟩
theorem writ_suspM {b : Bk} {ws : List Int} (hb : b.ok) (hw : ∀ y ∈ ws, 0 ≤ y ∧ y < 65536) (hx : (b.writ ws).ok) : (b.writ ws).suspM = ([], 7) := by
  have hc := truth_contra hx (writ_truth hb hw)
  unfold Bk.suspM
  rw [if_pos (Bk.ok_iff.2 hx), hc]
  rfl
attribute [local irreducible] Bk.held Bk.nums Bk.heldU Bk.span Bk.contra trueM wordM
attribute [local simp] AS.exp expG Box.ren AV.map AV.mapL outsOk noRet Site.isRet Box.allS AV.allS AV.allSL retB dropL AS.adds renL outG outOk lentBx inG fnOf lookA List.findIdx?_cons
attribute [local simp] Box.purge Site.isLoc
attribute [local simp] retFz frzL AS.frz AV.frz AV.frzL Box.frz AS.tidy AS.frzC
def trK (b : Bk) (TL : List PV) (ws : List Int) (D : Int) (k : Nat) : AS := ⟨[(1, .pv (wsP ws)), (7, .ptr (.loc 7 0) 0), (9, .pv (.int .i64 D)), (12, .pv (.int .i64 k))],
  [(.loc 7 0, .cells [.pv (itsP b.items), .pv (.lst false 7 TL)])]⟩
set_option maxHeartbeats 16000000 in
theorem truth_law (b : Bk) (ws : List Int) (day : Int) (hws : ∀ y ∈ ws, 0 ≤ y ∧ y < 65536) (hdy : 0 ≤ day ∧ day ≤ 65535) : Gives Try.prog 11 [b.pv, wsP ws, .int .u16 day] (.bool true) := by
  have hw := wakes_c
  refine calls_of_awpS mixed L11_ok (Nat.le_of_ble_eq_true rfl) ?_
  simp [-getElem?_pos, L11, Bk.pv]
  refine call_gives (k := 0) (fs := []) (xs := [b.pv]) (cs := []) rfl rfl (ready_c b) rfl ?_
  cases e1 : (decide (b.items.length ≤ 10) && decide (b.certs.length ≤ 28) && decide (b.fault = 0))
  · simp [-getElem?_pos]
    refine call_gives (k := 0) (fs := []) (xs := []) (cs := []) rfl rfl hw rfl ?_
    simp [-getElem?_pos]
  have hb := ready_of e1
  clear e1
  have hil := hb.i
  have hcl := hb.c
  have hwr := written_c b hb ws hws
  simp [-getElem?_pos]
  refine call_lent (as' := [.pv b.pv, .pv (wsP ws)]) (B := []) (fs := []) (cs := []) 23 [] ?_ rfl rfl rfl ?_ ?_ hwr ?_
  · rfl
  · rfl
  · rfl
  rintro r0 B0 ⟨rfl, rfl⟩
  refine ⟨rfl, by simp, ?_⟩
  by_cases hf : (b.writ ws).fault = 0
  case neg =>
    simp [-getElem?_pos, hf]
    refine call_gives (k := 0) (fs := []) (xs := []) (cs := []) rfl rfl hw rfl ?_
    simp [-getElem?_pos]
  have hx : (b.writ ws).ok := Bk.ok_iff.1 hf
  have w2 : IntKind.i64.wrap day = day := wrap64 (by omega)
  have k2 := tmod_bd hdy.1 (show (0 : Int) < 1001 by omega)
  generalize hD : day.tmod 1001 = D at *
  have hxp : (b.writ ws).pv = .agg [itsP b.items, .lst false 7 ((b.writ ws).certs.map Ct.pv)] := rfl
  have hxi : (b.writ ws).items.length = b.items.length := rfl
  have hxc : (b.writ ws).certs.length = b.certs.length := by unfold Bk.writ; simp
  have hbk := book_c (b.writ ws) (by omega) (by omega)
  have hsu := Suspects_c (b.writ ws) (by omega) (by omega)
  rw [writ_suspM hb hws hx] at hsu
  have hsp := fun i : Int => Span_c (b.writ ws) (by omega) (by omega) i D
  have htr := fun i : Int => true_c (b.writ ws) hx ws hws i D
  have hM := fun (i : Int) (h0 : 0 ≤ i) (h1 : i < b.items.length) => writ_spanM hb hws hx h0 h1 k2.1 (show D ≤ 1000 by omega)
  have htb : ∀ i : Int, trueM (b.writ ws) ws i D = trueM b ws i D := fun i => by unfold trueM; rfl
  have hth : ((b.writ ws).certs.map Ct.pv).take b.certs.length = (b.writ ws).certs.map Ct.pv := List.take_of_length_le (by rw [List.length_map, hxc]; exact Nat.le_refl _)
  have htl : ((b.writ ws).certs.map Ct.pv).length = b.certs.length := by rw [List.length_map, hxc]
  unfold lstE at hsu
  simp only at hsu
  generalize (b.writ ws).certs.map Ct.pv = TL at *
  simp [-getElem?_pos, hf, w2, hD]
  generalize b.writ ws = b2 at *
  refine .inl (call_pv [.loc 23 0] (fs := []) (xs := [b2.pv]) (cs := []) rfl ?_ hbk ?_)
  · simp [frzsL, hth, htl, hxp]
  simp [-getElem?_pos, frzsL, hth, htl]
  refine .inl (call_pv [] (fs := []) (xs := [b2.pv]) (cs := []) rfl rfl hsu ?_)
  simp [-getElem?_pos, frzsL]
  refine awp_loopS (fun m τ => ∃ k : Nat, k ≤ b.items.length ∧ m = b.items.length - k ∧ τ = trK b TL ws D k) ⟨b.items.length, trK b TL ws D 0, Sub.mk (by simp [trK]) (by simp [trK]), 0, by omega, rfl, rfl⟩ ?_
  rintro J hJ m τ ⟨k, hk, rfl, rfl⟩
  by_cases hlt : k < b.items.length
  · have hwk := wrapK (k := k) (by omega)
    have hround := hJ _ _ ⟨k + 1, hlt, rfl, rfl⟩
    have hmeas : b.items.length - (k + 1) < b.items.length - k := by omega
    have hsp := hsp k
    have htr := htr k (by omega) (by omega) ⟨k2.1, by omega⟩
    have hM := hM k (by omega) (by omega)
    rw [htb] at htr
    clear hJ
    generalize trueM b ws (k : Int) D = n at *
    generalize b2.spanM (k : Int) D = S at *
    obtain ⟨R, E⟩ := S
    simp only at hM
    unfold spanE Cr.pv at hsp
    simp only at hsp
    simp [-getElem?_pos, trK, itsP, hlt]
    refine .inl (call_pv [] (fs := []) (xs := [b2.pv]) (cs := []) rfl (by simp [frzsL, hxp, itsP]) hbk ?_)
    simp [-getElem?_pos, frzsL]
    refine .inl (call_pv [] (fs := []) (xs := [b2.pv, .int .i64 k, .int .i64 D]) (cs := []) rfl rfl hsp ?_)
    simp [-getElem?_pos, frzsL]
    refine call_gives (k := 0) (fs := []) (xs := [b2.pv, .int .i64 k, .int .i64 D, wsP ws]) (cs := []) rfl (by simp [snapW, AV.snap, AV.snap0, hxp, itsP]) htr rfl ?_
    rcases hM with rfl | ⟨rfl, h1, h2⟩
    · simp [-getElem?_pos, hwk]
      exact ⟨_, _, hmeas, Sub.mk (by simp [trK]) (by simp [trK, itsP]), hround⟩
    · have d1 : decide (n < R.lo) = false := decide_eq_false (by omega)
      have d2 : decide (R.hi < n) = false := decide_eq_false (by omega)
      simp [-getElem?_pos, -decide_eq_true_eq, -decide_eq_false_iff_not, hwk, d1, d2]
      exact ⟨_, _, hmeas, Sub.mk (by simp [trK]) (by simp [trK, itsP]), hround⟩
  have he : k = b.items.length := by omega
  subst he
  clear hJ
  simp [-getElem?_pos, trK, itsP]
  refine call_gives (k := 0) (fs := []) (xs := []) (cs := []) rfl rfl hw rfl ?_
  simp [-getElem?_pos]
end Go.Proofs.Ytcgdopjmbadonaa

/-! The statement ChainTruth holds: for every input the law answers true, and its arguments read behind the call as before. No conditions. -/
namespace Go.Proofs.Ytcgdopjmbadonaa
open Go.ChangeShapes Go.WideShapes Go.ChangeAt Go.RowKit

set_option maxRecDepth 100000 in
theorem walkChainTruth (v0 v1 v2 : Value) (W : World) {H : Type} {enc : TypeId × Value → H} {base : Nat} {sp : Nat → Bool} {hd : Bool} {d0 d1 d2 : DataW H} {p0 p1 p2 : List MemPlace}
    (k0 : Value.okWide Try.prog W .any base 25 v0) (h0 : DataW.Trod enc Try.prog W 0 sp hd 25 v0 d0 p0)
    (k1 : Value.okWide Try.prog W .any base 72 v1) (h1 : DataW.Trod enc Try.prog W 0 sp hd 72 v1 d1 p1)
    (k2 : Value.okWide Try.prog W .any base 64 v2) (h2 : DataW.Trod enc Try.prog W 0 sp hd 64 v2 d2 p2) :
    Calls Try.prog 11 #[v0, v1, v2] W fun e w' => e = .returned (.bool true) ∧ Keep [] W w' := by
  obtain ⟨n0, h0⟩ := h0
  obtain ⟨s0, w0, r0⟩ := rk_book k0 h0
  obtain ⟨n1, h1⟩ := h1
  obtain ⟨s1, w1, l1, r1⟩ := rd_u16s k1 h1
  obtain ⟨s2, rfl, rfl, rfl, w2⟩ := open_int Try.underlying64 k2 h2
  refine calls_bool (xs := [s0.pv, .lst false 1 (s1.map (PV.int .u16)), .int .u16 s2]) (b := true) ((truth_law s0 s1 s2 w1 (ku16 w2)).mono (fun _ _ h => h.1)) rfl (fun j v x e1 e2 => ?_)
  match j with
  | 0 => simp at e1 e2; subst e1 e2; exact r0
  | 1 => simp at e1 e2; subst e1 e2; exact r1
  | 2 => simp at e1 e2; subst e1 e2; exact .int .u16 s2
  | j + 3 => simp at e1
set_option maxRecDepth 100000 in
theorem liftedChainTruth (os : Os) (started : os.Started) (H : Type) (enc : TypeId × Value → H) :
    ReturnsInHanded {} Try.checked os 11 .any (Rows.chainTruthSpec.pre6 enc Try.prog Try.f11 Rows.chainTruthRow.domain false) (Rows.chainTruthSpec.post enc Try.prog Try.f11 false true false false) := by
  refine returnsInHanded_of_change (C := Try.checked) own started (by kernel_rfl) Try.func11
    (ChangeSpec.witness6 (enc := enc) (C := Try.checked) false ⟨#[], #[.agg #[.slice none 0 0, .slice none 0 0], .slice none 0 0, .int .u16 0], []⟩ 8 (by kernel_rfl) (by kernel_rfl) (by kernel_rfl) (by kernel_rfl)) ?_
  intro W base args ds gs before hval0 hW hcnd _
  have hval : ∀ (j : Nat) t v, Try.f11.params[j]? = some t → args[j]? = some v → Value.okWide Try.prog W .any base t v := hval0
  have hW' := hW
  obtain ⟨p, q, hA0, hV, rfl, hfz, hnd⟩ := hW
  have hA : DataW.TrodAll enc Try.prog W 0 (fun _ => true) true Try.f11.params.toList args.toList ds p := hA0
  rw [Try.params11] at hA hval
  obtain ⟨v0, vs0, d0, ds0, p0, q0, hargs, rfl, rfl, h0, r0⟩ := trodAll_cons hA
  obtain ⟨v1, vs1, d1, ds1, p1, q1, rfl, rfl, rfl, h1, r1⟩ := trodAll_cons r0
  obtain ⟨v2, vs2, d2, ds2, p2, q2, rfl, rfl, rfl, h2, r2⟩ := trodAll_cons r1
  obtain ⟨rfl, rfl, rfl⟩ := trodAll_nil r2
  have hargs' : args = #[v0, v1, v2] := by
    apply Array.ext'
    exact hargs
  subst hargs'
  have k0 := hval 0 _ v0 rfl rfl
  have k1 := hval 1 _ v1 rfl rfl
  have k2 := hval 2 _ v2 rfl rfl
  obtain ⟨rfl, rfl⟩ := trodVars_none hV
  refine (walkChainTruth v0 v1 v2 W k0 h0 k1 h1 k2 h2).mono fun e W' ⟨he, hk⟩ => ?_
  subst he
  exact ⟨_, rfl, post_law (tb := 4) laidP rowedP fullP (by decide +kernel) rfl rfl rfl Try.underlying4 hW' hk⟩
theorem overChainTruth : Rows.chainTruthRow.holds Try.pinned (OpenSpec.ofChange Rows.chainTruthSpec) :=
  OpenClaim.holds_of_wide 11 Try.f11 rfl rfl rfl rfl rfl rfl rfl ⟨rfl, rfl, rfl, rfl, rfl⟩ rfl rfl rfl rfl rfl (by kernel_rfl) Try.func11 (by kernel_rfl)
    (of_decide_eq_true (by kernel_rfl)) (by unfold Func.isWrapper; first | (rw [if_pos (by decide +kernel)]; kernel_rfl) | (rw [if_neg (by decide +kernel)]; exact ⟨rfl, rfl⟩))
    (fun os started H enc _ => liftedChainTruth os started H enc)
theorem provedChainTruth : Rows.ChainTruthSaid := overChainTruth
end Go.Proofs.Ytcgdopjmbadonaa
