/- Layer 2 (chain): the law ChainSpans. (Several texts in one.) -/
import Derived.Test.YtcgdopjmbadonaaChG
import Derived.Test.YtcgdopjmbadonaaRows
import Derived.WalkKit
import Derived.ProofKit
import Derived.OpenShut
import Derived.Test.YtcgdopjmbadonaaChF
set_option linter.unusedVariables false
set_option linter.unusedSimpArgs false
/-! Layer 2 (chain): the law ChainSpans. -/
namespace Go.Proofs.Ytcgdopjmbadonaa
open Go.RowKit

set_option maxRecDepth 10000
set_option linter.unusedSimpArgs false
section
variable {P : Program} {K : AV → AS → Prop} {σ : AS}
/-- A call of plain values that hands back a pointer to a new box. -/
theorem call_box (fz : List Site) {f : Opd} {args : List Opd} {d : Nat} {g : FuncId} {fs xs cs : List PV} {l : List AV} (h1 : (frzsL fz σ).o f = .pv (.fn g fs cs)) (h2 : (frzsL fz σ).pvs args = some xs)
    (hc : CallsA P g ((fs ++ xs ++ cs).map .pv) [] (fun r B => r = .ptr (.ret 0) 0 ∧ B = [(.ret 0, .cells l)])) (hr : retOk (.ptr (.ret 0) 0) [(.ret 0, .cells l)]) (hK : K (.ptr (.loc d 0) 0) (((frzsL fz σ).purge d).adds (renB d [(.ret 0, .cells l)]))) : callWp P f args d K σ :=
  .inr ⟨fz, g, fs, xs, cs, h1, h2, hc.mono (fun _ _ ⟨h, h'⟩ => by subst h h'; exact ⟨hr, hK⟩)⟩
end
attribute [local irreducible] Bk.held Bk.nums Bk.heldU Bk.span
attribute [local simp] AS.exp expG Box.ren AV.map AV.mapL outsOk noRet Site.isRet Box.allS AV.allS AV.allSL retB dropL AS.adds renL outG outOk lentBx inG fnOf lookA List.findIdx?_cons
attribute [local simp] Box.purge Site.isLoc
attribute [local simp] szL_has szL_all szL_purge szL_map szL_last szL_len
theorem rgI {a b : Cr} : eqK (.agg [.int .i64 a.lo, .int .i64 a.hi]) (.agg [.int .i64 b.lo, .int .i64 b.hi]) = decide (a = b) := by
  obtain ⟨a1, a2⟩ := a
  obtain ⟨b1, b2⟩ := b
  rw [Bool.eq_iff_iff]
  simp [eqK]
def slK (b : Bk) (R x : Cr) (item day : Int) : AS := ⟨[(1, .pv (.int .i64 item)), (2, .pv (.int .i64 day)), (3, .ptr (.loc 3 0) 0), (7, .ptr (.loc 7 0) 0), (8, .pv (.int .i64 0)), (10, .ptr (.loc 10 0) 0), (51, .pv (.agg [.int .i64 x.lo, .int .i64 x.hi]))],
  [(.loc 3 0, .cells b.cells), (.loc 7 0, .cells [.pv (.int .i64 R.lo), .pv (.int .i64 R.hi)]), (.loc 10 0, .cells [.pv (.int .i64 0), .pv (.int .i64 0)])]⟩
set_option maxHeartbeats 16000000 in
theorem spans_law (b : Bk) (item day : Int) : Gives Try.prog 4 [b.pv, .int .i64 item, .int .i64 day] (.bool true) := by
  have hw := wakes_c
  refine calls_of_awpS mixed L4_ok (Nat.le_of_ble_eq_true rfl) ?_
  simp [-getElem?_pos, L4, Bk.pv]
  refine call_gives (k := 0) (fs := []) (xs := [b.pv]) (cs := []) rfl rfl (thin_c b) rfl ?_
  cases e1 : (decide (b.items.length ≤ 10) && decide (b.certs.length ≤ 28))
  · simp [-getElem?_pos]
    refine call_gives (k := 0) (fs := []) (xs := []) (cs := []) rfl rfl hw rfl ?_
    simp [-getElem?_pos]
  obtain ⟨h1, h2⟩ := thin_of e1
  clear e1
  have hbk := book_c b (by omega) (by omega)
  have hsp := Span_c b (by omega) (by omega) item day
  have has := asked_law b (by omega) (by omega) item day
  have hM : b.spanM item day = if b.askM item day = 0 then (if b.contra = true then (⟨0, 0⟩, 9) else (b.itemSpan (b.held []) (b.span (b.held [])) item day 1000, 0)) else (⟨0, 0⟩, b.askM item day) := rfl
  have hask0 : b.askM item day = 0 → b.fault = 0 ∧ b.hasItem item = true ∧ inB day 0 1000 = true := fun h => by
    unfold Bk.askM at h
    split at h
    · rename_i h0
      split at h
      · rename_i h1
        rw [Bool.and_eq_true] at h1
        exact ⟨h0, h1.1, h1.2⟩
      · cases h
    · rename_i h0; exact absurd h h0
  generalize b.askM item day = F at *
  simp [-getElem?_pos]
  refine .inl (call_pv [] (fs := []) (xs := [b.pv]) (cs := []) rfl rfl hbk ?_)
  simp [-getElem?_pos, frzsL]
  refine .inl (call_pv [] (fs := []) (xs := [b.pv, .int .i64 item, .int .i64 day]) (cs := []) rfl rfl hsp ?_)
  simp [-getElem?_pos, frzsL, spanE, Cr.pv]
  refine call_gives (k := 0) (fs := []) (xs := [b.pv, .int .i64 item, .int .i64 day]) (cs := []) rfl rfl has rfl ?_
  cases e3 : decide (F = 0)
  · have e3' : ¬ F = 0 := of_decide_eq_false e3
    rw [if_neg e3'] at hM
    rw [hM]
    simp [-getElem?_pos, -decide_eq_true_eq, -decide_eq_false_iff_not, e3]
    refine call_gives (k := 0) (fs := []) (xs := []) (cs := []) rfl rfl hw rfl ?_
    simp [-getElem?_pos]
  have e3' : F = 0 := of_decide_eq_true e3
  subst e3'
  obtain ⟨h0, h4, h5⟩ := hask0 rfl
  have hb : b.ok := Bk.ok_iff.1 h0
  simp [-getElem?_pos]
  refine call_gives (k := 0) (fs := []) (xs := [b.pv]) (cs := []) rfl rfl (rcontra_c b hb) rfl ?_
  cases e4 : b.contra
  case true =>
    rw [if_pos rfl, if_pos e4] at hM
    rw [hM]
    simp [-getElem?_pos]
    refine call_gives (k := 0) (fs := []) (xs := []) (cs := []) rfl rfl hw rfl ?_
    simp [-getElem?_pos]
  case false =>
  rw [if_pos rfl, if_neg (by simp [e4])] at hM
  rw [hM]
  have hii : 0 ≤ item ∧ item < b.items.length := by
    unfold Bk.hasItem inB at h4
    simp only [Bool.and_eq_true, decide_eq_true_eq] at h4
    omega
  have hdd : 0 ≤ day ∧ day ≤ 1000 := by
    unfold inB at h5
    simp only [Bool.and_eq_true, decide_eq_true_eq] at h5
    exact h5
  have hwork := work_c b hb
  have hits := ritem_c b hb (b.span (b.held [])) (b.held []) held_len item day 1000 hii.1 hii.2 hdd (fun c hc h => spanH_bdd hb hc h)
  generalize b.itemSpan (b.held []) (b.span (b.held [])) item day 1000 = R at *
  have hre := rgI (a := R) (b := R)
  rw [decide_eq_true rfl] at hre
  simp [-getElem?_pos]
  refine ltS_seq (slK b R R item day) ?_ ?_
  · simp [-getElem?_pos, ltS_alt, ltS_no]
    refine ⟨?_, ?_⟩
    · refine call_box [] (fs := []) (xs := [b.pv]) (cs := []) rfl rfl hwork ?_ ?_
      · simp [retOk]
      simp [-getElem?_pos, frzsL, renB, toLoc, ltS_alt, ltS_no]
      refine ⟨?_, ?_⟩
      all_goals
        refine call_lent (as' := [.pv b.pv, .ptr (.par 0) 0, .pv (.int .i64 item), .pv (.int .i64 day), .pv (.int .i64 1000)]) (B := laid 0 (szB (b.span (b.held [])) (b.held []))) (fs := []) (cs := []) 51 [.loc 48 0] ?_ rfl rfl ?_ ?_ ?_ hits ?_
        · rfl
        · simp [laid, szB]
        · rfl
        · rfl
        rintro r0 B0 ⟨rfl, rfl⟩
        refine ⟨rfl, by simp [laid, szB], ?_⟩
        simp [-getElem?_pos, ltS_alt, ltS_no, laid, szB, Cr.pv]
        exact Sub.mk (by simp [slK]) (by simp [slK, Bk.cells])
    · refine call_box [] (fs := []) (xs := [b.pv]) (cs := []) rfl rfl hwork ?_ ?_
      · simp [retOk]
      simp [-getElem?_pos, frzsL, renB, toLoc, ltS_alt, ltS_no]
      · skip
        refine call_lent (as' := [.pv b.pv, .ptr (.par 0) 0, .pv (.int .i64 item), .pv (.int .i64 day), .pv (.int .i64 1000)]) (B := laid 0 (szB (b.span (b.held [])) (b.held []))) (fs := []) (cs := []) 51 [.loc 48 0] ?_ rfl rfl ?_ ?_ ?_ hits ?_
        · rfl
        · simp [laid, szB]
        · rfl
        · rfl
        rintro r0 B0 ⟨rfl, rfl⟩
        refine ⟨rfl, by simp [laid, szB], ?_⟩
        simp [-getElem?_pos, ltS_alt, ltS_no, laid, szB, Cr.pv]
        exact Sub.mk (by simp [slK]) (by simp [slK, Bk.cells])
  · simp [-getElem?_pos, ltS_alt, ltS_no, slK, hre, -eqK]
    refine call_gives (k := 0) (fs := []) (xs := []) (cs := []) rfl rfl hw rfl ?_
    simp [-getElem?_pos]
end Go.Proofs.Ytcgdopjmbadonaa

/-! The statement ChainSpans holds: for every input the law answers true, and its arguments read behind the call as before. No conditions. -/
namespace Go.Proofs.Ytcgdopjmbadonaa
open Go.ChangeShapes Go.WideShapes Go.ChangeAt Go.RowKit

set_option maxRecDepth 100000 in
theorem walkChainSpans (v0 v1 v2 : Value) (W : World) {H : Type} {enc : TypeId × Value → H} {base : Nat} {sp : Nat → Bool} {hd : Bool} {d0 d1 d2 : DataW H} {p0 p1 p2 : List MemPlace}
    (k0 : Value.okWide Try.prog W .any base 25 v0) (h0 : DataW.Trod enc Try.prog W 0 sp hd 25 v0 d0 p0)
    (k1 : Value.okWide Try.prog W .any base 3 v1) (h1 : DataW.Trod enc Try.prog W 0 sp hd 3 v1 d1 p1)
    (k2 : Value.okWide Try.prog W .any base 3 v2) (h2 : DataW.Trod enc Try.prog W 0 sp hd 3 v2 d2 p2) :
    Calls Try.prog 4 #[v0, v1, v2] W fun e w' => e = .returned (.bool true) ∧ Keep [] W w' := by
  obtain ⟨n0, h0⟩ := h0
  obtain ⟨s0, w0, r0⟩ := rk_book k0 h0
  obtain ⟨s1, rfl, rfl, rfl, w1⟩ := open_int Try.underlying3 k1 h1
  obtain ⟨s2, rfl, rfl, rfl, w2⟩ := open_int Try.underlying3 k2 h2
  refine calls_bool (xs := [s0.pv, .int .i64 s1, .int .i64 s2]) (b := true) ((spans_law s0 s1 s2).mono (fun _ _ h => h.1)) rfl (fun j v x e1 e2 => ?_)
  match j with
  | 0 => simp at e1 e2; subst e1 e2; exact r0
  | 1 => simp at e1 e2; subst e1 e2; exact .int .i64 s1
  | 2 => simp at e1 e2; subst e1 e2; exact .int .i64 s2
  | j + 3 => simp at e1
set_option maxRecDepth 100000 in
theorem liftedChainSpans (os : Os) (started : os.Started) (H : Type) (enc : TypeId × Value → H) :
    ReturnsInHanded {} Try.checked os 4 .any (Rows.chainSpansSpec.pre6 enc Try.prog Try.f4 Rows.chainSpansRow.domain false) (Rows.chainSpansSpec.post enc Try.prog Try.f4 false true false false) := by
  refine returnsInHanded_of_change (C := Try.checked) own started (by kernel_rfl) Try.func4
    (ChangeSpec.witness6 (enc := enc) (C := Try.checked) false ⟨#[], #[.agg #[.slice none 0 0, .slice none 0 0], .int .i64 0, .int .i64 0], []⟩ 8 (by kernel_rfl) (by kernel_rfl) (by kernel_rfl) (by kernel_rfl)) ?_
  intro W base args ds gs before hval0 hW hcnd _
  have hval : ∀ (j : Nat) t v, Try.f4.params[j]? = some t → args[j]? = some v → Value.okWide Try.prog W .any base t v := hval0
  have hW' := hW
  obtain ⟨p, q, hA0, hV, rfl, hfz, hnd⟩ := hW
  have hA : DataW.TrodAll enc Try.prog W 0 (fun _ => true) true Try.f4.params.toList args.toList ds p := hA0
  rw [Try.params4] at hA hval
  obtain ⟨v0, vs0, d0, ds0, p0, q0, hargs, rfl, rfl, h0, r0⟩ := trodAll_cons hA
  obtain ⟨v1, vs1, d1, ds1, p1, q1, rfl, rfl, rfl, h1, r1⟩ := trodAll_cons r0
  obtain ⟨v2, vs2, d2, ds2, p2, q2, rfl, rfl, rfl, h2, r2⟩ := trodAll_cons r1
  obtain ⟨rfl, rfl, rfl⟩ := trodAll_nil r2
  have hargs' : args = #[v0, v1, v2] := by
    apply Array.ext'
    exact hargs
  subst hargs'
  have k0 := hval 0 _ v0 rfl rfl
  have k1 := hval 1 _ v1 rfl rfl
  have k2 := hval 2 _ v2 rfl rfl
  obtain ⟨rfl, rfl⟩ := trodVars_none hV
  refine (walkChainSpans v0 v1 v2 W k0 h0 k1 h1 k2 h2).mono fun e W' ⟨he, hk⟩ => ?_
  subst he
  exact ⟨_, rfl, post_law (tb := 4) laidP rowedP fullP (by decide +kernel) rfl rfl rfl Try.underlying4 hW' hk⟩
theorem overChainSpans : Rows.chainSpansRow.holds Try.pinned (OpenSpec.ofChange Rows.chainSpansSpec) :=
  OpenClaim.holds_of_wide 4 Try.f4 rfl rfl rfl rfl rfl rfl rfl ⟨rfl, rfl, rfl, rfl, rfl⟩ rfl rfl rfl rfl rfl (by kernel_rfl) Try.func4 (by kernel_rfl)
    (of_decide_eq_true (by kernel_rfl)) (by unfold Func.isWrapper; first | (rw [if_pos (by decide +kernel)]; kernel_rfl) | (rw [if_neg (by decide +kernel)]; exact ⟨rfl, rfl⟩))
    (fun os started H enc _ => liftedChainSpans os started H enc)
theorem provedChainSpans : Rows.ChainSpansSaid := overChainSpans
end Go.Proofs.Ytcgdopjmbadonaa
