/- Layer 2 (chain): the law ChainMore. (Several texts in one.) -/
import Derived.Test.YtcgdopjmbadonaaChJ
import Derived.Test.YtcgdopjmbadonaaChG
import Derived.Test.YtcgdopjmbadonaaRows
import Derived.WalkKit
import Derived.ProofKit
import Derived.OpenShut
set_option linter.unusedVariables false
set_option linter.unusedSimpArgs false
/-! Layer 2 (chain): the law ChainMore. -/
namespace Go.Proofs.Ytcgdopjmbadonaa
open Go.RowKit

set_option maxRecDepth 10000
set_option linter.unusedSimpArgs false
theorem osel_none {l : LOp} {d : Nat} {K : AV → AS → Prop} {σ : AS} : osel none l d K σ = opWp l d K σ := rfl
attribute [local irreducible] Bk.held Bk.nums Bk.heldU Bk.span Bk.contra
def Bk.more (b : Bk) (m : Ct) : Bk := ⟨b.items, b.certs ++ [m]⟩
theorem more_more (b : Bk) (m : Ct) : More b (b.more m) := ⟨rfl, fun c hc => List.mem_append.2 (.inl hc)⟩
attribute [local simp] AS.exp expG Box.ren AV.map AV.mapL outsOk noRet Site.isRet Box.allS AV.allS AV.allSL retB dropL AS.adds renL outG outOk lentBx inG fnOf lookA List.findIdx?_cons
attribute [local simp] Box.purge Site.isLoc
attribute [local simp] retFz frzL AS.frz AV.frz AV.frzL Box.frz AS.tidy AS.frzC
def moK (b : Bk) (m : Ct) (item day : Int) : AS := ⟨[(2, .pv (.int .u8 item)), (3, .pv (.int .u16 day)), (4, .ptr (.loc 4 0) 0), (8, .pv (.bool false)), (9, .ptr (.loc 9 0) 0), (30, .agg [.pv (itsP b.items), .vec (.loc 29 0) 7 0 (b.certs.length + 1)])],
  [(.loc 29 0, .arr 58 7 (b.certs.map Ct.pv ++ [m.pv])), (.loc 9 0, .cells [.pv (.emp (some true)), .pv (.emp (some true))]), (.loc 4 0, .cells b.cells)]⟩
def mlK (b b2 : Bk) (H1 H2 : List Int) (K D : Int) (k : Nat) : AS := ⟨[(4, .ptr (.loc 4 0) 0), (9, .ptr (.loc 9 0) 0), (10, .pv (.int .i64 K)), (11, .pv (.int .i64 D)), (12, .pv (.lst false 1 (H1.map intP))), (14, .pv (.lst false 1 (H2.map intP))), (16, .pv (.int .i64 k))],
  [(.loc 9 0, .cells [.pv (itsP b2.items), .pv (ctsP b2.certs)]), (.loc 4 0, .cells b.cells)]⟩
set_option maxHeartbeats 64000000 in
theorem more_law (b : Bk) (m : Ct) (item day : Int) (hsz : b.certs.length * 56 ≤ 140737488351232) (hit : 0 ≤ item ∧ item ≤ 255) (hdy : 0 ≤ day ∧ day ≤ 65535) : Gives Try.prog 6 [b.pv, m.pv, .int .u8 item, .int .u16 day] (.bool true) := by
  have hw := wakes_c
  refine calls_of_awpS mixed L6_ok (Nat.le_of_ble_eq_true rfl) ?_
  simp [-getElem?_pos, L6, Bk.pv, Ct.pv]
  refine ltS_seq (moK b m item day) ?_ ?_
  · by_cases hbig : b.certs.length ≤ 999999
    · have hb0 : b.certs.length ≤ 1000000 := by omega
      have hm : (b.certs.map Ct.pv).take b.certs.length = b.certs.map Ct.pv := List.take_of_length_le (by simp)
      simp [-getElem?_pos, ltS_alt, ltS_no, itsP, ctsP, nble, nblt, hbig, hb0, hm]
      repeat' (with_reducible refine And.intro ?_ ?_)
      all_goals
        refine Sub.mk ?_ ?_
        · simp [moK, itsP]
        · simp [moK, Bk.cells, itsP, ctsP, Ct.pv]
    · have hb1 : ¬ b.certs.length ≤ 1000000 ∨ b.certs.length = 1000000 := by omega
      have hm : (b.certs.map Ct.pv).take b.certs.length = b.certs.map Ct.pv := List.take_of_length_le (by simp)
      rcases hb1 with hb1 | hb1
      · simp [-getElem?_pos, ltS_alt, ltS_no, itsP, ctsP, nble, nblt, hb1, hm]
        repeat' (first
          | with_reducible refine And.intro ?_ ?_
          | with_reducible refine Or.inl ?_
          | (rw [osel_none]; simp [-getElem?_pos, opWp, AS.cont, ltS_alt, ltS_no, itsP, ctsP, nble, nblt, hm, hbig, hb1]))
        all_goals first
          | omega
          | (refine Sub.mk ?_ ?_
             · simp [moK, itsP]
             · simp [moK, Bk.cells, itsP, ctsP, Ct.pv])
      · have hb0 : b.certs.length ≤ 1000000 := by omega
        simp [-getElem?_pos, ltS_alt, ltS_no, itsP, ctsP, nble, nblt, hbig, hb0, hm]
        repeat' (first
          | with_reducible refine And.intro ?_ ?_
          | with_reducible refine Or.inl ?_
          | (rw [osel_none]; simp [-getElem?_pos, opWp, AS.cont, ltS_alt, ltS_no, itsP, ctsP, nble, nblt, hm, hbig, hb0]))
        all_goals first
          | omega
          | (refine Sub.mk ?_ ?_
             · simp [moK, itsP]
             · simp [moK, Bk.cells, itsP, ctsP, Ct.pv])
  · have hxp : (b.more m).pv = .agg [itsP b.items, .lst false 7 (b.certs.map Ct.pv ++ [m.pv])] := by simp [Bk.more, Bk.pv, itsP, ctsP]
    have hxt : (b.certs.map Ct.pv ++ [m.pv]).take (b.certs.length + 1) = b.certs.map Ct.pv ++ [m.pv] := List.take_of_length_le (by simp)
    have hxl : b.certs.length + 1 ≤ (b.certs.map Ct.pv ++ [m.pv]).length := by simp
    have hx1 : (b.more m).items = b.items := rfl
    have hx2 : (b.more m).certs.map Ct.pv = b.certs.map Ct.pv ++ [m.pv] := by simp [Bk.more]
    have hr1 := ready_c b
    have hr2 := ready_c (b.more m)
    simp [-getElem?_pos, -List.getElem?_map, ltS_alt, ltS_no, moK, itsP, ctsP, Bk.cells]
    refine call_gives (k := 0) (fs := []) (xs := [b.pv]) (cs := []) rfl rfl hr1 rfl ?_
    cases e1 : (decide (b.items.length ≤ 10) && decide (b.certs.length ≤ 28) && decide (b.fault = 0))
    · simp [-getElem?_pos]
      refine call_gives (k := 0) (fs := []) (xs := []) (cs := []) rfl rfl hw rfl ?_
      simp [-getElem?_pos]
    have hb := ready_of e1
    simp [-getElem?_pos, -List.getElem?_map]
    refine call_gives (k := 1) (fs := []) (xs := [(b.more m).pv]) (cs := []) rfl ?_ hr2 rfl ?_
    · simp [snapW, AV.snap, AV.snap0, hxp, itsP, hxt]
    cases e2 : (decide ((b.more m).items.length ≤ 10) && decide ((b.more m).certs.length ≤ 28) && decide ((b.more m).fault = 0))
    · simp [-getElem?_pos]
      refine call_gives (k := 0) (fs := []) (xs := []) (cs := []) rfl rfl hw rfl ?_
      simp [-getElem?_pos]
    have hb2 := ready_of e2
    have hmm := more_more b m
    by_cases hne : b.items = []
    · simp [-getElem?_pos, hne]
      refine call_gives (k := 0) (fs := []) (xs := []) (cs := []) rfl rfl hw rfl ?_
      simp [-getElem?_pos]
    have w1 : IntKind.i64.wrap item = item := wrap64 (by omega)
    have w2 : IntKind.i64.wrap day = day := wrap64 (by omega)
    have hpos : 0 < b.items.length := List.length_pos_iff.2 hne
    have k1 := tmod_bd hit.1 (show (0 : Int) < (b.items.length : Int) by omega)
    have k2 := tmod_bd hdy.1 (show (0 : Int) < 1001 by omega)
    have hsm := hmm.spanM hb hb2 k1.1 k1.2 k2.1 (by omega)
    have hil := hb.i
    have hcl := hb.c
    have hil2 := hb2.i
    have hcl2 := hb2.c
    have hbk := book_c b (by omega) (by omega)
    have hbk2 := book_c (b.more m) (by omega) (by omega)
    have hh1 := Held0_c b (by omega) (by omega)
    have hh2 := Held0_c (b.more m) (by omega) (by omega)
    rw [heldM0 hb] at hh1
    rw [heldM0 hb2] at hh2
    have hl1 := held_len (b := b) (bad := [])
    have hl2 := held_len (b := b.more m) (bad := [])
    have hsub := fun x => hmm.held hb hb2 (x := x)
    unfold lstE at hh1 hh2
    simp only at hh1 hh2
    simp [-getElem?_pos, hne, w1, w2]
    generalize hK : item.tmod (b.items.length : Int) = K at *
    generalize hD : day.tmod 1001 = D at *
    have hs1 := Span_c b (by omega) (by omega) K D
    have hs2 := Span_c (b.more m) (by omega) (by omega) K D
    have hc1 := spanM_bdd hb K D
    have hc2 := spanM_bdd hb2 K D
    generalize b.spanM K D = S1 at *
    generalize (b.more m).spanM K D = S2 at *
    generalize b.held [] = H1 at *
    generalize (b.more m).held [] = H2 at *
    generalize b.more m = b2 at *
    obtain ⟨R1, E1⟩ := S1
    obtain ⟨R2, E2⟩ := S2
    simp only at hsm
    unfold spanE Cr.pv at hs1 hs2
    simp only at hs1 hs2
    refine .inl (call_pv [] (fs := []) (xs := [b.pv]) (cs := []) rfl rfl hbk ?_)
    simp [-getElem?_pos, frzsL]
    refine .inl (call_pv [] (fs := []) (xs := [b.pv, .emp (some true)]) (cs := []) rfl rfl hh1 ?_)
    simp [-getElem?_pos, frzsL]
    refine .inl (call_pv [.loc 29 0] (fs := []) (xs := [b2.pv]) (cs := []) rfl ?_ hbk2 ?_)
    · simp [frzsL, hxt, hxp, itsP]
    simp [-getElem?_pos, frzsL, hxt]
    refine .inl (call_pv [] (fs := []) (xs := [b2.pv, .emp (some true)]) (cs := []) rfl rfl hh2 ?_)
    simp [-getElem?_pos, frzsL]
    refine awp_loopS (fun n τ => ∃ k : Nat, k ≤ H1.length ∧ n = H1.length - k ∧ τ = mlK b b2 H1 H2 K D k) ⟨H1.length, mlK b b2 H1 H2 K D 0, Sub.mk (by simp [mlK]) (by simp [mlK, Bk.cells, itsP, ctsP, hx1, hx2]), 0, by omega, rfl, rfl⟩ ?_
    rintro J hJ n τ ⟨k, hk, rfl, rfl⟩
    by_cases hlt : k < H1.length
    · obtain ⟨x, hx⟩ : ∃ x, H1[k]? = some x := ⟨_, List.getElem?_eq_getElem hlt⟩
      have hgx : (H1.map intP)[k]? = some (.int .i64 x) := by rw [List.getElem?_map, hx]; rfl
      have hwk := wrapK (k := k) (by omega)
      have hround := hJ _ _ ⟨k + 1, hlt, rfl, rfl⟩
      have hmeas : H1.length - (k + 1) < H1.length - k := by omega
      have hha := has_c H2 x (by omega)
      rw [List.contains_iff_mem.2 (hsub x (List.mem_of_getElem? hx))] at hha
      simp [-getElem?_pos, -List.getElem?_map, mlK, hlt, hgx]
      refine call_gives (k := 0) (fs := []) (xs := [.lst false 1 (H2.map intP), .int .i64 x]) (cs := []) rfl rfl hha rfl ?_
      simp [-getElem?_pos, -List.getElem?_map, hwk]
      exact ⟨_, _, hmeas, Sub.mk (by simp [mlK]) (by simp [mlK]), hround⟩
    have he : k = H1.length := by omega
    subst he
    clear hJ
    simp [-getElem?_pos, -List.getElem?_map, mlK, Bk.cells]
    refine .inl (call_pv [] (fs := []) (xs := [b.pv]) (cs := []) rfl rfl hbk ?_)
    simp [-getElem?_pos, frzsL]
    refine .inl (call_pv [] (fs := []) (xs := [b.pv, .int .i64 K, .int .i64 D]) (cs := []) rfl rfl hs1 ?_)
    simp [-getElem?_pos, frzsL]
    refine .inl (call_pv [] (fs := []) (xs := [b2.pv]) (cs := []) rfl rfl hbk2 ?_)
    simp [-getElem?_pos, frzsL]
    refine .inl (call_pv [] (fs := []) (xs := [b2.pv, .int .i64 K, .int .i64 D]) (cs := []) rfl rfl hs2 ?_)
    rcases hsm with ⟨q2, q1⟩ | ⟨q2, q1 | q1 | q1⟩ | ⟨q2, q1⟩ | ⟨q2, q1, q3⟩
    case inr.inr.inr =>
      subst q1 q2
      unfold Cr.sub at q3
      have d1 : decide (R1.lo ≤ R2.lo) = true := decide_eq_true q3.1
      have d2 : decide (R2.hi ≤ R1.hi) = true := decide_eq_true q3.2
      simp [-getElem?_pos, -decide_eq_true_eq, -decide_eq_false_iff_not, frzsL, d1, d2]
      refine call_gives (k := 0) (fs := []) (xs := []) (cs := []) rfl rfl hw rfl ?_
      simp [-getElem?_pos]
    all_goals
      subst q1 q2
      simp [-getElem?_pos, frzsL]
      refine call_gives (k := 0) (fs := []) (xs := []) (cs := []) rfl rfl hw rfl ?_
      simp [-getElem?_pos]
end Go.Proofs.Ytcgdopjmbadonaa

/-! The statement ChainMore holds: for every input the law answers true, and its arguments read behind the call as before. No conditions. -/
namespace Go.Proofs.Ytcgdopjmbadonaa
open Go.ChangeShapes Go.WideShapes Go.ChangeAt Go.RowKit

set_option maxRecDepth 100000 in
theorem walkChainMore (v0 v1 v2 v3 : Value) (W : World) {H : Type} {enc : TypeId × Value → H} {base : Nat} {sp : Nat → Bool} {hd : Bool} {d0 d1 d2 d3 : DataW H} {p0 p1 p2 p3 : List MemPlace}
    (k0 : Value.okWide Try.prog W .any base 25 v0) (h0 : DataW.Trod enc Try.prog W 0 sp hd 25 v0 d0 p0)
    (k1 : Value.okWide Try.prog W .any base 58 v1) (h1 : DataW.Trod enc Try.prog W 0 sp hd 58 v1 d1 p1)
    (k2 : Value.okWide Try.prog W .any base 5 v2) (h2 : DataW.Trod enc Try.prog W 0 sp hd 5 v2 d2 p2)
    (k3 : Value.okWide Try.prog W .any base 64 v3) (h3 : DataW.Trod enc Try.prog W 0 sp hd 64 v3 d3 p3)
    (hz : ∀ n ∈ d0.weights Try.prog 25, n ≤ reachBytes) :
    Calls Try.prog 6 #[v0, v1, v2, v3] W fun e w' => e = .returned (.bool true) ∧ Keep [] W w' := by
  obtain ⟨n0, h0⟩ := h0
  obtain ⟨s0, w0, r0⟩ := rk_book k0 h0
  obtain ⟨n1, h1⟩ := h1
  obtain ⟨s1, w1, r1⟩ := rk_certA k1 h1
  obtain ⟨s2, rfl, rfl, rfl, w2⟩ := open_int Try.underlying5 k2 h2
  obtain ⟨s3, rfl, rfl, rfl, w3⟩ := open_int Try.underlying64 k3 h3
  refine calls_bool (xs := [s0.pv, s1.pv, .int .u8 s2, .int .u16 s3]) (b := true) ((more_law s0 s1 s2 s3 (book_sized h0 hz r0) (ku8 w2) (ku16 w3)).mono (fun _ _ h => h.1)) rfl (fun j v x e1 e2 => ?_)
  match j with
  | 0 => simp at e1 e2; subst e1 e2; exact r0
  | 1 => simp at e1 e2; subst e1 e2; exact r1
  | 2 => simp at e1 e2; subst e1 e2; exact .int .u8 s2
  | 3 => simp at e1 e2; subst e1 e2; exact .int .u16 s3
  | j + 4 => simp at e1
set_option maxRecDepth 100000 in
theorem liftedChainMore (os : Os) (started : os.Started) (H : Type) (enc : TypeId × Value → H) :
    ReturnsInHanded {} Try.checked os 6 .any (Rows.chainMoreSpec.pre6 enc Try.prog Try.f6 Rows.chainMoreRow.domain false) (Rows.chainMoreSpec.post enc Try.prog Try.f6 false true false false) := by
  refine returnsInHanded_of_change_sized (C := Try.checked) own started (by kernel_rfl) Try.func6
    (ChangeSpec.witness6 (enc := enc) (C := Try.checked) false ⟨#[], #[.agg #[.slice none 0 0, .slice none 0 0], .agg #[.int .i64 0, .int .i64 0, .int .i64 0, .int .i64 0, .int .i64 0, .int .i64 0, .int .i64 0], .int .u8 0, .int .u16 0], []⟩ 8 (by kernel_rfl) (by kernel_rfl) (by kernel_rfl) (by kernel_rfl)) ?_
  intro W base args ds gs before hval0 hW hcnd hsz _
  have hval : ∀ (j : Nat) t v, Try.f6.params[j]? = some t → args[j]? = some v → Value.okWide Try.prog W .any base t v := hval0
  have hW' := hW
  obtain ⟨p, q, hA0, hV, rfl, hfz, hnd⟩ := hW
  have hA : DataW.TrodAll enc Try.prog W 0 (fun _ => true) true Try.f6.params.toList args.toList ds p := hA0
  rw [Try.params6] at hA hval
  obtain ⟨v0, vs0, d0, ds0, p0, q0, hargs, rfl, rfl, h0, r0⟩ := trodAll_cons hA
  obtain ⟨v1, vs1, d1, ds1, p1, q1, rfl, rfl, rfl, h1, r1⟩ := trodAll_cons r0
  obtain ⟨v2, vs2, d2, ds2, p2, q2, rfl, rfl, rfl, h2, r2⟩ := trodAll_cons r1
  obtain ⟨v3, vs3, d3, ds3, p3, q3, rfl, rfl, rfl, h3, r3⟩ := trodAll_cons r2
  obtain ⟨rfl, rfl, rfl⟩ := trodAll_nil r3
  have hargs' : args = #[v0, v1, v2, v3] := by
    apply Array.ext'
    exact hargs
  subst hargs'
  have k0 := hval 0 _ v0 rfl rfl
  have k1 := hval 1 _ v1 rfl rfl
  have k2 := hval 2 _ v2 rfl rfl
  have k3 := hval 3 _ v3 rfl rfl
  obtain ⟨rfl, rfl⟩ := trodVars_none hV
  have hz : ∀ n ∈ d0.weights Try.prog 25, n ≤ reachBytes := fun n hn => by
    have h1 := List.all_eq_true.1 hsz n (DataW.weights_mem_each (j := 0) (t := 25) (d := d0) (by rw [Try.params6]; rfl) rfl n hn)
    simpa using h1
  refine (walkChainMore v0 v1 v2 v3 W k0 h0 k1 h1 k2 h2 k3 h3 hz).mono fun e W' ⟨he, hk⟩ => ?_
  subst he
  exact ⟨_, rfl, post_law (tb := 4) laidP rowedP fullP (by decide +kernel) rfl rfl rfl Try.underlying4 hW' hk⟩
theorem overChainMore : Rows.chainMoreRow.holds Try.pinned (OpenSpec.ofChange Rows.chainMoreSpec) :=
  OpenClaim.holds_of_wide 6 Try.f6 rfl rfl rfl rfl rfl rfl rfl ⟨rfl, rfl, rfl, rfl, rfl⟩ rfl rfl rfl rfl rfl (by kernel_rfl) Try.func6 (by kernel_rfl)
    (of_decide_eq_true (by kernel_rfl)) (by unfold Func.isWrapper; first | (rw [if_pos (by decide +kernel)]; kernel_rfl) | (rw [if_neg (by decide +kernel)]; exact ⟨rfl, rfl⟩))
    (fun os started H enc _ => liftedChainMore os started H enc)
theorem provedChainMore : Rows.ChainMoreSaid := overChainMore
end Go.Proofs.Ytcgdopjmbadonaa
