/- Layer 2 (chain): the law ChainWrong. (Several texts in one.) -/
import Derived.Test.YtcgdopjmbadonaaChK
import Derived.Test.YtcgdopjmbadonaaRows
import Derived.WalkKit
import Derived.ProofKit
import Derived.OpenShut
import Derived.Test.YtcgdopjmbadonaaChF
set_option linter.unusedVariables false
set_option linter.unusedSimpArgs false
/-! Layer 2 (chain): the law ChainWrong. -/
namespace Go.Proofs.Ytcgdopjmbadonaa
open Go.RowKit

set_option maxRecDepth 10000
set_option linter.unusedSimpArgs false
def Ct.bent (n t : Int) (c : Ct) : Ct := if c.num = n then ⟨c.num, c.it, c.src, c.day, c.valid, ⟨c.diff.lo + t, c.diff.hi + t⟩⟩ else c
def Bk.bent (b : Bk) (n t : Int) : Bk := ⟨b.items, b.certs.map (Ct.bent n t)⟩
def bqL (l : List Ct) (n t : Int) (i : Nat) : List Ct := (l.take i).map (Ct.bent n t) ++ l.drop i
theorem bqL_len {l : List Ct} {n t : Int} {i : Nat} (h : i ≤ l.length) : (bqL l n t i).length = l.length := by
  unfold bqL
  rw [List.length_append, List.length_map, List.length_take, List.length_drop]
  omega
theorem bqL_get {l : List Ct} {n t : Int} {i : Nat} (h : i ≤ l.length) : (bqL l n t i)[i]? = l[i]? := by
  unfold bqL
  rw [List.getElem?_append_right (by rw [List.length_map, List.length_take]; omega), List.length_map, List.length_take, List.getElem?_drop]
  congr 1
  omega
theorem bqL_set {l : List Ct} {n t : Int} {i : Nat} {c : Ct} (h : l[i]? = some c) : (bqL l n t i).set i (Ct.bent n t c) = bqL l n t (i + 1) := by
  obtain ⟨hi, e⟩ := List.getElem?_eq_some_iff.1 h
  unfold bqL
  have hl : ((l.take i).map (Ct.bent n t)).length = i := by rw [List.length_map, List.length_take]; omega
  rw [List.set_append_right _ _ (by omega), hl, Nat.sub_self, List.drop_eq_getElem_cons hi, List.set_cons_zero, List.take_add_one, h, List.map_append]
  simp
theorem bqL_skip {l : List Ct} {n t : Int} {i : Nat} {c : Ct} (h : l[i]? = some c) (hn : ¬ c.num = n) : bqL l n t (i + 1) = bqL l n t i := by
  obtain ⟨hi, e⟩ := List.getElem?_eq_some_iff.1 h
  unfold bqL
  have hb : Ct.bent n t c = c := by unfold Ct.bent; rw [if_neg hn]
  rw [List.take_add_one, h, List.map_append, List.drop_eq_getElem_cons hi, e]
  simp [hb]
theorem bqL_full {l : List Ct} {n t : Int} : bqL l n t l.length = l.map (Ct.bent n t) := by
  unfold bqL
  rw [List.take_length, List.drop_length, List.append_nil]
theorem bqL_zero {l : List Ct} {n t : Int} : bqL l n t 0 = l := by unfold bqL; simp
/-- One wrong certificate is suspect, if all others have a truth. -/
theorem bent_susp {x : Bk} {T : Int → Int → Int} (hT : Truth x T) {n t : Int} (hy : (x.bent n t).ok) (hn : ∃ c ∈ x.certs, c.num = n) : (x.bent n t).suspM = ([], 7) ∨ ∃ l, (x.bent n t).suspM = (l, 0) ∧ l.contains n = true := by
  unfold Bk.suspM
  rw [if_pos (Bk.ok_iff.2 hy)]
  cases hc : (x.bent n t).contra
  · exact .inl rfl
  · refine .inr ⟨_, by rw [if_pos rfl], ?_⟩
    rw [List.contains_iff_mem, List.mem_filter]
    constructor
    · rw [mem_nums hy]
      obtain ⟨c, h1, h2⟩ := hn
      refine ⟨Ct.bent n t c, List.mem_map.2 ⟨c, h1, rfl⟩, ?_⟩
      unfold Ct.bent
      rw [if_pos h2]; exact h2
    · have hw := wo_ok hy n
      have hp : Truth ((x.bent n t).wo n) T := by
        refine hT.part rfl fun c hc => ?_
        obtain ⟨h1, h2⟩ := List.mem_filter.1 hc
        obtain ⟨c0, h3, h4⟩ := List.mem_map.1 h1
        by_cases h5 : c0.num = n
        · unfold Ct.bent at h4
          rw [if_pos h5] at h4
          rw [← h4] at h2
          simp [h5] at h2
        · unfold Ct.bent at h4
          rw [if_neg h5] at h4
          rw [← h4]; exact h3
      unfold Bk.suspB
      rw [truth_contra hw hp]; rfl
attribute [local irreducible] Bk.held Bk.nums Bk.heldU Bk.span Bk.contra trueM wordM bqL
attribute [local simp] AS.exp expG Box.ren AV.map AV.mapL outsOk noRet Site.isRet Box.allS AV.allS AV.allSL retB dropL AS.adds renL outG outOk lentBx inG fnOf lookA List.findIdx?_cons
attribute [local simp] Box.purge Site.isLoc
attribute [local simp] retFz frzL AS.frz AV.frz AV.frzL Box.frz AS.tidy AS.frzC
def wgK (its : PV) (l : List Ct) (n t : Int) (i : Nat) : AS := ⟨[(3, .pv (.int .i16 t)), (9, .ptr (.loc 9 0) 0), (11, .pv (.int .i64 n)), (12, .pv (.int .i64 i))],
  [(.loc 29 0, .arr 58 7 ((bqL l n t i).map Ct.pv)), (.loc 9 0, .cells [.pv its, .vec (.loc 29 0) 7 0 l.length])]⟩
set_option maxHeartbeats 16000000 in
theorem wrong_law (b : Bk) (ws : List Int) (which t : Int) (hws : ∀ y ∈ ws, 0 ≤ y ∧ y < 65536) (hwh : 0 ≤ which ∧ which ≤ 255) (ht : -32768 ≤ t ∧ t ≤ 32767) : Gives Try.prog 13 [b.pv, wsP ws, .int .u8 which, .int .i16 t] (.bool true) := by
  have hw := wakes_c
  refine calls_of_awpS mixed L13_ok (Nat.le_of_ble_eq_true rfl) ?_
  simp [-getElem?_pos, L13, Bk.pv]
  refine call_gives (k := 0) (fs := []) (xs := [b.pv]) (cs := []) rfl rfl (ready_c b) rfl ?_
  cases e1 : (decide (b.items.length ≤ 10) && decide (b.certs.length ≤ 28) && decide (b.fault = 0))
  · simp [-getElem?_pos]
    refine call_gives (k := 0) (fs := []) (xs := []) (cs := []) rfl rfl hw rfl ?_
    simp [-getElem?_pos]
  have hb := ready_of e1
  clear e1
  by_cases hne : b.certs = []
  · simp [-getElem?_pos, itsP, ctsP, hne]
    refine call_gives (k := 0) (fs := []) (xs := []) (cs := []) rfl rfl hw rfl ?_
    simp [-getElem?_pos]
  have hil := hb.i
  have hcl := hb.c
  have hwr := written_c b hb ws hws
  simp [-getElem?_pos, itsP, ctsP, hne]
  refine call_lent (as' := [.pv b.pv, .pv (wsP ws)]) (B := []) (fs := []) (cs := []) 29 [] ?_ rfl rfl rfl ?_ ?_ hwr ?_
  · rfl
  · rfl
  · rfl
  rintro r0 B0 ⟨rfl, rfl⟩
  refine ⟨rfl, by simp, ?_⟩
  by_cases hf : (b.writ ws).fault = 0
  case neg =>
    simp [-getElem?_pos, hf]
    refine call_gives (k := 0) (fs := []) (xs := []) (cs := []) rfl rfl hw rfl ?_
    simp [-getElem?_pos]
  have hx : (b.writ ws).ok := Bk.ok_iff.1 hf
  have hT := writ_truth hb hws
  have hxi : (b.writ ws).items = b.items := rfl
  have hxc : (b.writ ws).certs.length = b.certs.length := by unfold Bk.writ; simp
  have w1 : IntKind.i64.wrap which = which := wrap64 (by omega)
  have w3 : IntKind.i64.wrap t = t := wrap64 (by omega)
  have hpos : 0 < b.certs.length := List.length_pos_iff.2 hne
  have k1 := tmod_bd hwh.1 (show (0 : Int) < (b.certs.length : Int) by omega)
  obtain ⟨j, hj⟩ : ∃ j : Nat, which.tmod (b.certs.length : Int) = j := ⟨(which.tmod (b.certs.length : Int)).toNat, by omega⟩
  have hjl : j < (b.writ ws).certs.length := by omega
  obtain ⟨q, hq, hqm, hgq⟩ := ct_at hjl
  have hjb : j < b.certs.length := by omega
  simp [-getElem?_pos, -List.getElem?_map, hf, hne, w1, hj, hjb, hgq, hjl, nble, nblt]
  have hyi : ((b.writ ws).bent q.num t).items.length = b.items.length := rfl
  have hyc : ((b.writ ws).bent q.num t).certs.length = b.certs.length := by unfold Bk.bent; rw [List.length_map, hxc]
  have hyp : ((b.writ ws).bent q.num t).pv = .agg [itsP b.items, .lst false 7 ((bqL (b.writ ws).certs q.num t (b.writ ws).certs.length).map Ct.pv)] := by rw [bqL_full]; rfl
  have hfa := rfault_c ((b.writ ws).bent q.num t) (by omega) (by omega)
  have hbk := book_c ((b.writ ws).bent q.num t) (by omega) (by omega)
  have hsu := Suspects_c ((b.writ ws).bent q.num t) (by omega) (by omega)
  have hsl := suspM_len (b := (b.writ ws).bent q.num t)
  have hsm := fun h : ((b.writ ws).bent q.num t).fault = 0 => bent_susp hT (n := q.num) (t := t) (Bk.ok_iff.1 h) ⟨q, hqm, rfl⟩
  have hdb : ∀ c ∈ (b.writ ws).certs, c.diff.bdd 100000 := fun c hc => (cert_bds hx hc).2.2.2.2.2.2.2.2.2.2.2.2.1
  generalize (b.writ ws).bent q.num t = y at *
  generalize (b.writ ws).certs = l at *
  generalize q.num = n at *
  clear hT hf hx hwr hgq hq hqm hj w1
  refine awp_loopS (fun m τ => ∃ i : Nat, i ≤ l.length ∧ m = l.length - i ∧ τ = wgK (itsP b.items) l n t i) ⟨l.length, wgK (itsP b.items) l n t 0, Sub.mk (by simp [wgK]) (by simp [wgK, bqL_zero, hxc]), 0, by omega, rfl, rfl⟩ ?_
  rintro J hJ m τ ⟨i, hi, rfl, rfl⟩
  have hql := bqL_len (n := n) (t := t) hi
  by_cases hlt : i < l.length
  · obtain ⟨c, hc⟩ : ∃ c, l[i]? = some c := ⟨_, List.getElem?_eq_getElem hlt⟩
    have hget := bqL_get (n := n) (t := t) hi
    rw [hc] at hget
    have hgc : ((bqL l n t i).map Ct.pv)[i]? = some (.agg [.int .i64 c.num, .int .i64 c.it, .int .i64 c.src, .int .i64 c.day, .int .i64 c.valid, .int .i64 c.diff.lo, .int .i64 c.diff.hi]) := by rw [List.getElem?_map, hget]; rfl
    have hwk := wrapK (k := i) (by omega)
    have hround := hJ _ _ ⟨i + 1, hlt, rfl, rfl⟩
    have hmeas : l.length - (i + 1) < l.length - i := by omega
    have hcb := hdb c (List.mem_of_getElem? hc)
    unfold Cr.bdd at hcb
    have x1 : IntKind.i64.wrap (c.diff.lo + t) = c.diff.lo + t := wrap64 (by omega)
    have x2 : IntKind.i64.wrap (c.diff.hi + t) = c.diff.hi + t := wrap64 (by omega)
    have hlt' : i < b.certs.length := by omega
    unfold wgK at hround ⊢
    clear hJ
    by_cases e1 : c.num = n
    · have hset := bqL_set (n := n) (t := t) hc
      rw [← hset] at hround
      have hb : Ct.bent n t c = ⟨c.num, c.it, c.src, c.day, c.valid, ⟨c.diff.lo + t, c.diff.hi + t⟩⟩ := by unfold Ct.bent; rw [if_pos e1]
      rw [hb, List.map_set] at hround
      generalize (bqL l n t i).map Ct.pv = Z at *
      simp [-getElem?_pos, -List.getElem?_map, hlt, hlt', hgc, hql, hxc, e1, w3, x1, x2, hwk, nble, nblt, setAt]
      exact ⟨l.length - (i + 1), _, by omega, Sub.mk (by simp) (by simp [Ct.pv, e1, hxc]), hround⟩
    · rw [bqL_skip hc e1] at hround
      simp [-getElem?_pos, -List.getElem?_map, hlt, hlt', hgc, hql, hxc, e1, hwk, nble, nblt]
      exact ⟨l.length - (i + 1), _, by omega, Sub.mk (by simp) (by simp [hxc]), hround⟩
  have he : i = l.length := by omega
  subst he
  clear hJ
  unfold wgK
  have hth : ((bqL l n t l.length).map Ct.pv).take l.length = (bqL l n t l.length).map Ct.pv := List.take_of_length_le (by rw [List.length_map, hql]; exact Nat.le_refl _)
  have htl : ((bqL l n t l.length).map Ct.pv).length = l.length := by rw [List.length_map, hql]
  generalize (bqL l n t l.length).map Ct.pv = TL at *
  simp [-getElem?_pos, -List.getElem?_map]
  refine call_gives (k := 1) (fs := []) (xs := [y.pv]) (cs := []) rfl ?_ hfa rfl ?_
  · simp [snapW, AV.snap, AV.snap0, hyp, hth, htl]
  by_cases hf : y.fault = 0
  case neg =>
    simp [-getElem?_pos, hf]
    refine call_gives (k := 0) (fs := []) (xs := []) (cs := []) rfl rfl hw rfl ?_
    simp [-getElem?_pos]
  have hsm := hsm hf
  simp [-getElem?_pos, hf]
  refine .inl (call_pv [.loc 29 0] (fs := []) (xs := [y.pv]) (cs := []) rfl ?_ hbk ?_)
  · simp [frzsL, hyp, hth, htl]
  simp [-getElem?_pos, frzsL, hth, htl]
  refine .inl (call_pv [] (fs := []) (xs := [y.pv]) (cs := []) rfl rfl hsu ?_)
  rcases hsm with h | ⟨L, h, hL⟩
  · rw [h]
    simp [-getElem?_pos, frzsL, lstE]
    refine call_gives (k := 0) (fs := []) (xs := []) (cs := []) rfl rfl hw rfl ?_
    simp [-getElem?_pos]
  · rw [h] at hsl ⊢
    simp only at hsl
    have hha := has_c L n (by omega)
    rw [hL] at hha
    simp [-getElem?_pos, frzsL, lstE]
    refine call_gives (k := 0) (fs := []) (xs := [.lst false 1 (L.map intP), .int .i64 n]) (cs := []) rfl rfl hha rfl ?_
    simp [-getElem?_pos]
    refine call_gives (k := 0) (fs := []) (xs := []) (cs := []) rfl rfl hw rfl ?_
    simp [-getElem?_pos]
end Go.Proofs.Ytcgdopjmbadonaa

/-! The statement ChainWrong holds: for every input the law answers true, and its arguments read behind the call as before. No conditions. -/
namespace Go.Proofs.Ytcgdopjmbadonaa
open Go.ChangeShapes Go.WideShapes Go.ChangeAt Go.RowKit

set_option maxRecDepth 100000 in
theorem walkChainWrong (v0 v1 v2 v3 : Value) (W : World) {H : Type} {enc : TypeId × Value → H} {base : Nat} {sp : Nat → Bool} {hd : Bool} {d0 d1 d2 d3 : DataW H} {p0 p1 p2 p3 : List MemPlace}
    (k0 : Value.okWide Try.prog W .any base 25 v0) (h0 : DataW.Trod enc Try.prog W 0 sp hd 25 v0 d0 p0)
    (k1 : Value.okWide Try.prog W .any base 72 v1) (h1 : DataW.Trod enc Try.prog W 0 sp hd 72 v1 d1 p1)
    (k2 : Value.okWide Try.prog W .any base 5 v2) (h2 : DataW.Trod enc Try.prog W 0 sp hd 5 v2 d2 p2)
    (k3 : Value.okWide Try.prog W .any base 78 v3) (h3 : DataW.Trod enc Try.prog W 0 sp hd 78 v3 d3 p3) :
    Calls Try.prog 13 #[v0, v1, v2, v3] W fun e w' => e = .returned (.bool true) ∧ Keep [] W w' := by
  obtain ⟨n0, h0⟩ := h0
  obtain ⟨s0, w0, r0⟩ := rk_book k0 h0
  obtain ⟨n1, h1⟩ := h1
  obtain ⟨s1, w1, l1, r1⟩ := rd_u16s k1 h1
  obtain ⟨s2, rfl, rfl, rfl, w2⟩ := open_int Try.underlying5 k2 h2
  obtain ⟨s3, rfl, rfl, rfl, w3⟩ := open_int Try.underlying78 k3 h3
  refine calls_bool (xs := [s0.pv, .lst false 1 (s1.map (PV.int .u16)), .int .u8 s2, .int .i16 s3]) (b := true) ((wrong_law s0 s1 s2 s3 w1 (ku8 w2) (ki16 w3)).mono (fun _ _ h => h.1)) rfl (fun j v x e1 e2 => ?_)
  match j with
  | 0 => simp at e1 e2; subst e1 e2; exact r0
  | 1 => simp at e1 e2; subst e1 e2; exact r1
  | 2 => simp at e1 e2; subst e1 e2; exact .int .u8 s2
  | 3 => simp at e1 e2; subst e1 e2; exact .int .i16 s3
  | j + 4 => simp at e1
set_option maxRecDepth 100000 in
theorem liftedChainWrong (os : Os) (started : os.Started) (H : Type) (enc : TypeId × Value → H) :
    ReturnsInHanded {} Try.checked os 13 .any (Rows.chainWrongSpec.pre6 enc Try.prog Try.f13 Rows.chainWrongRow.domain false) (Rows.chainWrongSpec.post enc Try.prog Try.f13 false true false false) := by
  refine returnsInHanded_of_change (C := Try.checked) own started (by kernel_rfl) Try.func13
    (ChangeSpec.witness6 (enc := enc) (C := Try.checked) false ⟨#[], #[.agg #[.slice none 0 0, .slice none 0 0], .slice none 0 0, .int .u8 0, .int .i16 0], []⟩ 8 (by kernel_rfl) (by kernel_rfl) (by kernel_rfl) (by kernel_rfl)) ?_
  intro W base args ds gs before hval0 hW hcnd _
  have hval : ∀ (j : Nat) t v, Try.f13.params[j]? = some t → args[j]? = some v → Value.okWide Try.prog W .any base t v := hval0
  have hW' := hW
  obtain ⟨p, q, hA0, hV, rfl, hfz, hnd⟩ := hW
  have hA : DataW.TrodAll enc Try.prog W 0 (fun _ => true) true Try.f13.params.toList args.toList ds p := hA0
  rw [Try.params13] at hA hval
  obtain ⟨v0, vs0, d0, ds0, p0, q0, hargs, rfl, rfl, h0, r0⟩ := trodAll_cons hA
  obtain ⟨v1, vs1, d1, ds1, p1, q1, rfl, rfl, rfl, h1, r1⟩ := trodAll_cons r0
  obtain ⟨v2, vs2, d2, ds2, p2, q2, rfl, rfl, rfl, h2, r2⟩ := trodAll_cons r1
  obtain ⟨v3, vs3, d3, ds3, p3, q3, rfl, rfl, rfl, h3, r3⟩ := trodAll_cons r2
  obtain ⟨rfl, rfl, rfl⟩ := trodAll_nil r3
  have hargs' : args = #[v0, v1, v2, v3] := by
    apply Array.ext'
    exact hargs
  subst hargs'
  have k0 := hval 0 _ v0 rfl rfl
  have k1 := hval 1 _ v1 rfl rfl
  have k2 := hval 2 _ v2 rfl rfl
  have k3 := hval 3 _ v3 rfl rfl
  obtain ⟨rfl, rfl⟩ := trodVars_none hV
  refine (walkChainWrong v0 v1 v2 v3 W k0 h0 k1 h1 k2 h2 k3 h3).mono fun e W' ⟨he, hk⟩ => ?_
  subst he
  exact ⟨_, rfl, post_law (tb := 4) laidP rowedP fullP (by decide +kernel) rfl rfl rfl Try.underlying4 hW' hk⟩
theorem overChainWrong : Rows.chainWrongRow.holds Try.pinned (OpenSpec.ofChange Rows.chainWrongSpec) :=
  OpenClaim.holds_of_wide 13 Try.f13 rfl rfl rfl rfl rfl rfl rfl ⟨rfl, rfl, rfl, rfl, rfl⟩ rfl rfl rfl rfl rfl (by kernel_rfl) Try.func13 (by kernel_rfl)
    (of_decide_eq_true (by kernel_rfl)) (by unfold Func.isWrapper; first | (rw [if_pos (by decide +kernel)]; kernel_rfl) | (rw [if_neg (by decide +kernel)]; exact ⟨rfl, rfl⟩))
    (fun os started H enc _ => liftedChainWrong os started H enc)
theorem provedChainWrong : Rows.ChainWrongSaid := overChainWrong
end Go.Proofs.Ytcgdopjmbadonaa
