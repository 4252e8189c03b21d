/- Layer 2 (chain): the law ChainNames. (Text printed by gen_names2.py.) (Several texts in one.) -/
import Derived.Test.YtcgdopjmbadonaaChL
import Derived.Test.YtcgdopjmbadonaaChJ
import Derived.Test.YtcgdopjmbadonaaRows
import Derived.WalkKit
import Derived.ProofKit
import Derived.OpenShut
import Derived.Test.YtcgdopjmbadonaaChF
set_option linter.unusedVariables false
set_option linter.unusedSimpArgs false
/-! Layer 2 (chain): the law ChainNames. (Text printed by gen_names2.py.) -/
namespace Go.Proofs.Ytcgdopjmbadonaa
open Go.RowKit

set_option maxRecDepth 10000
set_option linter.unusedSimpArgs false
def oddB : Bk := ⟨houseB.items, [⟨4, 1, 1, 40, 30, ⟨0, 9⟩⟩, ⟨1, 1, 0, 10, 100, ⟨5, 7⟩⟩, ⟨2, 2, 1, 20, 50, ⟨-3, -1⟩⟩, ⟨3, 2, 0, 30, 200, ⟨0, 20⟩⟩]⟩
def twiceB : Bk := ⟨houseB.items, houseB.certs ++ [⟨5, 1, 0, 39, 0, ⟨0, 0⟩⟩]⟩
def bentB : Bk := ⟨houseB.items, [⟨4, 1, 2, 40, 30, ⟨0, 9⟩⟩, ⟨1, 1, 0, 10, 100, ⟨5, 7⟩⟩, ⟨2, 2, 1, 20, 50, ⟨-3, -1⟩⟩, ⟨3, 2, 0, 30, 200, ⟨90, 95⟩⟩]⟩
def nineB : Bk := ⟨List.replicate 9 ⟨0, false, ⟨0, 0⟩⟩, []⟩
theorem m1 : houseB.heldM [] = ([1, 2, 3, 4], 0) := by decide +kernel
theorem m2 : houseB.hungM [3] = ([], 0) := by decide +kernel
theorem m3 : houseB.spanM 1 20 = (⟨995, 1019⟩, 0) := by decide +kernel
theorem m4 : houseB.spanM 2 20 = (⟨992, 1018⟩, 0) := by decide +kernel
theorem m5 : houseB.bestM 2 30 = ([3], 0) := by decide +kernel
theorem m6 : houseB.bestM 0 5 = ([], 0) := by decide +kernel
theorem m7 : houseB.spanM 1 111 = (⟨0, 0⟩, 10) := by decide +kernel
theorem m8 : houseB.spanM 3 20 = (⟨0, 0⟩, 2) := by decide +kernel
theorem m9 : houseB.bestM 1 1001 = ([], 2) := by decide +kernel
theorem m10 : houseB.heldM [2, 1] = ([], 2) := by decide +kernel
theorem m11 : houseB.suspM = ([], 7) := by decide +kernel
theorem mp1 : houseB.proveM 2 30 [1, 2] = true := by decide +kernel
theorem mp2 : houseB.proveM 2 30 [2] = false := by decide +kernel
theorem mp3 : houseB.proveM 2 30 [] = false := by decide +kernel
theorem mp4 : houseB.proveM 0 5 [] = true := by decide +kernel
theorem mf1 : oddB.fault = 1 := by decide +kernel
theorem mf2 : twiceB.fault = 6 := by decide +kernel
theorem mf3 : nineB.fault = 3 := by decide +kernel
theorem mb1 : bentB.spanM 0 5 = (⟨0, 0⟩, 9) := by decide +kernel
theorem mb2 : bentB.suspM = ([1, 3], 0) := by decide +kernel
theorem prove0_c (b : Bk) (hi : b.items.length ≤ 1000) (hc : b.certs.length ≤ 1000) (item day : Int) : Gives Try.prog 46 [b.pv, .int .i64 item, .int .i64 day, .emp (some true)] (.bool (b.proveM item day [])) := by
  have h := prove_c b hi hc item day [] (Nat.zero_le _)
  refine CallsA.weakArgs (xs := [b.pv, .int .i64 item, .int .i64 day, .emp (some true)]) (ys := [b.pv, .int .i64 item, .int .i64 day, .lst false 1 []]) h rfl ?_
  intro j x y m v h1 h2 hr
  match j with
  | 0 => simp at h1 h2; subst h1 h2; exact hr
  | 1 => simp at h1 h2; subst h1 h2; exact hr
  | 2 => simp at h1 h2; subst h1 h2; exact hr
  | 3 => simp at h1 h2; subst h1 h2; exact emp_lst hr
  | j + 4 => simp at h1
theorem check0_c (l : List It) (hi : l.length ≤ 1000) : Gives Try.prog 40 [.agg [itsP l, .emp (some true)]] (.int .i64 (Bk.fault ⟨l, []⟩)) := by
  have h := checkbook_c ⟨l, []⟩ hi (Nat.zero_le _)
  refine CallsA.weakArgs (xs := [.agg [itsP l, .emp (some true)]]) (ys := [Bk.pv ⟨l, []⟩]) h rfl ?_
  intro j x y m v h1 h2 hr
  match j with
  | 0 =>
    simp at h1 h2; subst h1 h2
    refine agg_wk (cs := [itsP l, .emp (some true)]) rfl ?_ hr
    intro j c c' d k1 k2 hd
    match j with
    | 0 => simp at k1 k2; subst k1 k2; exact hd
    | 1 => simp [ctsP] at k1 k2; subst k1 k2; exact emp_lst hd
    | j + 2 => simp at k1
  | j + 1 => simp at h1
attribute [local simp] AS.exp expG Box.ren AV.map AV.mapL outsOk noRet Site.isRet Box.allS AV.allS AV.allSL retB dropL AS.adds renL outG outOk lentBx inG fnOf lookA List.findIdx?_cons
attribute [local simp] Box.purge Site.isLoc
section
set_option maxHeartbeats 16000000 in
theorem house_b : CallsA Try.prog 49 [] [] (fun r B => r = .agg [.vec (.ret 0) 4 0 3, .vec (.ret 1) 7 0 4] ∧ B = [(.ret 0, .arr 103 4 (houseB.items.map It.pv)), (.ret 1, .arr 90 7 (houseB.certs.map Ct.pv))]) := by
  refine calls_of_awpB [.loc 6 0, .loc 15 0] mixed L49_ok (Nat.le_of_ble_eq_true rfl) ?_
  have h1 := house1_c 4 1 2 40 30 0 9
  have h2 := house1_c 1 1 0 10 100 5 7
  have h3 := house1_c 2 2 1 20 50 (-3) (-1)
  have h4 := house1_c 3 2 0 30 200 0 20
  simp [-getElem?_pos, L49]
  refine call_gives (k := 0) (fs := []) (xs := [.int .i64 4, .int .i64 1, .int .i64 2, .int .i64 40, .int .i64 30, .int .i64 0, .int .i64 9]) (cs := []) rfl rfl h1 rfl ?_
  simp [-getElem?_pos, Ct.pv]
  refine call_gives (k := 0) (fs := []) (xs := [.int .i64 1, .int .i64 1, .int .i64 0, .int .i64 10, .int .i64 100, .int .i64 5, .int .i64 7]) (cs := []) rfl rfl h2 rfl ?_
  simp [-getElem?_pos, Ct.pv]
  refine call_gives (k := 0) (fs := []) (xs := [.int .i64 2, .int .i64 2, .int .i64 1, .int .i64 20, .int .i64 50, .int .i64 (-3), .int .i64 (-1)]) (cs := []) rfl rfl h3 rfl ?_
  simp [-getElem?_pos, Ct.pv]
  refine call_gives (k := 0) (fs := []) (xs := [.int .i64 3, .int .i64 2, .int .i64 0, .int .i64 30, .int .i64 200, .int .i64 0, .int .i64 20]) (cs := []) rfl rfl h4 rfl ?_
  simp [-getElem?_pos, Ct.pv]
  simp [houseB, It.pv, Ct.pv]
end
attribute [local simp] retFz frzL AS.frz AV.frz AV.frzL Box.frz AS.tidy AS.frzC
set_option maxHeartbeats 64000000 in
theorem names_law : Gives Try.prog 16 [] (.bool true) := by
  have hw := wakes_c
  have hi : houseB.items.length ≤ 1000 := by decide
  have hc : houseB.certs.length ≤ 1000 := by decide
  have hho := house_c
  have hhb := house_b
  have v1 := Held0_c houseB hi hc
  have v2 := Hung_c houseB hi hc [3] (by decide)
  have v3 := Span_c houseB hi hc 1 20
  have v4 := Span_c houseB hi hc 2 20
  have v5 := Best_c houseB hi hc 2 30
  have v6 := Best_c houseB hi hc 0 5
  have v7 := Span_c houseB hi hc 1 111
  have v8 := Span_c houseB hi hc 3 20
  have v9 := Best_c houseB hi hc 1 1001
  have v10 := Held_c houseB hi hc [2, 1] (by decide)
  have v11 := Suspects_c houseB hi hc
  have p1 := prove_c houseB hi hc 2 30 [1, 2] (by decide)
  have p2 := prove_c houseB hi hc 2 30 [2] (by decide)
  have p3 := prove0_c houseB hi hc 2 30
  have p4 := prove0_c houseB hi hc 0 5
  have i1 := ints_c [1, 2, 3, 4] [1, 2, 3, 4] (by decide)
  have i2 := ints_c [3] [3] (by decide)
  have i3 := ints_c [1, 3] [1, 3] (by decide)
  rw [decide_eq_true rfl] at i1 i2 i3
  rw [m1] at v1
  rw [m2] at v2
  rw [m3] at v3
  rw [m4] at v4
  rw [m5] at v5
  rw [m6] at v6
  rw [m7] at v7
  rw [m8] at v8
  rw [m9] at v9
  rw [m10] at v10
  rw [m11] at v11
  rw [mp1] at p1
  rw [mp2] at p2
  rw [mp3] at p3
  rw [mp4] at p4
  have c1 := checkbook_c oddB (by decide) (by decide)
  have c2 := checkbook_c twiceB (by decide) (by decide)
  have c3 := check0_c nineB.items (by decide)
  have s1 := Span_c bentB (by decide) (by decide) 0 5
  have s2 := Suspects_c bentB (by decide) (by decide)
  rw [mf1] at c1
  rw [mf2] at c2
  rw [show Bk.fault ⟨nineB.items, []⟩ = 3 from mf3] at c3
  rw [mb1] at s1
  rw [mb2] at s2
  unfold lstE at v1 v2 v5 v6 v9 v10 v11 s2
  unfold spanE Cr.pv at v3 v4 v7 v8 s1
  simp only [List.map_nil] at v1 v2 v3 v4 v5 v6 v7 v8 v9 v10 v11 s1 s2
  obtain ⟨H, hH⟩ : ∃ z, z = houseB.pv := ⟨_, rfl⟩
  rw [← hH] at hho v1 v2 v3 v4 v5 v6 v7 v8 v9 v10 v11 p1 p2 p3 p4
  clear hH hi hc
  refine calls_of_awpS mixed L16_ok (Nat.le_of_ble_eq_true rfl) ?_
  simp [-getElem?_pos, L16]
  refine .inl (call_pv [] (fs := []) (xs := []) (cs := []) rfl rfl hho ?_)
  simp [-getElem?_pos, frzsL]
  refine .inl (call_pv [] (fs := []) (xs := [H, .emp (some true)]) (cs := []) rfl rfl v1 ?_)
  simp [-getElem?_pos, frzsL]
  refine .inl (call_pv [] (fs := []) (xs := []) (cs := []) rfl rfl hho ?_)
  simp [-getElem?_pos, frzsL]
  refine .inl (call_pv [.loc 25 0] (fs := []) (xs := [H, .lst false 1 ([3].map intP)]) (cs := []) rfl ?_ v2 ?_)
  · simp [frzsL, intP]
  simp [-getElem?_pos, frzsL]
  refine .inl (call_pv [] (fs := []) (xs := []) (cs := []) rfl rfl hho ?_)
  simp [-getElem?_pos, frzsL]
  refine .inl (call_pv [] (fs := []) (xs := [H, .int .i64 1, .int .i64 20]) (cs := []) rfl rfl v3 ?_)
  simp [-getElem?_pos, frzsL]
  refine .inl (call_pv [] (fs := []) (xs := []) (cs := []) rfl rfl hho ?_)
  simp [-getElem?_pos, frzsL]
  refine .inl (call_pv [] (fs := []) (xs := [H, .int .i64 2, .int .i64 20]) (cs := []) rfl rfl v4 ?_)
  simp [-getElem?_pos, frzsL]
  refine .inl (call_pv [] (fs := []) (xs := []) (cs := []) rfl rfl hho ?_)
  simp [-getElem?_pos, frzsL]
  refine .inl (call_pv [] (fs := []) (xs := [H, .int .i64 2, .int .i64 30]) (cs := []) rfl rfl v5 ?_)
  simp [-getElem?_pos, frzsL]
  refine .inl (call_pv [] (fs := []) (xs := []) (cs := []) rfl rfl hho ?_)
  simp [-getElem?_pos, frzsL]
  refine .inl (call_pv [] (fs := []) (xs := [H, .int .i64 0, .int .i64 5]) (cs := []) rfl rfl v6 ?_)
  simp [-getElem?_pos, frzsL]
  refine .inl (call_pv [.loc 53 0] (fs := []) (xs := [.lst false 1 ([1, 2, 3, 4].map intP), .lst false 1 ([1, 2, 3, 4].map intP)]) (cs := []) rfl ?_ i1 ?_)
  · simp [frzsL, intP]
  simp [-getElem?_pos, frzsL]
  refine .inl (call_pv [.loc 90 0] (fs := []) (xs := [.lst false 1 ([3].map intP), .lst false 1 ([3].map intP)]) (cs := []) rfl ?_ i2 ?_)
  · simp [frzsL, intP]
  simp [-getElem?_pos, frzsL]
  refine .inl (call_pv [] (fs := []) (xs := []) (cs := []) rfl rfl hho ?_)
  simp [-getElem?_pos, frzsL]
  refine .inl (call_pv [.loc 105 0] (fs := []) (xs := [H, .int .i64 2, .int .i64 30, .lst false 1 ([1, 2].map intP)]) (cs := []) rfl ?_ p1 ?_)
  · simp [frzsL, intP]
  simp [-getElem?_pos, frzsL]
  refine .inl (call_pv [] (fs := []) (xs := []) (cs := []) rfl rfl hho ?_)
  simp [-getElem?_pos, frzsL]
  refine .inl (call_pv [.loc 111 0] (fs := []) (xs := [H, .int .i64 2, .int .i64 30, .lst false 1 ([2].map intP)]) (cs := []) rfl ?_ p2 ?_)
  · simp [frzsL, intP]
  simp [-getElem?_pos, frzsL]
  refine .inl (call_pv [] (fs := []) (xs := []) (cs := []) rfl rfl hho ?_)
  simp [-getElem?_pos, frzsL]
  refine .inl (call_pv [] (fs := []) (xs := [H, .int .i64 2, .int .i64 30, .emp (some true)]) (cs := []) rfl rfl p3 ?_)
  simp [-getElem?_pos, frzsL]
  refine .inl (call_pv [] (fs := []) (xs := []) (cs := []) rfl rfl hho ?_)
  simp [-getElem?_pos, frzsL]
  refine .inl (call_pv [] (fs := []) (xs := [H, .int .i64 0, .int .i64 5, .emp (some true)]) (cs := []) rfl rfl p4 ?_)
  simp [-getElem?_pos, frzsL]
  refine .inl (call_pv [] (fs := []) (xs := []) (cs := []) rfl rfl hho ?_)
  simp [-getElem?_pos, frzsL]
  refine .inl (call_pv [] (fs := []) (xs := [H, .int .i64 1, .int .i64 111]) (cs := []) rfl rfl v7 ?_)
  simp [-getElem?_pos, frzsL]
  refine .inl (call_pv [] (fs := []) (xs := []) (cs := []) rfl rfl hho ?_)
  simp [-getElem?_pos, frzsL]
  refine .inl (call_pv [] (fs := []) (xs := [H, .int .i64 3, .int .i64 20]) (cs := []) rfl rfl v8 ?_)
  simp [-getElem?_pos, frzsL]
  refine .inl (call_pv [] (fs := []) (xs := []) (cs := []) rfl rfl hho ?_)
  simp [-getElem?_pos, frzsL]
  refine .inl (call_pv [] (fs := []) (xs := [H, .int .i64 1, .int .i64 1001]) (cs := []) rfl rfl v9 ?_)
  simp [-getElem?_pos, frzsL]
  refine .inl (call_pv [] (fs := []) (xs := []) (cs := []) rfl rfl hho ?_)
  simp [-getElem?_pos, frzsL]
  refine .inl (call_pv [.loc 140 0] (fs := []) (xs := [H, .lst false 1 ([2, 1].map intP)]) (cs := []) rfl ?_ v10 ?_)
  · simp [frzsL, intP]
  simp [-getElem?_pos, frzsL]
  refine .inl (call_pv [] (fs := []) (xs := []) (cs := []) rfl rfl hho ?_)
  simp [-getElem?_pos, frzsL]
  refine .inl (call_pv [] (fs := []) (xs := [H]) (cs := []) rfl rfl v11 ?_)
  simp [-getElem?_pos, frzsL]
  refine call_lent (as' := []) (B := []) (fs := []) (cs := []) 149 [] ?_ rfl rfl rfl ?_ ?_ hhb ?_
  · rfl
  · rfl
  · rfl
  rintro r0 B0 ⟨rfl, rfl⟩
  refine ⟨rfl, by simp, ?_⟩
  simp [-getElem?_pos, nble, nblt, setAt]
  refine call_lent (as' := []) (B := []) (fs := []) (cs := []) 150 [] ?_ rfl rfl rfl ?_ ?_ hhb ?_
  · rfl
  · rfl
  · rfl
  rintro r0 B0 ⟨rfl, rfl⟩
  refine ⟨rfl, by simp, ?_⟩
  simp [-getElem?_pos, nble, nblt, setAt]
  refine call_lent (as' := []) (B := []) (fs := []) (cs := []) 151 [] ?_ rfl rfl rfl ?_ ?_ hhb ?_
  · rfl
  · rfl
  · rfl
  rintro r0 B0 ⟨rfl, rfl⟩
  refine ⟨rfl, by simp, ?_⟩
  simp [-getElem?_pos, nble, nblt, setAt, houseB, It.pv, Ct.pv]
  refine .inl (call_pv [.loc 151 0, .loc 151 1] (fs := []) (xs := [bentB.pv, .int .i64 0, .int .i64 5]) (cs := []) rfl ?_ s1 ?_)
  · simp [frzsL, intP, setAt, houseB, bentB, oddB, twiceB, nineB, Bk.pv, itsP, ctsP, It.pv, Ct.pv]
  simp [-getElem?_pos, frzsL]
  refine .inl (call_pv [] (fs := []) (xs := [bentB.pv]) (cs := []) rfl ?_ s2 ?_)
  · simp [frzsL, intP, setAt, houseB, bentB, oddB, twiceB, nineB, Bk.pv, itsP, ctsP, It.pv, Ct.pv]
  simp [-getElem?_pos, frzsL, intP]
  refine call_gives (k := 1) (fs := []) (xs := [oddB.pv]) (cs := []) rfl ?_ c1 rfl ?_
  · simp [snapW, AV.snap, AV.snap0, setAt, houseB, bentB, oddB, twiceB, nineB, Bk.pv, itsP, ctsP, It.pv, Ct.pv, List.replicate]
  simp [-getElem?_pos, frzsL]
  refine call_gives (k := 1) (fs := []) (xs := [twiceB.pv]) (cs := []) rfl ?_ c2 rfl ?_
  · simp [snapW, AV.snap, AV.snap0, setAt, houseB, bentB, oddB, twiceB, nineB, Bk.pv, itsP, ctsP, It.pv, Ct.pv, List.replicate]
  simp [-getElem?_pos, frzsL]
  refine call_gives (k := 1) (fs := []) (xs := [.agg [itsP nineB.items, .emp (some true)]]) (cs := []) rfl ?_ c3 rfl ?_
  · simp [snapW, AV.snap, AV.snap0, setAt, houseB, bentB, oddB, twiceB, nineB, Bk.pv, itsP, ctsP, It.pv, Ct.pv, List.replicate]
  simp [-getElem?_pos, frzsL]
  refine .inl (call_pv [.loc 221 0] (fs := []) (xs := [.lst false 1 ([1, 3].map intP), .lst false 1 ([1, 3].map intP)]) (cs := []) rfl ?_ i3 ?_)
  · simp [frzsL, intP]
  simp [-getElem?_pos, frzsL]
  refine call_gives (k := 0) (fs := []) (xs := []) (cs := []) rfl rfl hw rfl ?_
  simp [-getElem?_pos]
end Go.Proofs.Ytcgdopjmbadonaa

/-! The statement ChainNames holds: the law answers true. No conditions. -/
namespace Go.Proofs.Ytcgdopjmbadonaa
open Go.ChangeShapes Go.WideShapes Go.ChangeAt Go.RowKit

set_option maxRecDepth 100000 in
theorem walkChainNames (W : World) :
    Calls Try.prog 16 #[] W fun e w' => e = .returned (.bool true) ∧ Keep [] W w' := by
  refine calls_bool (xs := []) (b := true) ((names_law).mono (fun _ _ h => h.1)) rfl (fun j v x e1 e2 => ?_)
  match j with
  | j => simp at e1
set_option maxRecDepth 100000 in
theorem liftedChainNames (os : Os) (started : os.Started) (H : Type) (enc : TypeId × Value → H) :
    ReturnsInHanded {} Try.checked os 16 .any (Rows.chainNamesSpec.pre6 enc Try.prog Try.f16 Rows.chainNamesRow.domain false) (Rows.chainNamesSpec.post enc Try.prog Try.f16 false true false false) := by
  refine returnsInHanded_of_change (C := Try.checked) own started (by kernel_rfl) Try.func16
    (ChangeSpec.witness6 (enc := enc) (C := Try.checked) false ⟨#[], #[], []⟩ 8 (by kernel_rfl) (by kernel_rfl) (by kernel_rfl) (by kernel_rfl)) ?_
  intro W base args ds gs before hval0 hW hcnd _
  have hval : ∀ (j : Nat) t v, Try.f16.params[j]? = some t → args[j]? = some v → Value.okWide Try.prog W .any base t v := hval0
  have hW' := hW
  obtain ⟨p, q, hA0, hV, rfl, hfz, hnd⟩ := hW
  have hA : DataW.TrodAll enc Try.prog W 0 (fun _ => true) true Try.f16.params.toList args.toList ds p := hA0
  rw [Try.params16] at hA hval
  obtain ⟨rfl, rfl, rfl⟩ := trodAll_none hA
  obtain ⟨rfl, rfl⟩ := trodVars_none hV
  refine (walkChainNames W).mono fun e W' ⟨he, hk⟩ => ?_
  subst he
  exact ⟨_, rfl, post_law (tb := 4) laidP rowedP fullP (by decide +kernel) rfl rfl rfl Try.underlying4 hW' hk⟩
theorem overChainNames : Rows.chainNamesRow.holds Try.pinned (OpenSpec.ofChange Rows.chainNamesSpec) :=
  OpenClaim.holds_of_wide 16 Try.f16 rfl rfl rfl rfl rfl rfl rfl ⟨rfl, rfl, rfl, rfl, rfl⟩ rfl rfl rfl rfl rfl (by kernel_rfl) Try.func16 (by kernel_rfl)
    (of_decide_eq_true (by kernel_rfl)) (by unfold Func.isWrapper; first | (rw [if_pos (by decide +kernel)]; kernel_rfl) | (rw [if_neg (by decide +kernel)]; exact ⟨rfl, rfl⟩))
    (fun os started H enc _ => liftedChainNames os started H enc)
theorem provedChainNames : Rows.ChainNamesSaid := overChainNames
end Go.Proofs.Ytcgdopjmbadonaa
