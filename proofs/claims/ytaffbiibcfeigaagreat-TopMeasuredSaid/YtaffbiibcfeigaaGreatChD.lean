/- Contracts of layer 2 (chain): asked. (Several texts in one.) -/
import Derived.Test.YtaffbiibcfeigaaGreatChC
set_option linter.unusedVariables false
set_option linter.unusedSimpArgs false
/-! Contracts of layer 2 (chain): asked. -/
namespace Go.Proofs.YtaffbiibcfeigaaGreat
open Go.RowKit
set_option maxRecDepth 10000
set_option linter.unusedSimpArgs false
attribute [local irreducible] Bk.held Bk.nums
theorem cok58 : COk Tryz.prog (tyOf tys) L50.code := litF_ok L50_ok L50_tab
noncomputable def askX (b : Bk) (bad : List Int) (es hs : List (PV × PV)) (is : Bool) : List Box := [.loop (rcode Tryz.prog 50 0) [49] 61 [(11, .ptr (.par 2) 0), (12, .ptr (.par 1) 0)] none,
  .cells [.pv (.bool is)], .cells [.mp (.par 3)], .map hs, capB (.par 5), .cells (wkC b (.par 6) (badZ bad)), .map es]
attribute [local simp] AS.exp expG Box.ren AV.map AV.mapL outsOk noRet Site.isRet Box.allS AV.allS AV.allSL retB dropL AS.adds renL outG outOk lentBx inG fnOf lookA List.findIdx?_cons
section
attribute [local simp] Box.purge Site.isLoc
set_option maxHeartbeats 8000000 in
noncomputable def askC (b : Bk) (bad : List Int) (es hs : List (PV × PV)) (H : Int → Bool) (hH : HMap H hs) : Cons Tryz.prog where
  m := 7
  S := Bool
  X := askX b bad es hs
  step is x := (is || H (numOf x), true)
  good x := ∃ c : Ct, x = c.pv
  live _ := True
  m0 := by omega
  len _ := rfl
  cl c := by
    intro bx hb
    simp only [askX, List.mem_cons, List.not_mem_nil, or_false] at hb
    rcases hb with rfl | rfl | rfl | rfl | rfl | rfl | rfl
    · rfl
    · rfl
    · rfl
    · rfl
    · rfl
    · simp [wkC, Site.lt, badZ_all]
    · rfl
  goes _ _ _ _ _ := trivial
  yields c x hc hx := by
    obtain ⟨y, rfl⟩ := hx
    have hcok : COk Tryz.prog (tyOf tys) (.rng 61 (.t 48) (rcode Tryz.prog 50 0) Y50_0a Y50_0b [49]) := cok58.2.2.2.2.2.2.1.2
    have hf := hH.f y.num
    have hk := hH.k
    refine yields_of_awpS mixed hcok.1 hcok.2.1 rfl rfl (by simp) rfl ?_
    cases c
    all_goals
      simp [-getElem?_pos, Y50_0a, Y50_0b, askX, laid, putL, Ct.pv, hk, hf, numOf, capB, wkC, badZ_purge, badZ_has]
      exact ⟨[], [.par 1, .par 2, .par 3, .par 4, .par 5, .par 6], rfl, rfl, by simp [frzL, badZ_all], rfl, by simp [frzL, badZ_map]⟩
end
theorem askC_run {b : Bk} {bad : List Int} {es hs : List (PV × PV)} {H : Int → Bool} {hH : HMap H hs} : ∀ (l : List Ct) (c : Bool), (askC b bad es hs H hH).run c (ctsV l) = (c || l.any (fun o => H o.num), true)
  | [], c => by
    show (c, true) = _
    simp
  | x :: l, c => by
    show (askC b bad es hs H hH).run (c || H x.num) (ctsV l) = _
    rw [askC_run l, List.any_cons, Bool.or_assoc]
/-- Is an item held on a day? -/
def Bk.isHeld (b : Bk) (item day : Int) : Bool := (b.item item).std || (b.ofL item day 1000).any fun o => (b.held []).contains o.num
/-- The error of a book in which an item is asked for. -/
def Bk.askM (b : Bk) (item day : Int) : Int := if b.fault = 0 then (if (b.hasItem item && inB day 0 1000) = true then (if b.isHeld item day = true then 0 else 10) else 2) else b.fault
def askR (b : Bk) (item day : Int) (r : AV) (B : List (Site × Box)) : Prop :=
  (b.askM item day ≠ 0 ∧ r = .pv (.tup [.nilp, .nilmap, .int .i64 (b.askM item day)]) ∧ B = []) ∨
  (b.askM item day = 0 ∧ b.fault = 0 ∧ b.hasItem item = true ∧ inB day 0 1000 = true ∧ b.isHeld item day = true ∧ ∃ es, CMap b es ∧ r = .tup [.ptr (.ret 0) 0, .mp (.ret 2), .pv (.int .i64 0)] ∧ B = [(.ret 0, .cells (wkC b (.ret 1) (badZ []))), (.ret 1, .map es), (.ret 2, .map (hEnt b [] b.nums.length))])
attribute [local simp] Box.purge Site.isLoc
attribute [local simp] badZ_has badZ_all badZ_purge badZ_map badZ_frz
set_option maxHeartbeats 16000000 in
theorem asked_c (b : Bk) (hi : b.items.length ≤ 1000) (hc : b.certs.length ≤ 1000) (item day : Int) : CallsA Tryz.prog 50 [.pv b.pv, .pv (.int .i64 item), .pv (.int .i64 day)] [] (askR b item day) := by
  have hr := read_c b hi hc
  refine calls_of_awpE mixed L50_ok (Nat.le_of_ble_eq_true rfl) ?_
  generalize hR : askR b item day = R
  have rerr : ∀ e, b.askM item day = e → e ≠ 0 → R (.pv (.tup [.nilp, .nilmap, .int .i64 e])) [] := fun e h h0 => by
    rw [← hR]; exact .inl ⟨by rw [h]; exact h0, by rw [h], rfl⟩
  simp [-getElem?_pos, L50, Bk.pv]
  refine call_lent (as' := [.pv b.pv]) (B := []) (fs := []) (cs := []) 16 [] ?_ rfl rfl rfl ?_ ?_ hr ?_
  · rfl
  · rfl
  · rfl
  rintro r0 B0 (⟨h0, rfl, rfl⟩ | ⟨h0, es, hes, rfl, rfl⟩)
  · refine ⟨rfl, by simp, ?_⟩
    have hd : decide (b.fault = 0) = false := by simpa using h0
    have h2 := rerr _ (by unfold Bk.askM; rw [if_neg h0]) h0
    simp [-getElem?_pos, -decide_eq_true_eq, -decide_eq_false_iff_not, hd, -retB]
    exact ⟨[], by simpa using h2⟩
  have hb : b.ok := Bk.ok_iff.1 h0
  refine ⟨rfl, by simp [wkC, badZ_nil], ?_⟩
  simp [-getElem?_pos, -List.getElem?_map, wkC, badZ_nil, -retB]
  refine call_gives (k := 0) (fs := []) (xs := [b.pv, .int .i64 item]) (cs := []) rfl rfl (item_c b item hi) rfl ?_
  cases e1 : b.hasItem item
  · have h2 := rerr 2 (by unfold Bk.askM; rw [if_pos h0, e1]; rfl) (by omega)
    simp [-getElem?_pos, -List.getElem?_map, -retB]
    exact ⟨[], by simpa using h2⟩
  simp [-getElem?_pos, -List.getElem?_map, -retB]
  refine call_gives (k := 0) (fs := []) (xs := [.int .i64 day]) (cs := []) rfl rfl (day_c day) rfl ?_
  cases e2 : inB day 0 1000
  · have h2 := rerr 2 (by unfold Bk.askM; rw [if_pos h0, e1, e2]; rfl) (by omega)
    simp [-getElem?_pos, -List.getElem?_map, -retB]
    exact ⟨[], by simpa using h2⟩
  simp [-getElem?_pos, -List.getElem?_map, -retB]
  refine call_lent (as' := [.ptr (.par 0) 0]) (B := laid 0 (wkB b [] es)) (fs := []) (cs := []) 35 [.loc 16 0, .loc 16 1] ?_ rfl rfl ?_ ?_ ?_ (held_c b hb [] es hes) ?_
  · rfl
  · simp [laid, wkB, wkC]
  · rfl
  · rfl
  rintro r0 B0 ⟨rfl, rfl⟩
  refine ⟨rfl, by simp [laid, wkB, wkC], ?_⟩
  have hH := hEnt_full hb []
  have hrok : b.isHeld item day = true → R (.tup [.ptr (.ret 0) 0, .mp (.ret 2), .pv (.int .i64 0)]) [(.ret 0, .cells (wkC b (.ret 1) (badZ []))), (.ret 1, .map es), (.ret 2, .map (hEnt b [] b.nums.length))] := fun h => by
    rw [← hR]
    refine .inr ⟨?_, h0, e1, e2, h, es, hes, rfl, rfl⟩
    unfold Bk.askM; rw [if_pos h0, e1, e2, if_pos (show (true && true) = true from rfl), if_pos h]
  have hrno : b.isHeld item day = false → R (.pv (.tup [.nilp, .nilmap, .int .i64 10])) [] := fun h => by
    refine rerr 10 ?_ (by omega)
    unfold Bk.askM; rw [if_pos h0, e1, e2, if_pos (show (true && true) = true from rfl), if_neg (by simp [h])]
  generalize hEnt b [] b.nums.length = hs at *
  have hii : 0 ≤ item ∧ item < b.items.length := by
    unfold Bk.hasItem inB at e1
    simp only [Bool.and_eq_true, decide_eq_true_eq] at e1
    omega
  obtain ⟨si, rfl⟩ : ∃ si : Nat, item = si := ⟨item.toNat, by omega⟩
  have hsi : si < b.items.length := by omega
  obtain ⟨z, hz⟩ : ∃ z, b.items[si]? = some z := ⟨b.items[si], List.getElem?_eq_getElem hsi⟩
  have hgz : (b.items.map It.pv)[si]? = some (.agg [.int .i64 z.drift, .bool z.std, .int .i64 z.val.lo, .int .i64 z.val.hi]) := by rw [List.getElem?_map, hz]; rfl
  have hzi : b.item (si : Int) = z := by unfold Bk.item; rw [Int.toNat_natCast, hz]; rfl
  have hIH : b.isHeld si day = (z.std || (b.ofL si day 1000).any fun o => (b.held []).contains o.num) := by unfold Bk.isHeld; rw [hzi]
  have hrun := fun is : Bool => askC_run (b := b) (bad := []) (es := es) (hH := hH) (b.ofL si day 1000) is
  have hit := fun is : Bool => iter_c (askC b [] es hs _ hH) b hb [] es hes 4 5 6 (fun c _ => ⟨rfl, rfl⟩) (fun c _ => rfl) si day 1000 is trivial (fun z hz => ⟨z, rfl⟩)
  simp only [hrun] at hit
  generalize hAN : ((b.ofL si day 1000).any fun n => (b.held []).contains n.num) = an at *
  have hit' := hit z.std
  clear hit
  simp [-getElem?_pos, -List.getElem?_map, laid, wkB, wkC, itsP, hgz, hsi, -retB]
  refine call_lent (as' := [.ptr (.par 0) 0, .pv (.int .i64 si), .pv (.int .i64 day), .pv (.int .i64 1000)]) (B := laid 0 (wkB b [] es)) (fs := []) (cs := []) 48 [.loc 16 0, .loc 16 1] ?_ rfl rfl ?_ ?_ ?_ (of_c b [] es si day 1000) ?_
  · rfl
  · simp [laid, wkB, wkC, itsP]
  · rfl
  · rfl
  rintro r0 B0 ⟨rfl, rfl⟩
  refine ⟨rfl, by simp [laid, wkB, wkC], ?_⟩
  simp [-getElem?_pos, -List.getElem?_map, laid, wkB, wkC, ofF, -retB]
  refine rng_lent [.loc 61 0, .loc 12 0, .loc 11 0, .loc 35 0, .loc 48 0, .loc 16 0, .loc 16 1] [(11, .ptr (.loc 11 0) 0), (12, .ptr (.loc 12 0) 0)] (gf := 142) (fs := []) (cs := [.ptr (.loc 48 0) 0, .pv (.ref [.int .i64 1000]), .pv (.ref [.int .i64 si]), .pv (.ref [.int .i64 day])]) ?_ ?_ rfl rfl ?_ ?_ ?_ hit' ?_
  · rfl
  · simp
  · simp [askC, askX, laid, wkC, capB]
  · rfl
  · rfl
  rintro r B' ⟨rfl, rfl⟩
  refine ⟨rfl, ?_, ?_⟩
  · exact fun p hp => laid_ok (n := 7) (L := askX b [] es hs (z.std || an)) (by simp [askX]) ((askC b [] es hs _ hH).cl (z.std || an)) p hp
  refine ⟨_, _, _, _, _, rfl, ?_⟩
  cases hIS : (z.std || an)
  · rw [hIS] at hIH
    have h2 := hrno hIH
    simp [-getElem?_pos, -List.getElem?_map, askC, askX, laid, jumpQ, wkC, capB, -retB, hIS]
    exact ⟨[], by simpa using h2⟩
  · rw [hIS] at hIH
    have h2 := hrok hIH
    simp [-getElem?_pos, -List.getElem?_map, askC, askX, laid, jumpQ, wkC, capB, -retB, hIS]
    refine ⟨[.loc 16 0, .loc 16 1, .loc 35 0], ?_⟩
    simpa [wkC] using h2
end Go.Proofs.YtaffbiibcfeigaaGreat
/-! Contracts of layer 2 (chain): holding, span. -/
namespace Go.Proofs.YtaffbiibcfeigaaGreat
open Go.RowKit
set_option maxRecDepth 10000
set_option linter.unusedSimpArgs false
attribute [local irreducible] Bk.held Bk.nums
/-- A book whose spans are worked. -/
def spB (b : Bk) (es hs ss : List (PV × PV)) : List Box := [.cells [.ptr (.par 3) 0, .mp (.par 1), .mp (.par 2)], .map hs, .map ss, .cells (wkC b (.par 4) (badZ [])), .map es]
attribute [local simp] AS.exp expG Box.ren AV.map AV.mapL outsOk noRet Site.isRet Box.allS AV.allS AV.allSL retB dropL AS.adds renL outG outOk lentBx inG fnOf lookA List.findIdx?_cons
attribute [local simp] Box.purge Site.isLoc
attribute [local simp] badZ_has badZ_all badZ_purge badZ_map badZ_frz
theorem holding_c (b : Bk) (es hs ss : List (PV × PV)) (H : Int → Bool) (hH : HMap H hs) (c : Ct) : CallsA Tryz.prog 89 [.ptr (.par 0) 0, .pv c.pv] (laid 0 (spB b es hs ss)) (fun r B => r = .pv (.bool (H c.num)) ∧ B = laid 0 (spB b es hs ss)) := by
  have hf := hH.f c.num
  have hk := hH.k
  refine calls_of_awpB [.par 0, .par 1, .par 2, .par 3, .par 4] mixed L89_ok (Nat.le_of_ble_eq_true rfl) ?_
  simp [-getElem?_pos, L89, spB, laid, wkC, Ct.pv, hf, hk]
theorem cok61 : COk Tryz.prog (tyOf tys) L53.code := litF_ok L53_ok L53_tab
noncomputable def spnX (b : Bk) (es hs ss : List (PV × PV)) (item day : Int) (r : Cr) : List Box := [.loop (rcode Tryz.prog 53 0) [47] 79 [(4, .ptr (.par 2) 0), (5, .ptr (.par 3) 0), (6, .ptr (.par 4) 0), (9, .ptr (.par 5) 0), (10, .ptr (.par 1) 0)] none,
  .cells [.pv (.int .i64 r.lo), .pv (.int .i64 r.hi)], .cells [.ptr (.par 6) 0], .cells [.pv (.int .i64 item)], .cells [.pv (.int .i64 day)], .cells [.fn 89 [.ptr (.par 6) 0] []],
  .cells [.ptr (.par 9) 0, .mp (.par 7), .mp (.par 8)], .map hs, .map ss, .cells (wkC b (.par 10) (badZ [])), .map es, capB (.par 9)]
def ctOf : PV → Ct
  | .agg [.int _ n, .int _ i, .int _ s, .int _ d, .int _ v, .int _ lo, .int _ hi] => ⟨n, i, s, d, v, ⟨lo, hi⟩⟩
  | _ => ct0
theorem ctOf_pv (c : Ct) : ctOf c.pv = c := rfl
def zR : PV := .agg [.int .i64 0, .int .i64 0]
/-- The spans that are known. -/
structure SMap (b : Bk) (S : Int → Cr) (below : Int) (ss : List (PV × PV)) : Prop where
  k : keysOk kI ss = true
  f : ∀ c ∈ b.certs, c.num < below → c.num ∈ b.held [] → (findV (.int .i64 c.num) ss).getD zR = (S c.num).pv ∧ (S c.num).bdd 1000000000
def spStep (b : Bk) (S : Int → Cr) (item day : Int) (r : Cr) (c : Ct) : Cr := match (b.held []).contains c.num with
  | true => r.cut ((S c.num).wider ((b.item item).drift * (day - c.day)))
  | false => r
section
set_option maxHeartbeats 16000000 in
noncomputable def spnC (b : Bk) (hb : b.ok) (es hs ss : List (PV × PV)) (hH : HMap (fun n => (b.held []).contains n) hs) (S : Int → Cr) (si : Nat) (hsi : si < b.items.length) (day below : Int) (hd : 0 ≤ day ∧ day ≤ 1000) (hS : SMap b S below ss) : Cons Tryz.prog where
  m := 12
  S := Cr
  X := spnX b es hs ss si day
  step r x := (spStep b S si day r (ctOf x), true)
  good x := ∃ c ∈ b.ofL si day below, x = c.pv
  live _ := True
  m0 := by omega
  len _ := rfl
  cl c := by
    intro bx hb
    simp only [spnX, List.mem_cons, List.not_mem_nil, or_false] at hb
    rcases hb with rfl | rfl | rfl | rfl | rfl | rfl | rfl | rfl | rfl | rfl | rfl | rfl
    all_goals first | rfl | simp [wkC, Site.lt, badZ_all]
  goes _ _ _ _ _ := trivial
  yields r x hc hx := by
    obtain ⟨y, hy, rfl⟩ := hx
    rw [ctOf_pv]
    have hcok : COk Tryz.prog (tyOf tys) (.rng 79 (.t 46) (rcode Tryz.prog 53 0) Y53_0a Y53_0b [47]) := cok61.2.2.2.2.1.2
    have hcall := holding_c b es hs ss _ hH y
    obtain ⟨hyc, hyo⟩ := (mem_ofL hb).1 hy
    unfold Bk.ofB at hyo
    simp only [Bool.and_eq_true, decide_eq_true_eq] at hyo
    have hfar := far_bd hb hyc hyo.2.2
    have hbd := cert_bds hb hyc
    obtain ⟨z, hz⟩ : ∃ z, b.items[si]? = some z := ⟨b.items[si], List.getElem?_eq_getElem hsi⟩
    have hgz : (b.items.map It.pv)[si]? = some (.agg [.int .i64 z.drift, .bool z.std, .int .i64 z.val.lo, .int .i64 z.val.hi]) := by rw [List.getElem?_map, hz]; rfl
    have hzi : b.item (si : Int) = z := by unfold Bk.item; rw [Int.toNat_natCast, hz]; rfl
    rw [hyo.2.1, hzi] at hfar
    have w1 : IntKind.i64.wrap (day - y.day) = day - y.day := wrap64 (by omega)
    have w2 : IntKind.i64.wrap (z.drift * (day - y.day)) = z.drift * (day - y.day) := wrap64 (by omega)
    have hk := hS.k
    have hstep : spStep b S si day r y = match (b.held []).contains y.num with
      | true => r.cut ((S y.num).wider (z.drift * (day - y.day)))
      | false => r := by unfold spStep; rw [hzi]
    have hsf := fun h : (b.held []).contains y.num = true => hS.f y hyc hyo.1 (List.contains_iff_mem.1 h)
    rw [hstep]
    obtain ⟨far, hfe⟩ : ∃ far, z.drift * (day - y.day) = far := ⟨_, rfl⟩
    rw [hfe] at hfar hstep
    have w2' : IntKind.i64.wrap (z.drift * (day - y.day)) = far := w2.trans hfe
    rw [hfe]
    clear hstep w2 hfe
    generalize hcv : (b.held []).contains y.num = v at *
    refine yields_of_awpS mixed hcok.1 hcok.2.1 rfl rfl (by simp) rfl ?_
    simp [-getElem?_pos, -List.getElem?_map, Y53_0a, Y53_0b, spnX, laid, putL, Ct.pv, capB, wkC]
    refine call_lent (as' := [.ptr (.par 0) 0, .pv y.pv]) (B := laid 0 (spB b es hs ss)) (fs := [.ptr (.par 6) 0]) (cs := []) 50 [.par 6, .par 7, .par 8, .par 9, .par 10] ?_ rfl rfl ?_ ?_ ?_ hcall ?_
    · rfl
    · simp [laid, spB, wkC]
    · rfl
    · rfl
    rintro r0 B0 ⟨rfl, rfl⟩
    refine ⟨rfl, by simp [laid, spB, wkC], ?_⟩
    cases v
    · simp [-getElem?_pos, -List.getElem?_map, laid, spB, wkC, -retB]
      exact ⟨[], [.par 1, .par 2, .par 3, .par 4, .par 5, .par 6, .par 7, .par 8, .par 9, .par 10, .par 11], rfl, rfl, by simp [frzL], rfl, by simp [frzL, wkC]⟩
    · obtain ⟨hs1, hs2⟩ := hsf rfl
      unfold Cr.bdd at hs2
      have hwd := wider_c (S y.num) far (wrap64 (by omega)) (wrap64 (by omega)) (wrap64 (by omega))
      have hct := cut_c r ((S y.num).wider far)
      generalize S y.num = sy at *
      unfold zR at hs1
      unfold Cr.pv at hs1
      simp [-getElem?_pos, -List.getElem?_map, laid, spB, wkC, -retB, hk, hs1, itsP, hgz, hsi, w1, w2']
      refine call_pv [] (fs := []) (xs := [sy.pv, .int .i64 far]) (cs := []) rfl rfl hwd ?_
      simp [-getElem?_pos, -List.getElem?_map, frzsL]
      refine .inl (call_pv [] (fs := []) (xs := [r.pv, (sy.wider far).pv]) (cs := []) rfl rfl hct ?_)
      simp [-getElem?_pos, -List.getElem?_map, frzsL, Cr.pv]
      exact ⟨[], [.par 1, .par 2, .par 3, .par 4, .par 5, .par 6, .par 7, .par 8, .par 9, .par 10, .par 11], rfl, rfl, by simp [frzL], rfl, by simp [frzL, wkC, itsP]⟩
end
end Go.Proofs.YtaffbiibcfeigaaGreat
/-! Contracts of layer 2 (chain): span. -/
namespace Go.Proofs.YtaffbiibcfeigaaGreat
open Go.RowKit
set_option maxRecDepth 10000
set_option linter.unusedSimpArgs false
attribute [local irreducible] Bk.held Bk.nums
theorem spnC_run {b : Bk} {hb : b.ok} {es hs ss : List (PV × PV)} {hH : HMap (fun n => (b.held []).contains n) hs} {S : Int → Cr} {si : Nat} {hsi : si < b.items.length} {day below : Int} {hd : 0 ≤ day ∧ day ≤ 1000} {hS : SMap b S below ss} : ∀ (l : List Ct) (r : Cr), (spnC b hb es hs ss hH S si hsi day below hd hS).run r (ctsV l) = (l.foldl (spStep b S si day) r, true)
  | [], r => rfl
  | x :: l, r => by
    show (spnC b hb es hs ss hH S si hsi day below hd hS).run (spStep b S si day r x) (ctsV l) = _
    rw [spnC_run l]; rfl
theorem step_fold {b : Bk} {S : Int → Cr} {item day : Int} : ∀ (l : List Ct) (r : Cr), l.foldl (spStep b S item day) r = (l.filter fun c => (b.held []).contains c.num).foldl (fun r c => r.cut ((S c.num).wider ((b.item item).drift * (day - c.day)))) r
  | [], r => rfl
  | c :: l, r => by
    rw [List.foldl_cons, step_fold l, List.filter_cons]
    unfold spStep
    cases h : (b.held []).contains c.num
    · rfl
    · rfl
theorem fold_item {b : Bk} (hb : b.ok) {S : Int → Cr} {item day below : Int} (h : (b.item item).std = false) : (b.ofL item day below).foldl (spStep b S item day) everyR = b.itemSpan (b.held []) S item day below := by
  rw [step_fold, itemSpan_fold h]
  refine cut_same (fun c => ?_)
  rw [List.mem_filter, List.mem_filter, mem_ofL hb, Bool.and_eq_true]
  exact ⟨fun ⟨⟨h1, h2⟩, h3⟩ => ⟨h1, h2, h3⟩, fun ⟨h1, h2, h3⟩ => ⟨⟨h1, h2⟩, h3⟩⟩
attribute [local simp] AS.exp expG Box.ren AV.map AV.mapL outsOk noRet Site.isRet Box.allS AV.allS AV.allSL retB dropL AS.adds renL outG outOk lentBx inG fnOf lookA List.findIdx?_cons
attribute [local simp] Box.purge Site.isLoc
attribute [local simp] badZ_has badZ_all badZ_purge badZ_map badZ_frz
set_option maxHeartbeats 16000000 in
theorem span_c (b : Bk) (hb : b.ok) (es hs ss : List (PV × PV)) (hes : CMap b es) (hH : HMap (fun n => (b.held []).contains n) hs) (S : Int → Cr) (si : Nat) (hsi : si < b.items.length) (day below : Int) (hd : 0 ≤ day ∧ day ≤ 1000) (hS : SMap b S below ss) :
    CallsA Tryz.prog 53 [.ptr (.par 0) 0, .pv (.int .i64 si), .pv (.int .i64 day), .pv (.int .i64 below)] (laid 0 (spB b es hs ss)) (fun r B => r = .pv (b.itemSpan (b.held []) S si day below).pv ∧ B = laid 0 (spB b es hs ss)) := by
  refine calls_of_awpB [.par 0, .par 1, .par 2, .par 3, .par 4] mixed L53_ok (Nat.le_of_ble_eq_true rfl) ?_
  generalize hR : (fun (r : AV) (B : List (Site × Box)) => r = .pv (b.itemSpan (b.held []) S si day below).pv ∧ B = laid 0 (spB b es hs ss)) = R
  obtain ⟨z, hz⟩ : ∃ z, b.items[si]? = some z := ⟨b.items[si], List.getElem?_eq_getElem hsi⟩
  have hgz : (b.items.map It.pv)[si]? = some (.agg [.int .i64 z.drift, .bool z.std, .int .i64 z.val.lo, .int .i64 z.val.hi]) := by rw [List.getElem?_map, hz]; rfl
  have hzi : b.item (si : Int) = z := by unfold Bk.item; rw [Int.toNat_natCast, hz]; rfl
  rcases Bool.eq_false_or_eq_true z.std with hzs | hzs
  · have hv : b.itemSpan (b.held []) S si day below = z.val := by unfold Bk.itemSpan; rw [hzi, if_pos hzs]
    simp [-getElem?_pos, -List.getElem?_map, L53, laid, spB, wkC, itsP, hgz, hsi, hzs, -retB]
    rw [← hR, hv]
    simp [laid, spB, wkC, itsP, Cr.pv]
  have hv := fold_item hb (S := S) (item := (si : Int)) (day := day) (below := below) (by rw [hzi]; exact hzs)
  have hit := iter_c (spnC b hb es hs ss hH S si hsi day below hd hS) b hb [] es hes 11 9 10 (fun c _ => ⟨rfl, rfl⟩) (fun c _ => rfl) si day below everyR trivial (fun z hz => ⟨z, hz, rfl⟩)
  rw [spnC_run, hv] at hit
  have hcl := (spnC b hb es hs ss hH S si hsi day below hd hS).cl (b.itemSpan (b.held []) S si day below)
  generalize b.itemSpan (b.held []) S si day below = RES at *
  simp [-getElem?_pos, -List.getElem?_map, L53, laid, spB, wkC, itsP, hgz, hsi, hzs, -retB]
  refine .inl (call_pv [] (fs := []) (xs := []) (cs := []) rfl rfl everything_c ?_)
  simp [-getElem?_pos, -List.getElem?_map, frzsL, everyR, Cr.pv]
  refine call_lent (as' := [.ptr (.par 0) 0, .pv (.int .i64 si), .pv (.int .i64 day), .pv (.int .i64 below)]) (B := laid 0 (wkB b [] es)) (fs := []) (cs := []) 46 [.par 3, .par 4] ?_ rfl rfl ?_ ?_ ?_ (of_c b [] es si day below) ?_
  · rfl
  · simp [laid, wkB, wkC, itsP]
  · rfl
  · rfl
  rintro r0 B0 ⟨rfl, rfl⟩
  refine ⟨rfl, by simp [laid, wkB, wkC], ?_⟩
  simp [-getElem?_pos, -List.getElem?_map, laid, wkB, wkC, ofF, -retB]
  refine rng_lent [.loc 79 0, .loc 10 0, .loc 4 0, .loc 5 0, .loc 6 0, .loc 9 0, .par 0, .par 1, .par 2, .par 3, .par 4, .loc 46 0] [(4, .ptr (.loc 4 0) 0), (5, .ptr (.loc 5 0) 0), (6, .ptr (.loc 6 0) 0), (9, .ptr (.loc 9 0) 0), (10, .ptr (.loc 10 0) 0)] (gf := 142) (fs := []) (cs := [.ptr (.loc 46 0) 0, .pv (.ref [.int .i64 below]), .pv (.ref [.int .i64 si]), .pv (.ref [.int .i64 day])]) ?_ ?_ rfl rfl ?_ ?_ ?_ hit ?_
  · rfl
  · simp
  · simp [spnC, spnX, laid, wkC, capB, everyR]
  · rfl
  · rfl
  rintro r B' ⟨rfl, rfl⟩
  refine ⟨rfl, ?_, ?_⟩
  · exact fun p hp => laid_ok (n := 12) (L := spnX b es hs ss si day RES) (by simp [spnX]) hcl p hp
  refine ⟨_, _, _, _, _, rfl, ?_⟩
  simp [-getElem?_pos, -List.getElem?_map, spnC, spnX, laid, jumpQ, wkC, capB, -retB]
  trace_state
  simp [wkC]
  rw [← hR]
  simp [laid, spB, wkC, Cr.pv]
end Go.Proofs.YtaffbiibcfeigaaGreat
/-! Contracts of layer 2 (chain): the spans of all certificates. -/
namespace Go.Proofs.YtaffbiibcfeigaaGreat
open Go.RowKit
set_option maxRecDepth 10000
set_option linter.unusedSimpArgs false
attribute [local irreducible] Bk.held Bk.nums Bk.span
def sEnt (b : Bk) (k : Nat) : List (PV × PV) := mapI id (fun n => (b.span (b.held []) n).pv) ((b.nums.take k).filter fun n => (b.held []).contains n)
theorem take_mem {b : Bk} {k : Nat} {n x : Int} (h : b.nums[k]? = some n) : x ∈ b.nums.take k ↔ x ∈ b.nums ∧ x < n := by
  obtain ⟨h2, e2⟩ := List.getElem?_eq_some_iff.1 h
  have hs := List.pairwise_iff_getElem.1 (nums_sorted (b := b))
  constructor
  · intro hx
    obtain ⟨i, hi⟩ := List.mem_iff_getElem?.1 hx
    rw [List.getElem?_take] at hi
    split at hi
    · rename_i hik
      obtain ⟨h1, e1⟩ := List.getElem?_eq_some_iff.1 hi
      have := hs i k h1 h2 hik
      rw [e1, e2] at this
      exact ⟨List.mem_of_getElem? hi, this⟩
    · cases hi
  · rintro ⟨hx, hlt⟩
    obtain ⟨i, hi⟩ := List.mem_iff_getElem?.1 hx
    obtain ⟨h1, e1⟩ := List.getElem?_eq_some_iff.1 hi
    rw [List.mem_iff_getElem?]
    refine ⟨i, ?_⟩
    rw [List.getElem?_take, if_pos, hi]
    rcases Nat.lt_trichotomy i k with hik | hik | hik
    · exact hik
    · subst hik; rw [e1] at e2; omega
    · have := hs k i h2 h1 hik
      rw [e1, e2] at this; omega
theorem sEnt_map {b : Bk} (hb : b.ok) {k : Nat} {n : Int} (h : b.nums[k]? = some n) : SMap b (b.span (b.held [])) n (sEnt b k) := by
  refine ⟨keys_mapI, fun c hc hlt hx => ?_⟩
  unfold sEnt
  rw [find_mapI, find_id, if_pos]
  · refine ⟨rfl, ?_⟩
    have := span_bdd hb c hc hx
    have hbd := cert_bds hb hc
    unfold Cr.bdd at this ⊢
    omega
  · rw [List.mem_filter, take_mem h]
    exact ⟨⟨(mem_nums hb).2 ⟨c, hc, rfl⟩, hlt⟩, List.contains_iff_mem.2 hx⟩
theorem sEnt_full {b : Bk} (hb : b.ok) (below : Int) : SMap b (b.span (b.held [])) below (sEnt b b.nums.length) := by
  refine ⟨keys_mapI, fun c hc hlt hx => ?_⟩
  unfold sEnt
  rw [find_mapI, find_id, if_pos]
  · refine ⟨rfl, ?_⟩
    have := span_bdd hb c hc hx
    have hbd := cert_bds hb hc
    unfold Cr.bdd at this ⊢
    omega
  · rw [List.mem_filter, List.take_length]
    exact ⟨(mem_nums hb).2 ⟨c, hc, rfl⟩, List.contains_iff_mem.2 hx⟩
theorem sEnt_skip {b : Bk} {k : Nat} {n : Int} (h : b.nums[k]? = some n) (hx : (b.held []).contains n = false) : sEnt b (k + 1) = sEnt b k := by
  unfold sEnt
  rw [List.take_add_one, h, List.filter_append]
  have : (Option.some n).toList.filter (fun n => (b.held []).contains n) = [] := by
    simp only [Option.toList, List.filter_cons, hx, List.filter_nil]; rfl
  rw [this, List.append_nil]
theorem sEnt_put {b : Bk} {k : Nat} {n : Int} (h : b.nums[k]? = some n) (hx : (b.held []).contains n = true) : putK (.int .i64 n) (b.span (b.held []) n).pv (sEnt b k) = sEnt b (k + 1) := by
  unfold sEnt
  rw [put_mapI (fun x hm => ?_), List.take_add_one, h, List.filter_append]
  · have : (Option.some n).toList.filter (fun n => (b.held []).contains n) = [n] := by
      simp only [Option.toList, List.filter_cons, hx, List.filter_nil]; rfl
    rw [this]
    unfold mapI; rw [List.map_append]; rfl
  · have := (take_mem h).1 (List.mem_filter.1 hm).1
    show x ≠ n
    omega
/-- The span of a certificate that holds. -/
theorem span_get {b : Bk} (hb : b.ok) {n : Int} (hn : n ∈ b.nums) (hx : (b.held []).contains n = true) : b.span (b.held []) n = (b.itemSpan (b.held []) (b.span (b.held [])) (b.get n).src (b.get n).day n).plus (b.get n).diff ∧ (b.itemSpan (b.held []) (b.span (b.held [])) (b.get n).src (b.get n).day n).bdd 2000000000 := by
  have h1 := nums_bd hb n hn
  obtain ⟨nn, rfl⟩ : ∃ nn : Nat, n = nn := ⟨n.toNat, by omega⟩
  obtain ⟨hcm, hcn⟩ := get_num hb hn
  have hbd := cert_bds hb hcm
  refine ⟨?_, ?_⟩
  · rw [span_is (by omega), if_pos hx]
  · have hsr := held_src hb hcm (bad := []) (by rw [hcn]; exact List.contains_iff_mem.1 hx)
    rw [hcn] at hsr
    have := item_bdd hb (held := b.held []) (S := b.span (b.held [])) (day := (b.get (nn : Int)).day) (below := (nn : Int)) (A := 1000000000) hbd.2.2.2.2.2.1 hbd.2.2.2.2.2.2.1 (by omega) (by omega) hsr fun o ho hlt hox => by
      have k1 := span_bdd hb o ho hox
      have k2 := cert_bds hb ho
      unfold Cr.bdd at k1 ⊢
      omega
    unfold Cr.bdd at this ⊢
    omega
def rcB (b : Bk) (es hs ss : List (PV × PV)) : List Box := [.cells [.ptr (.par 6) 0], .cells [.ptr (.par 3) 0], .cells [.fn 88 [] [.ptr (.par 0) 0, .ptr (.par 1) 0, .ptr (.par 2) 0]],
  .cells [.ptr (.par 6) 0, .mp (.par 4), .mp (.par 5)], .map hs, .map ss, .cells (wkC b (.par 7) (badZ [])), .map es]
end Go.Proofs.YtaffbiibcfeigaaGreat
/-! Contracts of layer 2 (chain): the closure of spans. -/
namespace Go.Proofs.YtaffbiibcfeigaaGreat
open Go.RowKit
set_option maxRecDepth 10000
set_option linter.unusedSimpArgs false
attribute [local irreducible] Bk.held Bk.nums Bk.span
attribute [local simp] AS.exp expG Box.ren AV.map AV.mapL outsOk noRet Site.isRet Box.allS AV.allS AV.allSL retB dropL AS.adds renL outG outOk lentBx inG fnOf lookA List.findIdx?_cons
attribute [local simp] Box.purge Site.isLoc
attribute [local simp] badZ_has badZ_all badZ_purge badZ_map badZ_frz
def rcJ (b : Bk) (es hs ss : List (PV × PV)) (L : List PV) (n : Int) (R : Cr) : AS := ⟨[(0, .pv (.lst false 1 L)), (1, .ptr (.par 0) 0), (2, .ptr (.par 1) 0), (3, .ptr (.par 2) 0), (23, .mp (.par 5)), (25, .pv (.int .i64 n)), (36, .pv (.agg [.int .i64 R.lo, .int .i64 R.hi]))], laid 0 (rcB b es hs ss)⟩
set_option maxHeartbeats 32000000 in
theorem rc_c (b : Bk) (hb : b.ok) (es hs : List (PV × PV)) (hes : CMap b es) (hH : HMap (fun n => (b.held []).contains n) hs) : ∀ m k, m + k = b.nums.length →
    CallsA Tryz.prog 88 [.pv (.lst false 1 ((b.nums.drop k).map intP)), .ptr (.par 0) 0, .ptr (.par 1) 0, .ptr (.par 2) 0] (laid 0 (rcB b es hs (sEnt b k))) (fun r B => r = .pv (.tup []) ∧ B = laid 0 (rcB b es hs (sEnt b b.nums.length)))
  | 0, k, hk => by
    have hk' : k = b.nums.length := by omega
    subst hk'
    rw [List.drop_length]
    refine calls_of_awpB [.par 0, .par 1, .par 2, .par 3, .par 4, .par 5, .par 6, .par 7] mixed L88_ok (Nat.le_of_ble_eq_true rfl) ?_
    simp [-getElem?_pos, L88, rcB, laid, wkC]
  | m + 1, k, hk => by
    have ih := rc_c b hb es hs hes hH m (k + 1) (by omega)
    have hlt : k < b.nums.length := by omega
    obtain ⟨n, hn⟩ : ∃ n, b.nums[k]? = some n := ⟨b.nums[k], List.getElem?_eq_getElem hlt⟩
    have hdr : b.nums.drop k = n :: b.nums.drop (k + 1) := by
      rw [List.drop_eq_getElem_cons hlt]
      have : b.nums[k] = n := by rw [List.getElem?_eq_getElem hlt] at hn; exact Option.some.inj hn
      rw [this]
    have hnm := List.mem_of_getElem? hn
    obtain ⟨hcm, hcn⟩ := get_num hb hnm
    have hbd := cert_bds hb hcm
    have hfx := hes.f n
    rw [if_pos hnm] at hfx
    have hko := hes.k
    have hsk := sEnt_skip hn
    have hsp := sEnt_put hn
    have hsg := span_get hb hnm
    have hSM := sEnt_map hb hn
    have hkk := hSM.k
    have hhold := holding_c b es hs (sEnt b k) _ hH (b.get n)
    rw [hdr]
    generalize b.nums.drop (k + 1) = rest at *
    generalize sEnt b b.nums.length = SF at *
    generalize sEnt b (k + 1) = S2 at *
    generalize hS1 : sEnt b k = S1 at *
    generalize b.get n = y at *
    obtain ⟨yn, yi, ys, yd, yv, ⟨yl, yh⟩⟩ := y
    simp only at hcn hbd hsg hhold
    subst hcn
    unfold Ct.pv at hfx
    obtain ⟨si, rfl⟩ : ∃ si : Nat, ys = si := ⟨ys.toNat, by omega⟩
    have hsi : si < b.items.length := by omega
    have hspan := span_c b hb es hs S1 hes hH (b.span (b.held [])) si hsi yd yn (by omega) hSM
    generalize b.itemSpan (b.held []) (b.span (b.held [])) si yd yn = R1 at *
    generalize b.span (b.held []) yn = R2 at *
    generalize hcv : (b.held []).contains yn = v at *
    refine calls_of_awpB [.par 0, .par 1, .par 2, .par 3, .par 4, .par 5, .par 6, .par 7] mixed L88_ok (Nat.le_of_ble_eq_true rfl) ?_
    generalize hR : (fun (r : AV) (B : List (Site × Box)) => r = .pv (.tup []) ∧ B = laid 0 (rcB b es hs SF)) = R
    have hl0 : (0 : Int) < (rest.length : Int) + 1 := by omega
    have hlz : ¬ ((rest.length : Int) + 1 = 0) := by omega
    simp [-getElem?_pos, -List.getElem?_map, L88, rcB, laid, wkC, hl0, hlz, hko, hfx, -retB, intP]
    refine call_lent (as' := [.ptr (.par 0) 0, .pv (Ct.pv ⟨yn, yi, si, yd, yv, ⟨yl, yh⟩⟩)]) (B := laid 0 (spB b es hs S1)) (fs := []) (cs := []) 19 [.par 3, .par 4, .par 5, .par 6, .par 7] ?_ rfl rfl ?_ ?_ ?_ hhold ?_
    · rfl
    · simp [laid, spB, wkC]
    · rfl
    · rfl
    rintro r0 B0 ⟨rfl, rfl⟩
    refine ⟨rfl, by simp [laid, spB, wkC], ?_⟩
    have hl1 : 1 ≤ rest.length + 1 := by omega
    have htk : (rest.map intP).take rest.length = rest.map intP := List.take_of_length_le (by rw [List.length_map]; exact Nat.le_refl _)
    cases v
    · rw [hsk rfl] at ih
      simp [-getElem?_pos, -List.getElem?_map, laid, spB, wkC, -retB, nble, hl1, htk]
      refine call_lent (as' := [.pv (.lst false 1 (rest.map intP)), .ptr (.par 0) 0, .ptr (.par 1) 0, .ptr (.par 2) 0]) (B := laid 0 (rcB b es hs S1)) (fs := []) (cs := [.ptr (.par 0) 0, .ptr (.par 1) 0, .ptr (.par 2) 0]) 40 [.par 0, .par 1, .par 2, .par 3, .par 4, .par 5, .par 6, .par 7] ?_ rfl rfl ?_ ?_ ?_ ih ?_
      · rfl
      · simp [laid, rcB, wkC]
      · rfl
      · rfl
      rintro r0 B0 ⟨rfl, rfl⟩
      refine ⟨rfl, by simp [laid, rcB, wkC], ?_⟩
      simp [-getElem?_pos, laid, rcB, wkC]
      rw [← hR]
      simp [laid, rcB, wkC]
    · obtain ⟨hq1, hq2⟩ := hsg rfl
      have hput := hsp rfl
      unfold Cr.pv at hput
      unfold Cr.bdd at hq2
      have hdf := hbd.2.2.2.2.2.2.2.2.2.2.2.2.1
      unfold Cr.bdd at hdf
      simp only at hdf
      have hplus := plus_c R1 ⟨yl, yh⟩ (wrap64 (by simp only; omega)) (wrap64 (by simp only; omega))
      rw [← hq1] at hplus
      simp [-getElem?_pos, -List.getElem?_map, laid, spB, wkC, -retB, nble, hl1, htk]
      refine ltS_seq (rcJ b es hs S1 (intP yn :: rest.map intP) yn R2) ?_ ?_
      · simp [-getElem?_pos, -List.getElem?_map, ltS_alt, ltS_no, -retB]
        repeat' (with_reducible refine And.intro ?_ ?_)
        all_goals
          refine call_lent (as' := [.ptr (.par 0) 0, .pv (.int .i64 si), .pv (.int .i64 yd), .pv (.int .i64 yn)]) (B := laid 0 (spB b es hs S1)) (fs := []) (cs := []) 33 [.par 3, .par 4, .par 5, .par 6, .par 7] ?_ rfl rfl ?_ ?_ ?_ hspan ?_
          · rfl
          · simp [laid, spB, wkC]
          · rfl
          · rfl
          rintro r0 B0 ⟨rfl, rfl⟩
          refine ⟨rfl, by simp [laid, spB, wkC], ?_⟩
          simp [-getElem?_pos, -List.getElem?_map, laid, spB, wkC, -retB, ltS_alt, ltS_no, Cr.pv]
        all_goals
          refine call_pv [] (fs := []) (xs := [R1.pv, Cr.pv ⟨yl, yh⟩]) (cs := []) rfl rfl hplus ?_
          simp [-getElem?_pos, -List.getElem?_map, frzsL, ltS_alt, ltS_no, Cr.pv, -retB]
        all_goals
          refine Sub.mk ?_ ?_
          · simp [rcJ, intP]
          · simp [rcJ, laid, rcB, wkC]
      · simp [-getElem?_pos, -List.getElem?_map, ltS_alt, ltS_no, rcJ, laid, rcB, wkC, -retB, hkk, nble, hl1, htk, hput]
        refine call_lent (as' := [.pv (.lst false 1 (rest.map intP)), .ptr (.par 0) 0, .ptr (.par 1) 0, .ptr (.par 2) 0]) (B := laid 0 (rcB b es hs S2)) (fs := []) (cs := [.ptr (.par 0) 0, .ptr (.par 1) 0, .ptr (.par 2) 0]) 40 [.par 0, .par 1, .par 2, .par 3, .par 4, .par 5, .par 6, .par 7] ?_ rfl rfl ?_ ?_ ?_ ih ?_
        · rfl
        · simp [laid, rcB, wkC]
        · rfl
        · rfl
        rintro r0 B0 ⟨rfl, rfl⟩
        refine ⟨rfl, by simp [laid, rcB, wkC], ?_⟩
        simp [-getElem?_pos, laid, rcB, wkC]
        rw [← hR]
        simp [laid, rcB, wkC]
end Go.Proofs.YtaffbiibcfeigaaGreat
/-! Contracts of layer 2 (chain): spans. -/
namespace Go.Proofs.YtaffbiibcfeigaaGreat
open Go.RowKit
set_option maxRecDepth 10000
set_option linter.unusedSimpArgs false
attribute [local irreducible] Bk.held Bk.nums Bk.span
attribute [local simp] AS.exp expG Box.ren AV.map AV.mapL outsOk noRet Site.isRet Box.allS AV.allS AV.allSL retB dropL AS.adds renL outG outOk lentBx inG fnOf lookA List.findIdx?_cons
attribute [local simp] Box.purge Site.isLoc
attribute [local simp] badZ_has badZ_all badZ_purge badZ_map badZ_frz
def spsJ (b : Bk) (es hs : List (PV × PV)) : AS := ⟨[(1, .ptr (.loc 1 0) 0), (3, .ptr (.loc 3 0) 0), (10, .ptr (.loc 10 0) 0)],
  [(.loc 10 0, .cells [.ptr (.par 0) 0, .mp (.loc 7 0), .mp (.loc 8 0)]), (.loc 7 0, .map hs), (.loc 8 0, .map []), (.loc 3 0, .cells [.pv .nilp]), (.loc 1 0, .cells [.ptr (.par 0) 0]), (.par 0, .cells (wkC b (.par 1) (badZ []))), (.par 1, .map es)]⟩
def spsR (b : Bk) (es : List (PV × PV)) (r : AV) (B : List (Site × Box)) : Prop := r = .ptr (.ret 0) 0 ∧ B = [(.ret 0, .cells [.ptr (.par 0) 0, .mp (.ret 1), .mp (.ret 2)]), (.ret 1, .map (hEnt b [] b.nums.length)), (.ret 2, .map (sEnt b b.nums.length)), (.par 0, .cells (wkC b (.par 1) (badZ []))), (.par 1, .map es)]
set_option maxHeartbeats 32000000 in
theorem spans_c (b : Bk) (hb : b.ok) (es : List (PV × PV)) (hes : CMap b es) : CallsA Tryz.prog 51 [.ptr (.par 0) 0] (laid 0 (wkB b [] es)) (spsR b es) := by
  have hheld := held_c b hb [] es hes
  have hrc := rc_c b hb es _ hes (hEnt_full hb []) b.nums.length 0 (by omega)
  have hs0 : sEnt b 0 = [] := by unfold sEnt; rw [List.take_zero]; rfl
  rw [hs0, List.drop_zero] at hrc
  refine calls_of_awpB [.loc 10 0, .loc 7 0, .loc 8 0, .par 0, .par 1] mixed L51_ok (Nat.le_of_ble_eq_true rfl) ?_
  generalize hR : spsR b es = R
  have hRd : ∀ r B, R r B ↔ spsR b es r B := fun r B => by rw [hR]
  unfold spsR at hRd
  generalize hEnt b [] b.nums.length = hs at *
  generalize sEnt b b.nums.length = SF at *
  clear hR
  simp [-getElem?_pos, -List.getElem?_map, L51, laid, wkB, wkC, -retB]
  refine ltS_seq (spsJ b es hs) ?_ ?_
  · simp [-getElem?_pos, -List.getElem?_map, ltS_alt, ltS_no, -retB]
    repeat' (with_reducible refine And.intro ?_ ?_)
    all_goals
      refine call_lent (as' := [.ptr (.par 0) 0]) (B := laid 0 (wkB b [] es)) (fs := []) (cs := []) 7 [.par 0, .par 1] ?_ rfl rfl ?_ ?_ ?_ hheld ?_
      · rfl
      · simp [laid, wkB, wkC]
      · rfl
      · rfl
      rintro r0 B0 ⟨rfl, rfl⟩
      refine ⟨rfl, by simp [laid, wkB, wkC], ?_⟩
      simp [-getElem?_pos, -List.getElem?_map, laid, wkB, wkC, -retB, ltS_alt, ltS_no]
    repeat' (with_reducible refine And.intro ?_ ?_)
    all_goals
      refine Sub.mk ?_ ?_
      · simp [spsJ]
      · simp [spsJ, wkC]
  · simp [-getElem?_pos, -List.getElem?_map, ltS_alt, ltS_no, spsJ, wkC, -retB]
    refine call_lent (as' := [.pv (.lst false 1 (b.nums.map intP)), .ptr (.par 0) 0, .ptr (.par 1) 0, .ptr (.par 2) 0]) (B := laid 0 (rcB b es hs [])) (fs := []) (cs := [.ptr (.loc 1 0) 0, .ptr (.loc 3 0) 0, .ptr (.loc 4 0) 0]) 17 [.loc 1 0, .loc 3 0, .loc 4 0, .loc 10 0, .loc 7 0, .loc 8 0, .par 0, .par 1] ?_ rfl rfl ?_ ?_ ?_ hrc ?_
    · rfl
    · simp [laid, rcB, wkC]
    · rfl
    · rfl
    rintro r0 B0 ⟨rfl, rfl⟩
    refine ⟨rfl, by simp [laid, rcB, wkC], ?_⟩
    simp [-getElem?_pos, -List.getElem?_map, laid, rcB, wkC]
    rw [hRd]
    simp [wkC]
end Go.Proofs.YtaffbiibcfeigaaGreat
/-! Contracts of layer 2 (chain): contradictory. -/
namespace Go.Proofs.YtaffbiibcfeigaaGreat
open Go.RowKit
set_option maxRecDepth 10000
set_option linter.unusedSimpArgs false
attribute [local irreducible] Bk.held Bk.nums Bk.span
def Bk.contraAt (b : Bk) (n : Int) : Bool := (b.held []).contains n && decide ((b.itemSpan (b.held []) (b.span (b.held [])) (b.get n).it (b.get n).day 1000).hi < (b.itemSpan (b.held []) (b.span (b.held [])) (b.get n).it (b.get n).day 1000).lo)
theorem contra_nums {b : Bk} (hb : b.ok) : b.contra = b.nums.any b.contraAt := by
  rw [Bool.eq_iff_iff]
  unfold Bk.contra
  rw [List.any_eq_true, List.any_eq_true]
  constructor
  · rintro ⟨c, hc, h⟩
    refine ⟨c.num, (mem_nums hb).2 ⟨c, hc, rfl⟩, ?_⟩
    unfold Bk.contraAt
    rw [get_of hb hc]; exact h
  · rintro ⟨n, hn, h⟩
    obtain ⟨h1, h2⟩ := get_num hb hn
    refine ⟨b.get n, h1, ?_⟩
    unfold Bk.contraAt at h
    rw [h2]; exact h
attribute [local simp] AS.exp expG Box.ren AV.map AV.mapL outsOk noRet Site.isRet Box.allS AV.allS AV.allSL retB dropL AS.adds renL outG outOk lentBx inG fnOf lookA List.findIdx?_cons
attribute [local simp] Box.purge Site.isLoc
attribute [local simp] badZ_has badZ_all badZ_purge badZ_map badZ_frz
def ctrK (b : Bk) (es hs ss : List (PV × PV)) (k : Nat) : AS := ⟨[(0, .ptr (.par 0) 0), (13, .pv (.lst false 1 (b.nums.map intP))), (14, .pv (.int .i64 b.nums.length)), (15, .pv (.int .i64 k))], laid 0 (spB b es hs ss)⟩
set_option maxHeartbeats 16000000 in
theorem contra_c (b : Bk) (hb : b.ok) (es hs ss : List (PV × PV)) (hes : CMap b es) (hH : HMap (fun n => (b.held []).contains n) hs) (hS : SMap b (b.span (b.held [])) 1000 ss) :
    CallsA Tryz.prog 52 [.ptr (.par 0) 0] (laid 0 (spB b es hs ss)) (fun r B => r = .pv (.bool b.contra) ∧ B = laid 0 (spB b es hs ss)) := by
  have hlen := nums_len (b := b)
  rw [contra_nums hb]
  refine calls_of_awpB [.par 0, .par 1, .par 2, .par 3, .par 4] mixed L52_ok (Nat.le_of_ble_eq_true rfl) ?_
  generalize hR : (fun (r : AV) (B : List (Site × Box)) => r = .pv (.bool (b.nums.any b.contraAt)) ∧ B = laid 0 (spB b es hs ss)) = R
  simp [-getElem?_pos, -List.getElem?_map, L52, laid, spB, wkC, -retB]
  refine awp_loopS (fun n τ => ∃ k : Nat, k ≤ b.nums.length ∧ n = b.nums.length - k ∧ (∀ (j : Nat) (x : Int), j < k → b.nums[j]? = some x → b.contraAt x = false) ∧ τ = ctrK b es hs ss k) ⟨b.nums.length, ctrK b es hs ss 0, Sub.mk (by simp [ctrK]) (by simp [ctrK, laid, spB, wkC]), 0, Nat.zero_le _, rfl, (fun j x hj => by omega), rfl⟩ ?_
  rintro J hJ n τ ⟨k, hk, rfl, hinv, rfl⟩
  by_cases hlt : k < b.nums.length
  · obtain ⟨x, hx⟩ : ∃ x, b.nums[k]? = some x := ⟨b.nums[k], List.getElem?_eq_getElem hlt⟩
    have hxm := List.mem_of_getElem? hx
    have hgx : (b.nums.map intP)[k]? = some (.int .i64 x) := by rw [List.getElem?_map, hx]; rfl
    have hw := wrapK (k := k) (by omega)
    have hmeas : b.nums.length - (k + 1) < b.nums.length - k := by omega
    obtain ⟨hcm, hcn⟩ := get_num hb hxm
    have hbd := cert_bds hb hcm
    have hfx := hes.f x
    rw [if_pos hxm] at hfx
    have hko := hes.k
    have hhold := holding_c b es hs ss _ hH (b.get x)
    have hround : b.contraAt x = false → J (b.nums.length - (k + 1)) (ctrK b es hs ss (k + 1)) := fun h => hJ _ _ ⟨k + 1, hlt, rfl, (fun j y hj hy => by
      rcases Nat.lt_succ_iff_lt_or_eq.1 hj with h' | h'
      · exact hinv j y h' hy
      · subst h'; rw [hx] at hy; cases hy; exact h), rfl⟩
    have hend : b.contraAt x = true → b.nums.any b.contraAt = true := fun h => List.any_eq_true.2 ⟨x, hxm, h⟩
    have hca : b.contraAt x = ((b.held []).contains x && decide ((b.itemSpan (b.held []) (b.span (b.held [])) (b.get x).it (b.get x).day 1000).hi < (b.itemSpan (b.held []) (b.span (b.held [])) (b.get x).it (b.get x).day 1000).lo)) := rfl
    generalize b.get x = y at *
    obtain ⟨yn, yi, ys, yd, yv, ⟨yl, yh⟩⟩ := y
    simp only at hcn hbd hhold hca
    subst hcn
    unfold Ct.pv at hfx
    obtain ⟨si, rfl⟩ : ∃ si : Nat, yi = si := ⟨yi.toNat, by omega⟩
    have hspan := span_c b hb es hs ss hes hH (b.span (b.held [])) si (by omega) yd 1000 (by omega) hS
    generalize b.itemSpan (b.held []) (b.span (b.held [])) si yd 1000 = R1 at *
    have hlt' : decide ((k : Int) < (b.nums.length : Int)) = true := by simp; omega
    simp [-getElem?_pos, -List.getElem?_map, -decide_eq_true_eq, -decide_eq_false_iff_not, ctrK, laid, spB, wkC, hlt, hlt', hgx, hko, hfx, -retB]
    refine call_lent (as' := [.ptr (.par 0) 0, .pv (.int .i64 si), .pv (.int .i64 yd), .pv (.int .i64 1000)]) (B := laid 0 (spB b es hs ss)) (fs := []) (cs := []) 33 [.par 0, .par 1, .par 2, .par 3, .par 4] ?_ rfl rfl ?_ ?_ ?_ hspan ?_
    · rfl
    · simp [laid, spB, wkC]
    · rfl
    · rfl
    rintro r0 B0 ⟨rfl, rfl⟩
    refine ⟨rfl, by simp [laid, spB, wkC], ?_⟩
    simp [-getElem?_pos, -List.getElem?_map, -decide_eq_true_eq, -decide_eq_false_iff_not, laid, spB, wkC, -retB, Cr.pv]
    refine call_lent (as' := [.ptr (.par 0) 0, .pv (Ct.pv ⟨yn, si, ys, yd, yv, ⟨yl, yh⟩⟩)]) (B := laid 0 (spB b es hs ss)) (fs := []) (cs := []) 36 [.par 0, .par 1, .par 2, .par 3, .par 4] ?_ rfl rfl ?_ ?_ ?_ hhold ?_
    · rfl
    · simp [laid, spB, wkC]
    · rfl
    · rfl
    rintro r0 B0 ⟨rfl, rfl⟩
    refine ⟨rfl, by simp [laid, spB, wkC], ?_⟩
    generalize (b.held []).contains yn = v at *
    cases v
    · have hround := hround hca
      simp [-getElem?_pos, -List.getElem?_map, -decide_eq_true_eq, -decide_eq_false_iff_not, laid, spB, wkC, -retB, hw]
      exact ⟨_, _, hmeas, Sub.mk (by simp [ctrK]) (by simp [ctrK, laid, spB, wkC]), hround⟩
    · rw [Bool.true_and] at hca
      cases hd : decide (R1.hi < R1.lo)
      · have hround := hround (by rw [hca, hd])
        simp [-getElem?_pos, -List.getElem?_map, -decide_eq_true_eq, -decide_eq_false_iff_not, laid, spB, wkC, -retB, hw, hd]
        exact ⟨_, _, hmeas, Sub.mk (by simp [ctrK]) (by simp [ctrK, laid, spB, wkC]), hround⟩
      · have he := hend (by rw [hca, hd])
        simp [-getElem?_pos, -List.getElem?_map, -decide_eq_true_eq, -decide_eq_false_iff_not, laid, spB, wkC, hw, hd]
        rw [← hR, he]
        simp [laid, spB, wkC]
  · have he : k = b.nums.length := by omega
    subst he
    clear hJ
    have hno : b.nums.any b.contraAt = false := by
      rw [List.any_eq_false]
      intro x hx
      obtain ⟨j, hj⟩ := List.mem_iff_getElem?.1 hx
      simp [hinv j x (List.getElem?_eq_some_iff.1 hj).1 hj]
    simp [-getElem?_pos, -List.getElem?_map, ctrK, laid, spB, wkC]
    rw [← hR, hno]
    simp [laid, spB, wkC]
end Go.Proofs.YtaffbiibcfeigaaGreat
/-! Contracts of layer 2 (chain): Span. -/
namespace Go.Proofs.YtaffbiibcfeigaaGreat
open Go.RowKit
set_option maxRecDepth 10000
set_option linter.unusedSimpArgs false
attribute [local irreducible] Bk.held Bk.nums Bk.span
/-- What Span answers. -/
def Bk.spanM (b : Bk) (item day : Int) : Cr × Int := if b.askM item day = 0 then (if b.contra = true then (⟨0, 0⟩, 9) else (b.itemSpan (b.held []) (b.span (b.held [])) item day 1000, 0)) else (⟨0, 0⟩, b.askM item day)
def spanE (x : Cr × Int) : PV := .tup [x.1.pv, .int .i64 x.2]
attribute [local simp] AS.exp expG Box.ren AV.map AV.mapL outsOk noRet Site.isRet Box.allS AV.allS AV.allSL retB dropL AS.adds renL outG outOk lentBx inG fnOf lookA List.findIdx?_cons
attribute [local simp] Box.purge Site.isLoc
attribute [local simp] badZ_has badZ_all badZ_purge badZ_map badZ_frz
set_option maxHeartbeats 16000000 in
theorem Span_c (b : Bk) (hi : b.items.length ≤ 1000) (hc : b.certs.length ≤ 1000) (item day : Int) : Gives Tryz.prog 14 [b.pv, .int .i64 item, .int .i64 day] (spanE (b.spanM item day)) := by
  have hask := asked_c b hi hc item day
  refine calls_of_awpS mixed L14_ok (Nat.le_of_ble_eq_true rfl) ?_
  generalize hR : (fun (r : AV) (B : List (Site × Box)) => r = .pv (spanE (b.spanM item day)) ∧ B = []) = R
  simp [-getElem?_pos, L14, Bk.pv]
  refine call_lent (as' := [.pv b.pv, .pv (.int .i64 item), .pv (.int .i64 day)]) (B := []) (fs := []) (cs := []) 16 [] ?_ rfl rfl rfl ?_ ?_ hask ?_
  · rfl
  · rfl
  · rfl
  rintro r0 B0 (⟨h0, rfl, rfl⟩ | ⟨h0, hf0, hit, hdy, hih, es, hes, rfl, rfl⟩)
  · refine ⟨rfl, by simp, ?_⟩
    have hd : decide (b.askM item day = 0) = false := by simpa using h0
    have hM : b.spanM item day = (⟨0, 0⟩, b.askM item day) := by unfold Bk.spanM; rw [if_neg h0]
    simp [-getElem?_pos, -decide_eq_true_eq, -decide_eq_false_iff_not, hd]
    rw [← hR, hM]
    exact ⟨rfl, rfl⟩
  have hb : b.ok := Bk.ok_iff.1 hf0
  refine ⟨rfl, by simp [wkC], ?_⟩
  have hsp := spans_c b hb es hes
  have hH := hEnt_full hb []
  have hS := sEnt_full hb 1000
  simp [-getElem?_pos, -List.getElem?_map, wkC]
  refine call_lent (as' := [.ptr (.par 0) 0]) (B := laid 0 (wkB b [] es)) (fs := []) (cs := []) 25 [.loc 16 0, .loc 16 1] ?_ rfl rfl ?_ ?_ ?_ hsp ?_
  · rfl
  · simp [laid, wkB, wkC]
  · rfl
  · rfl
  rintro r0 B0 ⟨rfl, rfl⟩
  refine ⟨rfl, by simp [wkC], ?_⟩
  generalize hEnt b [] b.nums.length = hs at *
  generalize sEnt b b.nums.length = ss at *
  have hct := contra_c b hb es hs ss hes hH hS
  have hii : 0 ≤ item ∧ item < b.items.length := by
    unfold Bk.hasItem inB at hit
    simp only [Bool.and_eq_true, decide_eq_true_eq] at hit
    omega
  have hdd : 0 ≤ day ∧ day ≤ 1000 := by
    unfold inB at hdy
    simp only [Bool.and_eq_true, decide_eq_true_eq] at hdy
    omega
  obtain ⟨si, rfl⟩ : ∃ si : Nat, item = si := ⟨item.toNat, by omega⟩
  have hspan := span_c b hb es hs ss hes hH (b.span (b.held [])) si (by omega) day 1000 hdd hS
  have hM : b.spanM si day = if b.contra = true then (⟨0, 0⟩, 9) else (b.itemSpan (b.held []) (b.span (b.held [])) si day 1000, 0) := by unfold Bk.spanM; rw [if_pos h0]
  rw [hM] at hR
  generalize b.itemSpan (b.held []) (b.span (b.held [])) si day 1000 = R1 at *
  simp [-getElem?_pos, -List.getElem?_map, wkC]
  refine call_lent (as' := [.ptr (.par 0) 0]) (B := laid 0 (spB b es hs ss)) (fs := []) (cs := []) 27 [.loc 25 0, .loc 25 1, .loc 25 2, .loc 16 0, .loc 16 1] ?_ rfl rfl ?_ ?_ ?_ hct ?_
  · rfl
  · simp [laid, spB, wkC]
  · rfl
  · rfl
  rintro r0 B0 ⟨rfl, rfl⟩
  refine ⟨rfl, by simp [laid, spB, wkC], ?_⟩
  cases hcn : b.contra
  · rw [hcn, if_neg (by simp)] at hR
    simp [-getElem?_pos, -List.getElem?_map, laid, spB, wkC]
    refine call_lent (as' := [.ptr (.par 0) 0, .pv (.int .i64 si), .pv (.int .i64 day), .pv (.int .i64 1000)]) (B := laid 0 (spB b es hs ss)) (fs := []) (cs := []) 32 [.loc 25 0, .loc 25 1, .loc 25 2, .loc 16 0, .loc 16 1] ?_ rfl rfl ?_ ?_ ?_ hspan ?_
    · rfl
    · simp [laid, spB, wkC]
    · rfl
    · rfl
    rintro r0 B0 ⟨rfl, rfl⟩
    refine ⟨rfl, by simp [laid, spB, wkC], ?_⟩
    simp [-getElem?_pos, -List.getElem?_map, laid, spB, wkC, Cr.pv]
    rw [← hR]
    exact ⟨rfl, rfl⟩
  · rw [hcn, if_pos rfl] at hR
    simp [-getElem?_pos, -List.getElem?_map, laid, spB, wkC]
    rw [← hR]
    exact ⟨rfl, rfl⟩
end Go.Proofs.YtaffbiibcfeigaaGreat
