/- Weaker readings, by a check: an empty slice is a list without elements, at any depth. (Several texts in one.) -/
import Derived.Test.YtohhjnpiiackjaaBaseD
import Derived.Test.YtohhjnpiiackjaaQuF
import Derived.Test.YtohhjnpiiackjaaRows
import Derived.WalkKit
import Derived.ProofKit
import Derived.OpenShut
import Derived.Test.YtohhjnpiiackjaaQuE
set_option linter.unusedVariables false
set_option linter.unusedSimpArgs false
/-! Weaker readings, by a check: an empty slice is a list without elements, at any depth. -/
namespace Go.Proofs.Ytohhjnpiiackjaa
open Go.RowKit

/-- May what reads as the one be read as the other? -/
def wkF : Nat → PV → PV → Bool
  | 0, _, _ => false
  | n + 1, x, y => match x, y with
    | .emp _, .lst nn _ l => !nn && l.isEmpty
    | .agg a, .agg b => decide (a.length = b.length) && (a.zip b).all fun p => wkF n p.1 p.2
    | .tup a, .tup b => decide (a.length = b.length) && (a.zip b).all fun p => wkF n p.1 p.2
    | .lst nn k a, .lst nn' k' b => decide (nn = nn') && decide (k = k') && decide (a.length = b.length) && (b.all fun c => decide (c.cells.length = k)) && (a.zip b).all fun p => (p.1.cells.zip p.2.cells).all fun p => wkF n p.1 p.2
    | x, y => PV.beq x y
theorem zip_get {α : Type} {a b : List α} {j : Nat} {x y : α} (h1 : a[j]? = some x) (h2 : b[j]? = some y) : (x, y) ∈ a.zip b := by
  refine List.mem_iff_getElem?.2 ⟨j, ?_⟩
  rw [List.getElem?_zip_eq_some]
  exact ⟨h1, h2⟩
theorem wk_sound : ∀ (n : Nat) (x y : PV), wkF n x y = true → ∀ (m : Mem) (v : Value), RdP m v x → RdP m v y
  | 0, _, _, h => by cases h
  | n + 1, x, y, h => by
    intro m v hr
    unfold wkF at h
    split at h
    · rename_i nl nn k l
      simp only [Bool.and_eq_true, Bool.not_eq_true'] at h
      obtain ⟨h1, h2⟩ := h
      cases l with
      | nil => subst h1; exact emp_lst hr
      | cons a l => cases h2
    · rename_i a b
      simp only [Bool.and_eq_true, decide_eq_true_eq, List.all_eq_true] at h
      exact agg_wk h.1 (fun j c c' d h1 h2 hd => wk_sound n c c' (h.2 _ (zip_get h1 h2)) m d hd) hr
    · rename_i a b
      simp only [Bool.and_eq_true, decide_eq_true_eq, List.all_eq_true] at h
      exact tup_wk h.1 (fun j c c' d h1 h2 hd => wk_sound n c c' (h.2 _ (zip_get h1 h2)) m d hd) hr
    · rename_i nn k a nn' k' b
      simp only [Bool.and_eq_true, decide_eq_true_eq, List.all_eq_true] at h
      obtain ⟨⟨⟨⟨rfl, rfl⟩, h1⟩, h2⟩, h3⟩ := h
      exact lst_wk h1 (fun j c hc => h2 c (List.mem_of_getElem? hc)) (fun j c c' i d x x' k1 k2 k3 k4 hd => wk_sound n x x' (h3 _ (zip_get k1 k2) _ (zip_get k3 k4)) m d hd) hr
    · rename_i x y _ _ _ _
      rw [← PV.beq_eq _ _ h]
      exact hr
end Go.Proofs.Ytohhjnpiiackjaa

/-! Layer 10 (queue): the example with lists of one's own. -/
namespace Go.Proofs.Ytohhjnpiiackjaa
open Go.RowKit

set_option maxRecDepth 10000
set_option linter.unusedSimpArgs false

attribute [local simp] AS.exp expG Box.ren AV.map AV.mapL outsOk noRet Site.isRet Box.allS AV.allS AV.allSL retB dropL AS.adds renL outG outOk lentBx inG fnOf lookA List.findIdx?_cons
attribute [local simp] Box.purge Site.isLoc
attribute [local simp] frzL AS.frz AV.frz AV.frzL Box.frz AS.tidy AS.frzC
theorem CallsA.weakA {P : Program} {f : FuncId} {xs ys : List PV} {B : List (Site × Box)} {R : AV → List (Site × Box) → Prop} (n : Nat) (h : CallsA P f (ys.map .pv) B R) (hw : (decide (xs.length = ys.length) && (xs.zip ys).all fun p => wkF n p.1 p.2) = true) : CallsA P f (xs.map .pv) B R := by
  simp only [Bool.and_eq_true, decide_eq_true_eq, List.all_eq_true] at hw
  exact h.weakArgs hw.1 (fun j x y m v h1 h2 hd => wk_sound n x y (hw.2 _ (zip_get h1 h2)) m v hd)
def hallM : PV := .lst false 1 [rgsP [⟨2, 3⟩], .emp (some true)]
set_option maxHeartbeats 4000000 in
theorem hall_o : CallsA Try.prog 44 [] [] (fun r B => r = .agg [.pv hallM, .vec (.ret 0) 3 0 3] ∧ B = [(.ret 0, .arr 77 3 (hallQ.rs.map Rq.pv))]) := by
  refine calls_of_awpX mixed L44_ok (Nat.le_of_ble_eq_true rfl) ?_
  simp [-getElem?_pos, L44]
  refine ⟨[.loc 3 0], [.loc 10 0], ?_⟩
  simp
  exact ⟨rfl, rfl⟩
theorem night_o : CallsA Try.prog 45 [] [] (fun r B => r = .vec (.ret 0) 1 0 6 ∧ B = [(.ret 0, .arr 26 1 (nightL.map intsP))]) := by
  refine calls_of_awpX mixed L45_ok (Nat.le_of_ble_eq_true rfl) ?_
  simp [-getElem?_pos, L45]
  refine ⟨[], [.loc 7 0], ?_⟩
  simp
  rfl
end Go.Proofs.Ytohhjnpiiackjaa

/-! Layer 10 (queue): the closed values that QueueNames asks. -/
namespace Go.Proofs.Ytohhjnpiiackjaa
open Go.RowKit

set_option maxRecDepth 10000
set_option linter.unusedSimpArgs false

def longQ : Qu := ⟨hallQ.ms, [⟨39, 0, [true, false]⟩, ⟨4, 0, [true, true]⟩, ⟨2, 1, [false, true]⟩]⟩
def bareQ : Qu := ⟨hallQ.ms, []⟩
def oddQ : Qu := ⟨hallQ.ms, [⟨3, 0, []⟩, ⟨4, 0, [true, true]⟩, ⟨2, 1, [false, true]⟩]⟩
def fiveQ : Qu := ⟨[[], [], [], [], []], []⟩
def sevenQ : Qu := ⟨[List.replicate 7 ⟨0, 0⟩], []⟩
def noneQ : Qu := ⟨[], []⟩
theorem nm_rooms : hallQ.roomErr [1, 2] 5 = 0 ∧ hallQ.roomM [1, 2] 5 = 7 ∧ hallQ.roomErr [0] 5 = 0 ∧ hallQ.roomM [0] 5 = 3 ∧ hallQ.roomErr [1, 0] 5 = 2 ∧ hallQ.roomErr [] 41 = 2 := by decide +kernel
theorem nm_prove : hallQ.proves (hallQ.cutP hallP) 6 = true ∧ hallQ.proves (hallQ.cutP hallP) 5 = false ∧ hallQ.proves (nightL.take 5) 6 = false ∧ hallQ.proves (nightL ++ [[-1, -1]]) 6 = true := by decide +kernel
theorem nm_rest : hallQ.restErr (nightL.take 5) 3 [] = 2 ∧ hallQ.restErr nightL 3 [⟨2, 0⟩] = 2 ∧ hallQ.restErr nightL 41 [] = 2 := by decide +kernel
theorem nm_check : longQ.check = 0 ∧ bareQ.check = 0 ∧ oddQ.check = 1 ∧ fiveQ.check = 3 ∧ sevenQ.check = 3 ∧ noneQ.check = 0 := by decide +kernel
theorem nm_long : longQ.layP 408 = none := by decide +kernel
theorem nm_longR : longQ.reasM 408 = [0] := by decide +kernel
theorem nm_bare : bareQ.layP 408 = some [] := by decide +kernel
end Go.Proofs.Ytohhjnpiiackjaa

/-! Layer 10 (queue): the law QueueNames. -/
namespace Go.Proofs.Ytohhjnpiiackjaa
open Go.RowKit

set_option maxRecDepth 10000
set_option linter.unusedSimpArgs false

attribute [local simp] AS.exp expG Box.ren AV.map AV.mapL outsOk noRet Site.isRet Box.allS AV.allS AV.allSL retB dropL AS.adds renL outG outOk lentBx inG fnOf lookA List.findIdx?_cons
attribute [local simp] Box.purge Site.isLoc
attribute [local simp] retFz frzL AS.frz AV.frz AV.frzL Box.frz AS.tidy AS.frzC
theorem room_of {q : Qu} (hs : q.small) (l : List Int) (hl : l.length ≤ 1000) (u : Int) (a e : Int) (h : (if q.roomErr l u = 0 then (q.roomM l u.toNat : Int) else 0) = a) (h2 : q.roomErr l u = e) : Gives Try.prog 20 [q.pv, intsP l, .int .i64 u] (.tup [.int .i64 a, .int .i64 e]) := by
  have := Room_c q hs l hl u
  unfold Qu.roomP at this
  rw [h, h2] at this
  exact this
theorem rest_of {q : Qu} (hs : q.small) (p : List (List Int)) (hp : p.length ≤ 1000) (hl : ∀ l ∈ p, l.length ≤ 1000) (fr : Int) (ls : List Ls) (hls : ls.length ≤ 1000) (h : q.restErr p fr ls = 2) : Gives Try.prog 39 [q.pv, planP p, .int .i64 fr, lossP ls] (.tup [.agg [.lst false 1 [], .lst false 3 []], .int .i64 2]) := by
  have := restE_c q hs p hp hl fr ls hls (by rw [h]; decide)
  unfold Qu.restP at this
  rw [h, if_neg (by decide)] at this
  exact this
theorem early_of {q : Qu} (h1 : q.ms.length ≤ 1000000) (h2 : q.rs.length ≤ 1000000) (h3 : ∀ l ∈ q.ms, l.length ≤ 1000000) (hc : q.check = 0) (h : q.layP 408 = none) : Gives Try.prog 27 [q.pv] (.tup [planP [], .int .i64 0, .int .i64 9]) := by
  have := earliest_c (F := 408) (by decide) q h1 h2 h3
  unfold Qu.earlP at this
  rw [if_neg (by simp [hc]), h] at this
  exact this
theorem nm_small : hallQ.small := ⟨by decide, by decide, by decide, by decide⟩
theorem nm_early1 : Gives Try.prog 27 [.agg [hallM, .lst false 3 (longQ.rs.map Rq.pv)]] (.tup [planP [], .int .i64 0, .int .i64 9]) :=
  CallsA.weakA 9 (ys := [longQ.pv]) (early_of (q := longQ) (by decide) (by decide) (by decide) nm_check.1 nm_long) (by decide +kernel)
theorem nm_reason1 : Gives Try.prog 31 [.agg [hallM, .lst false 3 (longQ.rs.map Rq.pv)]] (.tup [intsP [0], .int .i64 0]) := by
  have h := reason_c (F := 408) (by decide) longQ (by decide) (by decide) (by decide)
  unfold Qu.reasP at h
  rw [if_neg (by simp [nm_check.1]), if_neg (by unfold Qu.untilM; rw [nm_long]; decide), nm_longR] at h
  exact CallsA.weakA 9 (ys := [longQ.pv]) h (by decide +kernel)
theorem nm_reason2 : Gives Try.prog 31 [.agg [hallM, .emp (some true)]] (.tup [intsP [], .int .i64 7]) := by
  have h := reason_c (F := 408) (by decide) bareQ (by decide) (by decide) (by decide)
  unfold Qu.reasP at h
  rw [if_neg (by simp [nm_check.2.1]), if_pos (by unfold Qu.untilM; rw [nm_bare]; decide)] at h
  exact CallsA.weakA 9 (ys := [bareQ.pv]) h (by decide +kernel)
theorem nm_early2 : Gives Try.prog 27 [.agg [hallM, .emp (some true)]] (.tup [planP [], .int .i64 0, .int .i64 0]) := by
  have h := earliest_c (F := 408) (by decide) bareQ (by decide) (by decide) (by decide)
  unfold Qu.earlP at h
  rw [if_neg (by simp [nm_check.2.1]), nm_bare] at h
  exact CallsA.weakA 9 (ys := [bareQ.pv]) h (by decide +kernel)
theorem check_of {q : Qu} (h1 : q.ms.length ≤ 1000000) (h2 : q.rs.length ≤ 1000000) (h3 : ∀ l ∈ q.ms, l.length ≤ 1000000) (x : PV) (e : Int) (he : q.check = e) (hw : (decide ([x].length = [q.pv].length) && ([x].zip [q.pv]).all fun p => wkF 9 p.1 p.2) = true) : Gives Try.prog 18 [x] (.int .i64 e) := by
  have h := check_c q h1 h2 h3
  rw [he] at h
  exact CallsA.weakA 9 (ys := [q.pv]) h hw
theorem nm_odd : Gives Try.prog 18 [.agg [hallM, .lst false 3 [.agg [.int .i64 3, .int .i64 0, .emp (some true)], .agg [.int .i64 4, .int .i64 0, onP [true, true]], .agg [.int .i64 2, .int .i64 1, onP [false, true]]]]] (.int .i64 1) :=
  check_of (q := oddQ) (by decide) (by decide) (by decide) _ 1 nm_check.2.2.1 (by decide +kernel)
theorem nm_five : Gives Try.prog 18 [.agg [.lst false 1 [.emp (some true), .emp (some true), .emp (some true), .emp (some true), .emp (some true)], .emp (some true)]] (.int .i64 3) :=
  check_of (q := fiveQ) (by decide) (by decide) (by decide) _ 3 nm_check.2.2.2.1 (by decide +kernel)
theorem nm_seven : Gives Try.prog 18 [.agg [.lst false 1 [rgsP (List.replicate 7 ⟨0, 0⟩)], .emp (some true)]] (.int .i64 3) :=
  check_of (q := sevenQ) (by decide) (by decide) (by decide) _ 3 nm_check.2.2.2.2.1 (by decide +kernel)
theorem nm_none : Gives Try.prog 18 [.agg [.emp (some true), .emp (some true)]] (.int .i64 0) :=
  check_of (q := noneQ) (by decide) (by decide) (by decide) _ 0 nm_check.2.2.2.2.2 (by decide +kernel)
set_option maxHeartbeats 32000000 in
theorem names_law : Gives Try.prog 8 [] (.bool true) := by
  have hs := nm_small
  obtain ⟨r1, r2, r3, r4, r5, r6⟩ := nm_rooms
  have hA := room_of hs [1, 2] (by decide) 5 7 0 (by rw [r1, if_pos rfl]; exact congrArg _ r2) r1
  have hB := room_of hs [0] (by decide) 5 3 0 (by rw [r3, if_pos rfl]; exact congrArg _ r4) r3
  have hC := room_of hs [1, 0] (by decide) 5 0 2 (by rw [r5, if_neg (by decide)]) r5
  have hD := room_of hs [] (by decide) 41 0 2 (by rw [r6, if_neg (by decide)]) r6
  have b1 : hallQ.ms.length ≤ 1000000 := by decide
  have b2 : hallQ.rs.length ≤ 1000000 := by decide
  have b3 : ∀ l ∈ hallQ.ms, l.length ≤ 1000000 := by decide
  have hear := earliest_c (F := 408) (by decide) hallQ b1 b2 b3
  rw [hall_early] at hear
  obtain ⟨p1, p2, p3, p4⟩ := nm_prove
  have hP1 := proves_c hallQ b1 b2 b3 (hallQ.cutP hallP) (by decide +kernel) (by decide +kernel) 6
  have hP2 := proves_c hallQ b1 b2 b3 (hallQ.cutP hallP) (by decide +kernel) (by decide +kernel) 5
  have hP3 := proves_c hallQ b1 b2 b3 (nightL.take 5) (by decide) (by decide) 6
  have hP4 := proves_c hallQ b1 b2 b3 (nightL ++ [[-1, -1]]) (by decide) (by decide) 6
  rw [p1] at hP1
  rw [p2] at hP2
  rw [p3] at hP3
  rw [p4] at hP4
  have hhal := hall_c
  have hnig := night_c
  have hnio := night_o
  have hhao := hall_o
  obtain ⟨E, hE⟩ : ∃ z, z = planP (hallQ.cutP hallP) := ⟨_, rfl⟩
  rw [← hE] at hear hP1 hP2
  have hR1 := rest_of hs (nightL.take 5) (by decide) (by decide) 3 [] (by decide) nm_rest.1
  have hR2 := rest_of hs nightL (by decide) (by decide) 3 [⟨2, 0⟩] (by decide) nm_rest.2.1
  have hR3 := rest_of hs nightL (by decide) (by decide) 41 [] (by decide) nm_rest.2.2
  have hD' : Gives Try.prog 20 [hallQ.pv, .emp (some true), .int .i64 41] (.tup [.int .i64 0, .int .i64 2]) := CallsA.weakA 9 hD (by decide +kernel)
  have hR1' : Gives Try.prog 39 [hallQ.pv, planP (nightL.take 5), .int .i64 3, .emp (some true)] (.tup [.agg [.lst false 1 [], .lst false 3 []], .int .i64 2]) := CallsA.weakA 9 hR1 (by decide +kernel)
  have hR3' : Gives Try.prog 39 [hallQ.pv, planP nightL, .int .i64 41, .emp (some true)] (.tup [.agg [.lst false 1 [], .lst false 3 []], .int .i64 2]) := CallsA.weakA 9 hR3 (by decide +kernel)
  clear hD hR1 hR3
  obtain ⟨H, hH⟩ : ∃ z, z = hallQ.pv := ⟨_, rfl⟩
  rw [← hH] at hhal hA hB hC hD' hear hP1 hP2 hP3 hP4 hR1' hR2 hR3'
  clear hs r1 r2 r3 r4 r5 r6 b1 b2 b3 p1 p2 p3 p4 hE hH
  refine calls_of_awpS mixed L8_ok (Nat.le_of_ble_eq_true rfl) ?_
  generalize hRR : (fun (r : AV) (B : List (Site × Box)) => r = .pv (.bool true) ∧ B = []) = RR
  simp [-getElem?_pos, L8]
  refine .inl (call_pv [] (fs := []) (xs := []) (cs := []) rfl rfl hhal ?_)
  simp [-getElem?_pos, frzsL]
  refine .inl (call_pv [.loc 27 0] (fs := []) (xs := [H, intsP [1, 2], .int .i64 5]) (cs := []) rfl ?_ hA ?_)
  · simp [frzsL, intsP, intP]
  simp [-getElem?_pos, frzsL]
  refine .inl (call_pv [] (fs := []) (xs := []) (cs := []) rfl rfl hhal ?_)
  simp [-getElem?_pos, frzsL]
  refine .inl (call_pv [.loc 33 0] (fs := []) (xs := [H, intsP [0], .int .i64 5]) (cs := []) rfl ?_ hB ?_)
  · simp [frzsL, intsP, intP]
  simp [-getElem?_pos, frzsL]
  refine .inl (call_pv [] (fs := []) (xs := []) (cs := []) rfl rfl hhal ?_)
  simp [-getElem?_pos, frzsL]
  refine .inl (call_pv [] (fs := []) (xs := [H]) (cs := []) rfl rfl hear ?_)
  simp [-getElem?_pos, frzsL]
  refine .inl (call_pv [] (fs := []) (xs := []) (cs := []) rfl rfl hhal ?_)
  simp [-getElem?_pos, frzsL]
  refine .inl (call_pv [] (fs := []) (xs := [H, E, .int .i64 6]) (cs := []) rfl rfl hP1 ?_)
  simp [-getElem?_pos, frzsL]
  refine .inl (call_pv [] (fs := []) (xs := []) (cs := []) rfl rfl hhal ?_)
  simp [-getElem?_pos, frzsL]
  refine .inl (call_pv [] (fs := []) (xs := [H, E, .int .i64 5]) (cs := []) rfl rfl hP2 ?_)
  simp [-getElem?_pos, frzsL]
  refine .inl (call_pv [] (fs := []) (xs := []) (cs := []) rfl rfl hhal ?_)
  simp [-getElem?_pos, frzsL]
  refine .inl (call_pv [] (fs := []) (xs := []) (cs := []) rfl rfl hnig ?_)
  simp [-getElem?_pos, frzsL, planP, nightL]
  refine .inl (call_pv [] (fs := []) (xs := [H, planP (nightL.take 5), .int .i64 6]) (cs := []) rfl rfl hP3 ?_)
  simp [-getElem?_pos, frzsL]
  refine .inl (call_pv [] (fs := []) (xs := []) (cs := []) rfl rfl hhal ?_)
  simp [-getElem?_pos, frzsL]
  refine call_lent (as' := []) (B := []) (fs := []) (cs := []) 80 [] ?_ rfl rfl rfl ?_ ?_ hnio ?_
  · rfl
  · rfl
  · rfl
  rintro x B ⟨rfl, rfl⟩
  refine ⟨rfl, by simp, ?_⟩
  simp [-getElem?_pos, nightL]
  refine .inl (call_pv [.loc 83 0] (fs := []) (xs := [H, planP (nightL ++ [[-1, -1]]), .int .i64 6]) (cs := []) rfl ?_ hP4 ?_)
  · simp [frzsL, planP, nightL, intsP, intP]
  simp [-getElem?_pos, frzsL]
  refine .inl (call_pv [] (fs := []) (xs := []) (cs := []) rfl rfl hhal ?_)
  simp [-getElem?_pos, frzsL]
  refine .inl (call_pv [.loc 89 0] (fs := []) (xs := [H, intsP [1, 0], .int .i64 5]) (cs := []) rfl ?_ hC ?_)
  · simp [frzsL, intsP, intP]
  simp [-getElem?_pos, frzsL]
  refine .inl (call_pv [] (fs := []) (xs := []) (cs := []) rfl rfl hhal ?_)
  simp [-getElem?_pos, frzsL]
  refine .inl (call_pv [] (fs := []) (xs := [H, .emp (some true), .int .i64 41]) (cs := []) rfl rfl hD' ?_)
  simp [-getElem?_pos, frzsL]
  refine .inl (call_pv [] (fs := []) (xs := []) (cs := []) rfl rfl hhal ?_)
  simp [-getElem?_pos, frzsL]
  refine .inl (call_pv [] (fs := []) (xs := []) (cs := []) rfl rfl hnig ?_)
  simp [-getElem?_pos, frzsL, planP, nightL]
  refine .inl (call_pv [] (fs := []) (xs := [H, planP (nightL.take 5), .int .i64 3, .emp (some true)]) (cs := []) rfl rfl hR1' ?_)
  simp [-getElem?_pos, frzsL]
  refine .inl (call_pv [] (fs := []) (xs := []) (cs := []) rfl rfl hhal ?_)
  simp [-getElem?_pos, frzsL]
  refine .inl (call_pv [] (fs := []) (xs := []) (cs := []) rfl rfl hnig ?_)
  simp [-getElem?_pos, frzsL]
  refine .inl (call_pv [.loc 109 0] (fs := []) (xs := [H, planP nightL, .int .i64 3, lossP [⟨2, 0⟩]]) (cs := []) rfl ?_ hR2 ?_)
  · simp [frzsL, lossP, Ls.pv]
  simp [-getElem?_pos, frzsL]
  refine .inl (call_pv [] (fs := []) (xs := []) (cs := []) rfl rfl hhal ?_)
  simp [-getElem?_pos, frzsL]
  refine .inl (call_pv [] (fs := []) (xs := []) (cs := []) rfl rfl hnig ?_)
  simp [-getElem?_pos, frzsL]
  refine .inl (call_pv [] (fs := []) (xs := [H, planP nightL, .int .i64 41, .emp (some true)]) (cs := []) rfl rfl hR3' ?_)
  simp [-getElem?_pos, frzsL]
  refine call_lent (as' := []) (B := []) (fs := []) (cs := []) 119 [] ?_ rfl rfl rfl ?_ ?_ hhao ?_
  · rfl
  · rfl
  · rfl
  rintro x B ⟨rfl, rfl⟩
  refine ⟨rfl, by simp, ?_⟩
  simp [-getElem?_pos, hallQ, Rq.pv, setAt, nblt]
  refine call_lent (as' := []) (B := []) (fs := []) (cs := []) 120 [] ?_ rfl rfl rfl ?_ ?_ hhao ?_
  · rfl
  · rfl
  · rfl
  rintro x B ⟨rfl, rfl⟩
  refine ⟨rfl, by simp, ?_⟩
  simp [-getElem?_pos, hallQ, Rq.pv, setAt, nblt]
  refine call_lent (as' := []) (B := []) (fs := []) (cs := []) 121 [] ?_ rfl rfl rfl ?_ ?_ hhao ?_
  · rfl
  · rfl
  · rfl
  rintro x B ⟨rfl, rfl⟩
  refine ⟨rfl, by simp, ?_⟩
  simp [-getElem?_pos, hallQ, Rq.pv, setAt, nblt]
  refine .inl (call_pv [.loc 119 0] (fs := []) (xs := [.agg [hallM, .lst false 3 (longQ.rs.map Rq.pv)]]) (cs := []) rfl ?_ nm_early1 ?_)
  · simp [frzsL, longQ, Rq.pv]
  simp [-getElem?_pos, frzsL]
  refine .inl (call_pv [] (fs := []) (xs := [.agg [hallM, .lst false 3 (longQ.rs.map Rq.pv)]]) (cs := []) rfl ?_ nm_reason1 ?_)
  · simp [frzsL, longQ, Rq.pv]
  simp [-getElem?_pos, frzsL]
  refine .inl (call_pv [] (fs := []) (xs := [.agg [hallM, .emp (some true)]]) (cs := []) rfl ?_ nm_reason2 ?_)
  · simp [frzsL]
  simp [-getElem?_pos, frzsL]
  refine .inl (call_pv [] (fs := []) (xs := [.agg [hallM, .emp (some true)]]) (cs := []) rfl ?_ nm_early2 ?_)
  · simp [frzsL]
  have hint := ints_c [0] [0] (by decide)
  rw [show decide (([0] : List Int) = [0]) = true by decide] at hint
  simp [-getElem?_pos, frzsL]
  refine .inl (call_pv [.loc 181 0] (fs := []) (xs := [intsP [0], intsP [0]]) (cs := []) rfl ?_ hint ?_)
  · simp [frzsL, intsP, intP]
  simp [-getElem?_pos, frzsL, planP]
  refine .inl (call_pv [.loc 121 0] (fs := []) (xs := [.agg [hallM, .lst false 3 [.agg [.int .i64 3, .int .i64 0, .emp (some true)], .agg [.int .i64 4, .int .i64 0, onP [true, true]], .agg [.int .i64 2, .int .i64 1, onP [false, true]]]]]) (cs := []) rfl ?_ nm_odd ?_)
  · simp [frzsL, onP]
  have hn5 : natI 5 = some 5 := rfl
  have hn7 : natI 7 = some 7 := rfl
  simp [-getElem?_pos, frzsL, hn5, nble]
  refine .inl (call_pv [.loc 207 0] (fs := []) (xs := [.agg [.lst false 1 [.emp (some true), .emp (some true), .emp (some true), .emp (some true), .emp (some true)], .emp (some true)]]) (cs := []) rfl ?_ nm_five ?_)
  · simp [frzsL]
  simp [-getElem?_pos, frzsL, hn7, nble]
  refine .inl (call_pv [.loc 214 0] (fs := []) (xs := [.agg [.lst false 1 [rgsP (List.replicate 7 ⟨0, 0⟩)], .emp (some true)]]) (cs := []) rfl ?_ nm_seven ?_)
  · simp [frzsL, rgsP, Rg.pv, List.replicate]
  simp [-getElem?_pos, frzsL]
  refine .inl (call_pv [] (fs := []) (xs := [.agg [.emp (some true), .emp (some true)]]) (cs := []) rfl ?_ nm_none ?_)
  · simp [frzsL]
  simp [-getElem?_pos, frzsL]
  refine .inl (call_pv [] (fs := []) (xs := []) (cs := []) rfl rfl wakes_c ?_)
  simp [-getElem?_pos, frzsL]
  rw [← hRR]; exact ⟨rfl, rfl⟩
end Go.Proofs.Ytohhjnpiiackjaa

/-! The statement QueueNames holds: the law answers true. No conditions. -/
namespace Go.Proofs.Ytohhjnpiiackjaa
open Go.ChangeShapes Go.WideShapes Go.ChangeAt Go.RowKit

set_option maxRecDepth 100000 in
theorem walkQueueNames (W : World) :
    Calls Try.prog 8 #[] W fun e w' => e = .returned (.bool true) ∧ Keep [] W w' := by
  refine calls_bool (xs := []) (b := true) ((names_law).mono (fun _ _ h => h.1)) rfl (fun j v x e1 e2 => ?_)
  match j with
  | j => simp at e1
set_option maxRecDepth 100000 in
theorem liftedQueueNames (os : Os) (started : os.Started) (H : Type) (enc : TypeId × Value → H) :
    ReturnsInHanded {} Try.checked os 8 .any (Rows.queueNamesSpec.pre6 enc Try.prog Try.f8 Rows.queueNamesRow.domain false) (Rows.queueNamesSpec.post enc Try.prog Try.f8 false true false false) := by
  refine returnsInHanded_of_change (C := Try.checked) own started (by kernel_rfl) Try.func8
    (ChangeSpec.witness6 (enc := enc) (C := Try.checked) false ⟨#[], #[], []⟩ 8 (by kernel_rfl) (by kernel_rfl) (by kernel_rfl) (by kernel_rfl)) ?_
  intro W base args ds gs before hval0 hW hcnd _
  have hval : ∀ (j : Nat) t v, Try.f8.params[j]? = some t → args[j]? = some v → Value.okWide Try.prog W .any base t v := hval0
  have hW' := hW
  obtain ⟨p, q, hA0, hV, rfl, hfz, hnd⟩ := hW
  have hA : DataW.TrodAll enc Try.prog W 0 (fun _ => true) true Try.f8.params.toList args.toList ds p := hA0
  rw [Try.params8] at hA hval
  obtain ⟨rfl, rfl, rfl⟩ := trodAll_none hA
  obtain ⟨rfl, rfl⟩ := trodVars_none hV
  refine (walkQueueNames W).mono fun e W' ⟨he, hk⟩ => ?_
  subst he
  exact ⟨_, rfl, post_law (tb := 4) laidP rowedP fullP (by decide +kernel) rfl rfl rfl Try.underlying4 hW' hk⟩
theorem overQueueNames : Rows.queueNamesRow.holds Try.pinned (OpenSpec.ofChange Rows.queueNamesSpec) :=
  OpenClaim.holds_of_wide 8 Try.f8 rfl rfl rfl rfl rfl rfl rfl ⟨rfl, rfl, rfl, rfl, rfl⟩ rfl rfl rfl rfl rfl (by kernel_rfl) Try.func8 (by kernel_rfl)
    (of_decide_eq_true (by kernel_rfl)) (by unfold Func.isWrapper; first | (rw [if_pos (by decide +kernel)]; kernel_rfl) | (rw [if_neg (by decide +kernel)]; exact ⟨rfl, rfl⟩))
    (fun os started H enc _ => liftedQueueNames os started H enc)
theorem provedQueueNames : Rows.QueueNamesSaid := overQueueNames
end Go.Proofs.Ytohhjnpiiackjaa
