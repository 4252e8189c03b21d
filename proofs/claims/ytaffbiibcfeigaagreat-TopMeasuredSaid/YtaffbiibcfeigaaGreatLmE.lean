/- Contracts of layer 1 (curve): the ends of the spans of the yield's load and of the proof load. (Several texts in one.) -/
import Derived.Test.YtaffbiibcfeigaaGreatLmD
import Derived.Test.YtaffbiibcfeigaaGreatLmB
import Derived.Test.YtaffbiibcfeigaaGreatCodeB
import Derived.Test.YtaffbiibcfeigaaGreatLmC
import Derived.Test.YtaffbiibcfeigaaGreatTpA
import Derived.Test.YtaffbiibcfeigaaGreatBaseD
import Derived.Test.YtaffbiibcfeigaaGreatChF
import Derived.Test.YtaffbiibcfeigaaGreatChI
import Derived.Test.YtaffbiibcfeigaaGreatChH
set_option linter.unusedVariables false
set_option linter.unusedSimpArgs false
/-! Contracts of layer 1 (curve): the ends of the spans of the yield's load and of the proof load. -/
namespace Go.Proofs.YtaffbiibcfeigaaGreat
open Go.RowKit
set_option maxRecDepth 10000
set_option linter.unusedSimpArgs false
section
attribute [local simp] Box.purge Site.isLoc
attribute [local simp] retFz frzL AS.frz AV.frz AV.frzL Box.frz AS.tidy AS.frzC
attribute [local simp] AS.exp expG Box.ren AV.map AV.mapL noRet Site.isRet Box.allS AV.allS AV.allSL dropL AS.adds renL outG outOk lentBx inG fnOf
theorem yFo_en {r : Rl} {ps : List Pt} : yFo r ps (ps.length - 1) = enM r ps 1 := rfl
set_option maxHeartbeats 4000000 in
theorem ends2_c (ps : List Pt) (r : Rl) (hp : cvOk ps = true) (hr : r.ok = true) (a b : List Int) (he : enM r ps 2 = some (a, b)) : Gives Tryz.prog 120 [rdgP ps r, .int .u8 2] (.tup [.agg (padX a ++ padX b), .bool true]) := by
  have h1 := strengths_c ps r
  have h2 := yields0_c ps r
  have h3 := meetings_c ps r
  have h4 := works_c ps r
  refine calls_of_awpW [] [] mixed L120_ok (Nat.le_of_ble_eq_true rfl) ?_
  generalize hR : (fun (q : AV) (B : List (Site × Box)) => q = .pv (.tup [.agg (padX a ++ padX b), .bool true]) ∧ B = []) = R
  simp [-getElem?_pos, L120, rdgP]
  refine call_pv [.loc 2 0, .loc 3 0] (fs := []) (xs := [rdgP ps r]) (cs := []) rfl rfl h1 ?_
  simp [-getElem?_pos, frzsL, unpvs]
  refine .inr ⟨[], _, [], [rdgP ps r], [], rfl, rfl, h2.mono ?_⟩
  rintro q B ⟨rfl, rfl⟩
  refine ⟨⟨rfl, by simp [leX]⟩, ?_⟩
  simp [-getElem?_pos, frzsL, unpvs, renB, toLoc, ylF, leX]
  refine call_pv [] (fs := []) (xs := [rdgP ps r]) (cs := []) rfl rfl h3 ?_
  simp [-getElem?_pos, frzsL]
  refine call_pv [] (fs := []) (xs := [rdgP ps r]) (cs := []) rfl rfl h4 ?_
  simp [-getElem?_pos, frzsL]
  have hab : loadsB ps a ∧ loadsB ps b := by
    have := mFo_live hp (r := r) (Nat.le_refl ps.length)
    exact this (a, b) he
  have hlen := cv_len hp
  have hx1 := padX_len (l := a) (by have := hab.1.1; omega)
  have hx2 := padX_len (l := b) (by have := hab.2.1; omega)
  have hit := meetings1_c ps r hp hr
  unfold mgB at hit
  rw [he] at hit
  have hkb : Nat.blt 2 4 = true := rfl
  simp [osel_noneR, opWp, -getElem?_pos, AV.one, unpvs, hkb]
  refine rng_lent [.loc 60 0, .loc 4 0, .loc 5 0, .loc 7 0] [(4, .ptr (.loc 4 0) 0), (5, .ptr (.loc 5 0) 0), (7, .ptr (.loc 7 0) 0)] (gf := 231) (fs := []) (cs := [.pv (rdgR ps r)]) ?_ ?_ rfl rfl ?_ ?_ ?_ hit ?_
  · rfl
  · simp
  · simp [enX, laid, trZ, List.findIdx?_cons, rdgR, padX_z]
  · rfl
  · rfl
  rintro q B' ⟨rfl, rfl⟩
  refine ⟨rfl, ?_, ?_⟩
  · exact fun p hq => laid_ok (n := 4) (L := enX ps r 2 (some (a, b))) (by simp [enX]) ((enI ps r hp hr 2 (by omega)).cl (some (a, b)) ()) p hq
  refine ⟨_, _, _, _, _, rfl, ?_⟩
  obtain ⟨XL, hXL⟩ : ∃ X, X = padX a := ⟨_, rfl⟩
  obtain ⟨XH, hXH⟩ : ∃ X, X = padX b := ⟨_, rfl⟩
  rw [← hXL] at hx1 hR
  rw [← hXH] at hx2 hR
  have ht40 : List.take 40 (List.map AV.pv XL ++ List.map AV.pv XH) = List.map AV.pv XL ++ List.map AV.pv XH := List.take_of_length_le (by simp [hx1, hx2])
  have hd40 : List.drop 40 (List.map AV.pv XL ++ List.map AV.pv XH) = [] := List.drop_eq_nil_of_le (by simp [hx1, hx2])
  have hm40 := fun d => mapPV_mapA (g := outG [Site.loc 60 0, Site.loc 4 0, Site.loc 5 0, Site.loc 7 0] d) (A := XL) (B := XH)
  simp [-getElem?_pos, enX, trZ, laid, jumpQ, ← hXL, ← hXH, hm40, ht40, hx1, hx2, unpvs_app2]
  refine ltS_seq ⟨[(4, .ptr (.loc 4 0) 0), (5, .ptr (.loc 5 0) 0), (59, .pv (.bool true))], [(.loc 4 0, .cells (List.map AV.pv XL ++ List.map AV.pv XH)), (.loc 5 0, .cells [.pv (.bool true)])]⟩ ?_ ?_
  · simp [ltS_alt, ltS_no, -getElem?_pos, hx1, hx2, hd40, ht40]
    repeat' (with_reducible refine And.intro ?_ ?_)
    all_goals exact Sub.mk (by simp) (by simp)
  · simp [ltS_alt, ltS_no, -getElem?_pos, hx1, hx2, hd40, ht40, unpvs_app2]
    rw [← hR]
    simp [retB, outsOk, -getElem?_pos, unpvs_app2, ht40, hx1, hx2, mapPV_allA]
set_option maxHeartbeats 4000000 in
theorem ends1_c (ps : List Pt) (r : Rl) (hp : cvOk ps = true) (hr : r.ok = true) (a b : List Int) (he : enM r ps 1 = some (a, b)) : Gives Tryz.prog 120 [rdgP ps r, .int .u8 1] (.tup [.agg (padX a ++ padX b), .bool true]) := by
  have h1 := strengths_c ps r
  have h2 := yields0_c ps r
  have h3 := meetings_c ps r
  have h4 := works_c ps r
  refine calls_of_awpW [] [] mixed L120_ok (Nat.le_of_ble_eq_true rfl) ?_
  generalize hR : (fun (q : AV) (B : List (Site × Box)) => q = .pv (.tup [.agg (padX a ++ padX b), .bool true]) ∧ B = []) = R
  simp [-getElem?_pos, L120, rdgP]
  refine call_pv [.loc 2 0, .loc 3 0] (fs := []) (xs := [rdgP ps r]) (cs := []) rfl rfl h1 ?_
  simp [-getElem?_pos, frzsL, unpvs]
  refine .inr ⟨[], _, [], [rdgP ps r], [], rfl, rfl, h2.mono ?_⟩
  rintro q B ⟨rfl, rfl⟩
  refine ⟨⟨rfl, by simp [leX]⟩, ?_⟩
  simp [-getElem?_pos, frzsL, unpvs, renB, toLoc, ylF, leX]
  refine call_pv [] (fs := []) (xs := [rdgP ps r]) (cs := []) rfl rfl h3 ?_
  simp [-getElem?_pos, frzsL]
  refine call_pv [] (fs := []) (xs := [rdgP ps r]) (cs := []) rfl rfl h4 ?_
  simp [-getElem?_pos, frzsL]
  have hab : loadsB ps a ∧ loadsB ps b := by
    have hr' := hr
    unfold Rl.ok at hr'
    simp only [decide_eq_true_eq] at hr'
    have := yFo_live hp (r := r) hr'.1 (show ps.length - 1 ≤ ps.length by omega)
    exact this (a, b) he
  have hlen := cv_len hp
  have hx1 := padX_len (l := a) (by have := hab.1.1; omega)
  have hx2 := padX_len (l := b) (by have := hab.2.1; omega)
  have hit := yields1_c ps r hp hr
  rw [yFo_en, he] at hit
  have hkb : Nat.blt 1 4 = true := rfl
  simp [osel_noneR, opWp, -getElem?_pos, AV.one, unpvs, hkb]
  refine rng_lent [.loc 60 0, .loc 4 0, .loc 5 0, .loc 7 0, .loc 13 0, .loc 13 1, .loc 13 2] [(4, .ptr (.loc 4 0) 0), (5, .ptr (.loc 5 0) 0), (7, .ptr (.loc 7 0) 0)] (gf := 230) (fs := []) (cs := [.pv (rdgR ps r), .ptr (.loc 13 2) 0, .pv (.ref [.fn 229 [] [rdgR ps r]])]) ?_ ?_ rfl rfl ?_ ?_ ?_ hit ?_
  · rfl
  · simp
  · simp [yeB, enX, laid, trZ, List.findIdx?_cons, rdgR, padX_z, leX]
  · rfl
  · rfl
  rintro q B' ⟨rfl, es, rfl⟩
  refine ⟨rfl, ?_, ?_⟩
  · refine fun p hq => laid_ok (n := 7) (L := enX ps r 1 (some (a, b)) ++ [.cells [.mp (.par 5)], .map es, leX ps r (.par 4) (.par 6)]) (by simp [enX]) ?_ p hq
    intro bx hb
    simp only [enX, List.mem_append, List.mem_cons, List.not_mem_nil, or_false] at hb
    rcases hb with (rfl | rfl | rfl | rfl) | rfl | rfl | rfl
    · simp [Site.lt]
    · exact mapPV_allR _
    · rfl
    · rfl
    · rfl
    · rfl
    · rfl
  refine ⟨_, _, _, _, _, rfl, ?_⟩
  obtain ⟨XL, hXL⟩ : ∃ X, X = padX a := ⟨_, rfl⟩
  obtain ⟨XH, hXH⟩ : ∃ X, X = padX b := ⟨_, rfl⟩
  rw [← hXL] at hx1 hR
  rw [← hXH] at hx2 hR
  have ht40 : List.take 40 (List.map AV.pv XL ++ List.map AV.pv XH) = List.map AV.pv XL ++ List.map AV.pv XH := List.take_of_length_le (by simp [hx1, hx2])
  have hd40 : List.drop 40 (List.map AV.pv XL ++ List.map AV.pv XH) = [] := List.drop_eq_nil_of_le (by simp [hx1, hx2])
  have hm40 := fun d => mapPV_mapA (g := outG [Site.loc 60 0, Site.loc 4 0, Site.loc 5 0, Site.loc 7 0, Site.loc 13 0, Site.loc 13 1, Site.loc 13 2] d) (A := XL) (B := XH)
  simp [-getElem?_pos, yeB, leX, enX, trZ, laid, jumpQ, ← hXL, ← hXH, hm40, ht40, hx1, hx2, unpvs_app2]
  refine ltS_seq ⟨[(4, .ptr (.loc 4 0) 0), (5, .ptr (.loc 5 0) 0), (59, .pv (.bool true))], [(.loc 4 0, .cells (List.map AV.pv XL ++ List.map AV.pv XH)), (.loc 5 0, .cells [.pv (.bool true)])]⟩ ?_ ?_
  · simp [ltS_alt, ltS_no, -getElem?_pos, hx1, hx2, hd40, ht40]
    repeat' (with_reducible refine And.intro ?_ ?_)
    all_goals exact Sub.mk (by simp) (by simp)
  · simp [ltS_alt, ltS_no, -getElem?_pos, hx1, hx2, hd40, ht40, unpvs_app2]
    rw [← hR]
    simp [retB, outsOk, -getElem?_pos, unpvs_app2, ht40, hx1, hx2, mapPV_allA]
end
end Go.Proofs.YtaffbiibcfeigaaGreat
/-! Contracts of layer 1 (curve): the span of what a kind names, if a truth has it. -/
namespace Go.Proofs.YtaffbiibcfeigaaGreat
open Go.RowKit
set_option maxRecDepth 10000
theorem truspan_c (ps : List Pt) (r : Rl) (l : List Int) (hp : cvOk ps = true) (hr : r.ok = true) (ht : cvTru ps l = true) (kind : Nat) (hk : kind = 0 ∨ kind = 3 ∨ (kind = 1 ∧ (yP r l ps.length).1 ≠ -1) ∨ (kind = 2 ∧ (mP r ps l ps.length).1 ≠ -1)) :
    ∃ a b : Int, Gives Tryz.prog 36 [cvP ps, r.pv, .int .u8 kind] (.tup [.agg [.int .i64 a, .int .i64 b], .int .i64 0]) ∧ a ≤ numM r ps kind l ∧ numM r ps kind l ≤ b := by
  obtain ⟨a, b, h1, h2, h3⟩ := span_in hp hr ht kind hk
  refine ⟨numM r ps kind a, numM r ps kind b, ?_, h2, h3⟩
  have hr' := hr
  unfold Rl.ok at hr'
  simp only [decide_eq_true_eq] at hr'
  have h0 : ∀ kind : Nat, kind = 0 ∨ kind = 3 → enM r ps kind = some (a, b) → Gives Tryz.prog 36 [cvP ps, r.pv, .int .u8 kind] (.tup [.agg [.int .i64 (numM r ps kind a), .int .i64 (numM r ps kind b)], .int .i64 0]) := by
    intro kind hk h
    have : (a, b) = (loL ps, hiL ps) := by
      rcases hk with rfl | rfl
      · exact (Option.some.inj h).symm
      · exact (Option.some.inj h).symm
    cases this
    exact span1_c ps r hp hr kind (by omega) _ _ (tru_loads hp (lo_tru hp)) (tru_loads hp (hi_tru hp)) (ends0_c ps r hp hr kind hk)
  rcases hk with rfl | rfl | ⟨rfl, _⟩ | ⟨rfl, _⟩
  · exact h0 0 (.inl rfl) h1
  · exact h0 3 (.inr rfl) h1
  · have hab := yFo_live hp (r := r) hr'.1 (show ps.length - 1 ≤ ps.length by omega) (a, b) h1
    exact span1_c ps r hp hr 1 (by omega) a b hab.1 hab.2 (ends1_c ps r hp hr a b h1)
  · have hab := mFo_live hp (r := r) (Nat.le_refl ps.length) (a, b) h1
    exact span1_c ps r hp hr 2 (by omega) a b hab.1 hab.2 (ends2_c ps r hp hr a b h1)
theorem strspan_c (ps : List Pt) (r : Rl) (hp : cvOk ps = true) (hr : r.ok = true) : Gives Tryz.prog 36 [cvP ps, r.pv, .int .u8 0] (.tup [.agg [.int .i64 (sP (loL ps) ps.length).1, .int .i64 (sP (hiL ps) ps.length).1], .int .i64 0]) :=
  span1_c ps r hp hr 0 (by omega) _ _ (tru_loads hp (lo_tru hp)) (tru_loads hp (hi_tru hp)) (ends0_c ps r hp hr 0 (.inl rfl))
end Go.Proofs.YtaffbiibcfeigaaGreat
/-! The L-code of TopMeasured (printed). -/
namespace Go.Proofs.YtaffbiibcfeigaaGreat
open Go.RowKit
set_option maxRecDepth 100000
noncomputable section
def LtopMeasured : LFn := ⟨272, (.seq (.region [⟨(some 7), none, (.box 2 (.t 0)), true⟩, ⟨(some 13), none, (.box 3 (.t 6)), true⟩, ⟨(some 14), none, (.mov (.c (.bool false))), true⟩]) (.seq (.seq (.region [⟨(some 39), none, (.load true 2 (.t 7)), true⟩, ⟨(some 40), none, (.call (.c (.fn 7 [] [])) [(.t 39)]), true⟩, ⟨(some 41), none, (.not (.t 40)), true⟩, ⟨(some 42), none, (.mov (.t 41)), true⟩, ⟨(some 43), (some (42, false)), (.load true 2 (.t 7)), true⟩, ⟨(some 44), (some (42, false)), (.call (.c (.fn 8 [] [])) [(.t 43)]), true⟩, ⟨(some 45), (some (42, false)), (.bin false .neq (.t 44) (.c (.int .i64 (0)))), true⟩, ⟨(some 46), none, (.pick (.t 42) (.c (.bool true)) (.t 45)), true⟩, ⟨(some 47), none, (.mov (.t 46)), true⟩, ⟨(some 48), (some (47, false)), (.fa 0 (.t 7)), true⟩, ⟨(some 49), (some (47, false)), (.load false 1 (.t 48)), true⟩, ⟨(some 50), (some (47, false)), (.len none (.t 49)), true⟩, ⟨(some 51), (some (47, false)), (.bin false .eql (.t 50) (.c (.int .i64 (0)))), true⟩, ⟨(some 52), none, (.pick (.t 47) (.c (.bool true)) (.t 51)), true⟩, ⟨(some 53), none, (.mov (.t 52)), true⟩, ⟨(some 54), (some (53, false)), (.mov (.t 5)), true⟩, ⟨(some 55), (some (53, false)), (.len none (.t 54)), true⟩, ⟨(some 56), (some (53, false)), (.bin false .gtr (.t 55) (.c (.int .i64 (20)))), true⟩, ⟨(some 57), none, (.pick (.t 53) (.c (.bool true)) (.t 56)), true⟩, ⟨(some 58), none, (.mov (.t 57)), true⟩, ⟨(some 59), (some (58, false)), (.load true 3 (.t 13)), true⟩, ⟨(some 60), (some (58, false)), (.call (.c (.fn 29 [] [])) [(.t 59)]), true⟩, ⟨(some 61), (some (58, false)), (.not (.t 60)), true⟩, ⟨(some 62), none, (.pick (.t 58) (.c (.bool true)) (.t 61)), true⟩]) (.cond (.t 62) (.seq (.region [⟨(some 63), none, (.call (.c (.fn 30 [] [])) []), true⟩, ⟨(some 14), none, (.mov (.t 63)), true⟩]) .ret) .skip)) (.seq (.region [⟨(some 65), none, (.load true 2 (.t 7)), true⟩, ⟨(some 66), none, (.mov (.t 1)), true⟩, ⟨(some 67), none, (.call (.c (.fn 12 [] [])) [(.t 65), (.t 66)]), true⟩, ⟨(some 64), none, (.mov (.t 67)), true⟩, ⟨(some 68), none, (.ext (.t 64) 0), true⟩, ⟨(some 69), none, (.ext (.t 64) 1), true⟩, ⟨(some 15), none, (.alloc (.agg [(.emp (some true)), (.emp (some true))])), true⟩, ⟨none, none, (.store 2 (.t 15) (.t 68)), true⟩, ⟨(some 16), none, (.mov (.t 69)), true⟩]) (.seq (.seq (.region [⟨(some 70), none, (.mov (.t 16)), true⟩, ⟨(some 71), none, (.not (.t 70)), true⟩]) (.cond (.t 71) (.seq (.region [⟨(some 72), none, (.call (.c (.fn 30 [] [])) []), true⟩, ⟨(some 14), none, (.mov (.t 72)), true⟩]) .ret) .skip)) (.seq (.region [⟨(some 73), none, (.load true 2 (.t 15)), true⟩, ⟨(some 17), none, (.alloc (.agg [(.emp (some true)), (.emp (some true))])), true⟩, ⟨none, none, (.store 2 (.t 17) (.t 73)), true⟩]) (.seq (.seq (.region [⟨(some 18), none, (.mov (.c (.int .i64 (1)))), true⟩]) (.block 0 (.loop (.seq (.seq (.region [⟨(some 74), none, (.mov (.t 18)), true⟩, ⟨(some 75), none, (.bin false .leq (.t 74) (.c (.int .i64 (999)))), true⟩]) (.cond (.t 75) .skip (.exit 0))) (.seq (.block 1 (.seq (.region [⟨(some 78), none, (.mov (.t 4)), true⟩, ⟨(some 79), none, (.mov (.t 18)), true⟩, ⟨(some 80), none, (.bin false .rem (.t 79) (.c (.int .i64 (31)))), true⟩, ⟨(some 81), none, (.conv .u64 (.t 80)), true⟩, ⟨(some 82), none, (.bin false .shr (.t 78) (.t 81)), true⟩, ⟨(some 83), none, (.bin false .rem (.t 82) (.c (.int .u32 (2)))), true⟩, ⟨(some 84), none, (.bin false .eql (.t 83) (.c (.int .u32 (1)))), true⟩]) (.cond (.t 84) (.region [⟨(some 85), none, (.load true 2 (.t 17)), true⟩, ⟨(some 86), none, (.mov (.t 18)), true⟩, ⟨(some 87), none, (.call (.c (.fn 23 [] [])) [(.t 85), (.t 86)]), true⟩, ⟨none, none, (.store 2 (.t 17) (.t 87)), true⟩]) .skip))) (.region [⟨(some 76), none, (.mov (.t 18)), true⟩, ⟨(some 77), none, (.bin false .add (.t 76) (.c (.int .i64 (1)))), true⟩, ⟨(some 18), none, (.mov (.t 77)), true⟩])))))) (.seq (.region [⟨(some 88), none, (.mov (.t 2)), true⟩, ⟨(some 89), none, (.conv .i64 (.t 88)), true⟩, ⟨(some 90), none, (.fa 0 (.t 7)), true⟩, ⟨(some 91), none, (.load false 1 (.t 90)), true⟩, ⟨(some 92), none, (.len none (.t 91)), true⟩, ⟨(some 93), none, (.bin false .rem (.t 89) (.t 92)), true⟩, ⟨(some 94), none, (.mov (.t 3)), true⟩, ⟨(some 95), none, (.conv .i64 (.t 94)), true⟩, ⟨(some 96), none, (.bin false .rem (.t 95) (.c (.int .i64 (1001)))), true⟩, ⟨(some 19), none, (.mov (.t 93)), true⟩, ⟨(some 20), none, (.mov (.t 96)), true⟩]) (.seq (.region [⟨(some 98), none, (.load true 2 (.t 15)), true⟩, ⟨(some 99), none, (.mov (.t 19)), true⟩, ⟨(some 100), none, (.mov (.t 20)), true⟩, ⟨(some 101), none, (.mov (.t 1)), true⟩, ⟨(some 102), none, (.mov (.t 5)), true⟩, ⟨(some 103), none, (.call (.c (.fn 31 [] [])) [(.t 98), (.t 99), (.t 100), (.t 101), (.t 102)]), true⟩, ⟨(some 97), none, (.mov (.t 103)), true⟩, ⟨(some 104), none, (.ext (.t 97) 0), true⟩, ⟨(some 105), none, (.ext (.t 97) 1), true⟩, ⟨(some 106), none, (.ext (.t 97) 2), true⟩, ⟨(some 21), none, (.alloc (.agg [(.emp (some true))])), true⟩, ⟨none, none, (.store 1 (.t 21) (.t 104)), true⟩, ⟨(some 22), none, (.mov (.t 105)), true⟩, ⟨(some 23), none, (.mov (.t 106)), true⟩]) (.seq (.seq (.region [⟨(some 107), none, (.mov (.t 23)), true⟩, ⟨(some 108), none, (.not (.t 107)), true⟩]) (.cond (.t 108) (.seq (.region [⟨(some 109), none, (.call (.c (.fn 30 [] [])) []), true⟩, ⟨(some 14), none, (.mov (.t 109)), true⟩]) .ret) .skip)) (.seq (.seq (.region [⟨(some 110), none, (.load true 1 (.t 21)), true⟩, ⟨(some 111), none, (.mov (.t 22)), true⟩, ⟨(some 112), none, (.call (.c (.fn 32 [] [])) [(.t 110), (.t 111)]), true⟩, ⟨(some 113), none, (.not (.t 112)), true⟩]) (.cond (.t 113) (.seq (.region [⟨(some 14), none, (.mov (.c (.bool false))), true⟩]) .ret) .skip)) (.seq (.regT (.op ⟨(some 119), none, (.mov (.t 22)), false⟩ (.op ⟨(some 115), none, (.load true 1 (.t 21)), false⟩ (.op ⟨(some 117), none, (.load true 3 (.t 13)), false⟩ (.seq (.alt ⟨(some 116), none, (.call (.c (.fn 34 [] [])) [(.t 115)]), false⟩ (.alt ⟨(some 118), none, (.call (.c (.fn 35 [] [])) [(.t 117)]), true⟩ (.alt ⟨(some 120), none, (.app0 3 1 8 (.c (.emp (some true))) (.t 119)), true⟩ (.alt ⟨(some 121), none, (.call (.c (.fn 33 [] [])) [(.t 116), (.t 118), (.t 120)]), true⟩ (.op ⟨(some 114), none, (.mov (.t 121)), true⟩ (.op ⟨(some 122), none, (.ext (.t 114) 0), true⟩ (.op ⟨(some 123), none, (.ext (.t 114) 1), true⟩ (.alt ⟨(some 24), none, (.alloc (.agg [(.int .i64 (0)), (.int .i64 (0)), (.int .i64 (0)), (.int .i64 (0)), (.int .i64 (0)), (.int .i64 (0)), (.int .i64 (0))])), false⟩ (.alt ⟨none, none, (.store 7 (.t 24) (.t 122)), true⟩ .done .no) .no)))) (.alt ⟨(some 24), none, (.alloc (.agg [(.int .i64 (0)), (.int .i64 (0)), (.int .i64 (0)), (.int .i64 (0)), (.int .i64 (0)), (.int .i64 (0)), (.int .i64 (0))])), false⟩ (.alt ⟨(some 121), none, (.call (.c (.fn 33 [] [])) [(.t 116), (.t 118), (.t 120)]), true⟩ (.op ⟨(some 114), none, (.mov (.t 121)), true⟩ (.op ⟨(some 122), none, (.ext (.t 114) 0), true⟩ (.op ⟨(some 123), none, (.ext (.t 114) 1), true⟩ (.alt ⟨none, none, (.store 7 (.t 24) (.t 122)), true⟩ .done .no)))) .no) .no)) (.alt ⟨(some 24), none, (.alloc (.agg [(.int .i64 (0)), (.int .i64 (0)), (.int .i64 (0)), (.int .i64 (0)), (.int .i64 (0)), (.int .i64 (0)), (.int .i64 (0))])), false⟩ (.alt ⟨(some 120), none, (.app0 3 1 8 (.c (.emp (some true))) (.t 119)), true⟩ (.alt ⟨(some 121), none, (.call (.c (.fn 33 [] [])) [(.t 116), (.t 118), (.t 120)]), true⟩ (.op ⟨(some 114), none, (.mov (.t 121)), true⟩ (.op ⟨(some 122), none, (.ext (.t 114) 0), true⟩ (.op ⟨(some 123), none, (.ext (.t 114) 1), true⟩ (.alt ⟨none, none, (.store 7 (.t 24) (.t 122)), true⟩ .done .no)))) .no) .no) .no)) (.alt ⟨(some 24), none, (.alloc (.agg [(.int .i64 (0)), (.int .i64 (0)), (.int .i64 (0)), (.int .i64 (0)), (.int .i64 (0)), (.int .i64 (0)), (.int .i64 (0))])), false⟩ (.alt ⟨(some 118), none, (.call (.c (.fn 35 [] [])) [(.t 117)]), true⟩ (.alt ⟨(some 120), none, (.app0 3 1 8 (.c (.emp (some true))) (.t 119)), true⟩ (.alt ⟨(some 121), none, (.call (.c (.fn 33 [] [])) [(.t 116), (.t 118), (.t 120)]), true⟩ (.op ⟨(some 114), none, (.mov (.t 121)), true⟩ (.op ⟨(some 122), none, (.ext (.t 114) 0), true⟩ (.op ⟨(some 123), none, (.ext (.t 114) 1), true⟩ (.alt ⟨none, none, (.store 7 (.t 24) (.t 122)), true⟩ .done .no)))) .no) .no) .no) .no)) (.alt ⟨(some 24), none, (.alloc (.agg [(.int .i64 (0)), (.int .i64 (0)), (.int .i64 (0)), (.int .i64 (0)), (.int .i64 (0)), (.int .i64 (0)), (.int .i64 (0))])), false⟩ (.alt ⟨(some 116), none, (.call (.c (.fn 34 [] [])) [(.t 115)]), false⟩ (.alt ⟨(some 118), none, (.call (.c (.fn 35 [] [])) [(.t 117)]), true⟩ (.alt ⟨(some 120), none, (.app0 3 1 8 (.c (.emp (some true))) (.t 119)), true⟩ (.alt ⟨(some 121), none, (.call (.c (.fn 33 [] [])) [(.t 116), (.t 118), (.t 120)]), true⟩ (.op ⟨(some 114), none, (.mov (.t 121)), true⟩ (.op ⟨(some 122), none, (.ext (.t 114) 0), true⟩ (.op ⟨(some 123), none, (.ext (.t 114) 1), true⟩ (.alt ⟨none, none, (.store 7 (.t 24) (.t 122)), true⟩ .done .no)))) .no) .no) .no) .no) .no)) (.op ⟨(some 25), none, (.mov (.t 123)), true⟩ .done)))))) (.seq (.regT (.op ⟨(some 125), none, (.load true 1 (.t 21)), false⟩ (.op ⟨(some 127), none, (.load true 3 (.t 13)), false⟩ (.seq (.alt ⟨(some 126), none, (.call (.c (.fn 34 [] [])) [(.t 125)]), false⟩ (.alt ⟨(some 128), none, (.call (.c (.fn 35 [] [])) [(.t 127)]), true⟩ (.alt ⟨(some 129), none, (.call (.c (.fn 36 [] [])) [(.t 126), (.t 128), (.c (.int .u8 (0)))]), true⟩ (.op ⟨(some 124), none, (.mov (.t 129)), true⟩ (.op ⟨(some 130), none, (.ext (.t 124) 0), true⟩ (.op ⟨(some 131), none, (.ext (.t 124) 1), true⟩ (.alt ⟨(some 26), none, (.alloc (.agg [(.int .i64 (0)), (.int .i64 (0))])), false⟩ (.alt ⟨none, none, (.store 2 (.t 26) (.t 130)), true⟩ .done .no) .no)))) (.alt ⟨(some 26), none, (.alloc (.agg [(.int .i64 (0)), (.int .i64 (0))])), false⟩ (.alt ⟨(some 129), none, (.call (.c (.fn 36 [] [])) [(.t 126), (.t 128), (.c (.int .u8 (0)))]), true⟩ (.op ⟨(some 124), none, (.mov (.t 129)), true⟩ (.op ⟨(some 130), none, (.ext (.t 124) 0), true⟩ (.op ⟨(some 131), none, (.ext (.t 124) 1), true⟩ (.alt ⟨none, none, (.store 2 (.t 26) (.t 130)), true⟩ .done .no)))) .no) .no)) (.alt ⟨(some 26), none, (.alloc (.agg [(.int .i64 (0)), (.int .i64 (0))])), false⟩ (.alt ⟨(some 128), none, (.call (.c (.fn 35 [] [])) [(.t 127)]), true⟩ (.alt ⟨(some 129), none, (.call (.c (.fn 36 [] [])) [(.t 126), (.t 128), (.c (.int .u8 (0)))]), true⟩ (.op ⟨(some 124), none, (.mov (.t 129)), true⟩ (.op ⟨(some 130), none, (.ext (.t 124) 0), true⟩ (.op ⟨(some 131), none, (.ext (.t 124) 1), true⟩ (.alt ⟨none, none, (.store 2 (.t 26) (.t 130)), true⟩ .done .no)))) .no) .no) .no)) (.alt ⟨(some 26), none, (.alloc (.agg [(.int .i64 (0)), (.int .i64 (0))])), false⟩ (.alt ⟨(some 126), none, (.call (.c (.fn 34 [] [])) [(.t 125)]), false⟩ (.alt ⟨(some 128), none, (.call (.c (.fn 35 [] [])) [(.t 127)]), true⟩ (.alt ⟨(some 129), none, (.call (.c (.fn 36 [] [])) [(.t 126), (.t 128), (.c (.int .u8 (0)))]), true⟩ (.op ⟨(some 124), none, (.mov (.t 129)), true⟩ (.op ⟨(some 130), none, (.ext (.t 124) 0), true⟩ (.op ⟨(some 131), none, (.ext (.t 124) 1), true⟩ (.alt ⟨none, none, (.store 2 (.t 26) (.t 130)), true⟩ .done .no)))) .no) .no) .no) .no)) (.op ⟨(some 27), none, (.mov (.t 131)), true⟩ .done))))) (.seq (.regT (.op ⟨(some 133), none, (.load true 1 (.t 21)), false⟩ (.op ⟨(some 135), none, (.load true 3 (.t 13)), false⟩ (.seq (.alt ⟨(some 134), none, (.call (.c (.fn 34 [] [])) [(.t 133)]), false⟩ (.alt ⟨(some 136), none, (.call (.c (.fn 35 [] [])) [(.t 135)]), true⟩ (.alt ⟨(some 137), none, (.call (.c (.fn 36 [] [])) [(.t 134), (.t 136), (.c (.int .u8 (3)))]), true⟩ (.op ⟨(some 132), none, (.mov (.t 137)), true⟩ (.op ⟨(some 138), none, (.ext (.t 132) 0), true⟩ (.op ⟨(some 139), none, (.ext (.t 132) 1), true⟩ (.alt ⟨(some 28), none, (.alloc (.agg [(.int .i64 (0)), (.int .i64 (0))])), false⟩ (.alt ⟨none, none, (.store 2 (.t 28) (.t 138)), true⟩ .done .no) .no)))) (.alt ⟨(some 28), none, (.alloc (.agg [(.int .i64 (0)), (.int .i64 (0))])), false⟩ (.alt ⟨(some 137), none, (.call (.c (.fn 36 [] [])) [(.t 134), (.t 136), (.c (.int .u8 (3)))]), true⟩ (.op ⟨(some 132), none, (.mov (.t 137)), true⟩ (.op ⟨(some 138), none, (.ext (.t 132) 0), true⟩ (.op ⟨(some 139), none, (.ext (.t 132) 1), true⟩ (.alt ⟨none, none, (.store 2 (.t 28) (.t 138)), true⟩ .done .no)))) .no) .no)) (.alt ⟨(some 28), none, (.alloc (.agg [(.int .i64 (0)), (.int .i64 (0))])), false⟩ (.alt ⟨(some 136), none, (.call (.c (.fn 35 [] [])) [(.t 135)]), true⟩ (.alt ⟨(some 137), none, (.call (.c (.fn 36 [] [])) [(.t 134), (.t 136), (.c (.int .u8 (3)))]), true⟩ (.op ⟨(some 132), none, (.mov (.t 137)), true⟩ (.op ⟨(some 138), none, (.ext (.t 132) 0), true⟩ (.op ⟨(some 139), none, (.ext (.t 132) 1), true⟩ (.alt ⟨none, none, (.store 2 (.t 28) (.t 138)), true⟩ .done .no)))) .no) .no) .no)) (.alt ⟨(some 28), none, (.alloc (.agg [(.int .i64 (0)), (.int .i64 (0))])), false⟩ (.alt ⟨(some 134), none, (.call (.c (.fn 34 [] [])) [(.t 133)]), false⟩ (.alt ⟨(some 136), none, (.call (.c (.fn 35 [] [])) [(.t 135)]), true⟩ (.alt ⟨(some 137), none, (.call (.c (.fn 36 [] [])) [(.t 134), (.t 136), (.c (.int .u8 (3)))]), true⟩ (.op ⟨(some 132), none, (.mov (.t 137)), true⟩ (.op ⟨(some 138), none, (.ext (.t 132) 0), true⟩ (.op ⟨(some 139), none, (.ext (.t 132) 1), true⟩ (.alt ⟨none, none, (.store 2 (.t 28) (.t 138)), true⟩ .done .no)))) .no) .no) .no) .no)) (.op ⟨(some 29), none, (.mov (.t 139)), true⟩ .done))))) (.seq (.seq (.region [⟨(some 140), none, (.mov (.t 25)), true⟩, ⟨(some 141), none, (.bin false .neq (.t 140) (.c (.int .i64 (0)))), true⟩, ⟨(some 142), none, (.mov (.t 141)), true⟩, ⟨(some 143), (some (142, false)), (.mov (.t 27)), true⟩, ⟨(some 144), (some (142, false)), (.bin false .neq (.t 143) (.c (.int .i64 (0)))), true⟩, ⟨(some 145), none, (.pick (.t 142) (.c (.bool true)) (.t 144)), true⟩, ⟨(some 146), none, (.mov (.t 145)), true⟩, ⟨(some 147), (some (146, false)), (.mov (.t 29)), true⟩, ⟨(some 148), (some (146, false)), (.bin false .neq (.t 147) (.c (.int .i64 (0)))), true⟩, ⟨(some 149), none, (.pick (.t 146) (.c (.bool true)) (.t 148)), true⟩, ⟨(some 150), none, (.mov (.t 149)), true⟩, ⟨(some 151), (some (150, false)), (.fa 0 (.t 24)), true⟩, ⟨(some 152), (some (150, false)), (.load false 1 (.t 151)), true⟩, ⟨(some 153), (some (150, false)), (.fa 0 (.t 26)), true⟩, ⟨(some 154), (some (150, false)), (.load false 1 (.t 153)), true⟩, ⟨(some 155), (some (150, false)), (.bin false .lss (.t 152) (.t 154)), true⟩, ⟨(some 156), none, (.pick (.t 150) (.c (.bool true)) (.t 155)), true⟩, ⟨(some 157), none, (.mov (.t 156)), true⟩, ⟨(some 158), (some (157, false)), (.fa 0 (.t 24)), true⟩, ⟨(some 159), (some (157, false)), (.load false 1 (.t 158)), true⟩, ⟨(some 160), (some (157, false)), (.fa 1 (.t 26)), true⟩, ⟨(some 161), (some (157, false)), (.load false 1 (.t 160)), true⟩, ⟨(some 162), (some (157, false)), (.bin false .gtr (.t 159) (.t 161)), true⟩, ⟨(some 163), none, (.pick (.t 157) (.c (.bool true)) (.t 162)), true⟩, ⟨(some 164), none, (.mov (.t 163)), true⟩, ⟨(some 165), (some (164, false)), (.fa 6 (.t 24)), true⟩, ⟨(some 166), (some (164, false)), (.load false 1 (.t 165)), true⟩, ⟨(some 167), (some (164, false)), (.fa 0 (.t 28)), true⟩, ⟨(some 168), (some (164, false)), (.load false 1 (.t 167)), true⟩, ⟨(some 169), (some (164, false)), (.bin false .lss (.t 166) (.t 168)), true⟩, ⟨(some 170), none, (.pick (.t 164) (.c (.bool true)) (.t 169)), true⟩, ⟨(some 171), none, (.mov (.t 170)), true⟩, ⟨(some 172), (some (171, false)), (.fa 6 (.t 24)), true⟩, ⟨(some 173), (some (171, false)), (.load false 1 (.t 172)), true⟩, ⟨(some 174), (some (171, false)), (.fa 1 (.t 28)), true⟩, ⟨(some 175), (some (171, false)), (.load false 1 (.t 174)), true⟩, ⟨(some 176), (some (171, false)), (.bin false .gtr (.t 173) (.t 175)), true⟩, ⟨(some 177), none, (.pick (.t 171) (.c (.bool true)) (.t 176)), true⟩]) (.cond (.t 177) (.seq (.region [⟨(some 14), none, (.mov (.c (.bool false))), true⟩]) .ret) .skip)) (.seq (.seq (.region [⟨(some 178), none, (.fa 2 (.t 24)), true⟩, ⟨(some 179), none, (.load false 1 (.t 178)), true⟩, ⟨(some 180), none, (.bin false .geq (.t 179) (.c (.int .i64 (0)))), true⟩]) (.cond (.t 180) (.seq (.regT (.op ⟨(some 182), none, (.load true 1 (.t 21)), false⟩ (.op ⟨(some 184), none, (.load true 3 (.t 13)), false⟩ (.seq (.alt ⟨(some 183), none, (.call (.c (.fn 34 [] [])) [(.t 182)]), false⟩ (.alt ⟨(some 185), none, (.call (.c (.fn 35 [] [])) [(.t 184)]), true⟩ (.alt ⟨(some 186), none, (.call (.c (.fn 36 [] [])) [(.t 183), (.t 185), (.c (.int .u8 (1)))]), true⟩ (.op ⟨(some 181), none, (.mov (.t 186)), true⟩ (.op ⟨(some 187), none, (.ext (.t 181) 0), true⟩ (.op ⟨(some 188), none, (.ext (.t 181) 1), true⟩ (.alt ⟨(some 30), none, (.alloc (.agg [(.int .i64 (0)), (.int .i64 (0))])), false⟩ (.alt ⟨none, none, (.store 2 (.t 30) (.t 187)), true⟩ .done .no) .no)))) (.alt ⟨(some 30), none, (.alloc (.agg [(.int .i64 (0)), (.int .i64 (0))])), false⟩ (.alt ⟨(some 186), none, (.call (.c (.fn 36 [] [])) [(.t 183), (.t 185), (.c (.int .u8 (1)))]), true⟩ (.op ⟨(some 181), none, (.mov (.t 186)), true⟩ (.op ⟨(some 187), none, (.ext (.t 181) 0), true⟩ (.op ⟨(some 188), none, (.ext (.t 181) 1), true⟩ (.alt ⟨none, none, (.store 2 (.t 30) (.t 187)), true⟩ .done .no)))) .no) .no)) (.alt ⟨(some 30), none, (.alloc (.agg [(.int .i64 (0)), (.int .i64 (0))])), false⟩ (.alt ⟨(some 185), none, (.call (.c (.fn 35 [] [])) [(.t 184)]), true⟩ (.alt ⟨(some 186), none, (.call (.c (.fn 36 [] [])) [(.t 183), (.t 185), (.c (.int .u8 (1)))]), true⟩ (.op ⟨(some 181), none, (.mov (.t 186)), true⟩ (.op ⟨(some 187), none, (.ext (.t 181) 0), true⟩ (.op ⟨(some 188), none, (.ext (.t 181) 1), true⟩ (.alt ⟨none, none, (.store 2 (.t 30) (.t 187)), true⟩ .done .no)))) .no) .no) .no)) (.alt ⟨(some 30), none, (.alloc (.agg [(.int .i64 (0)), (.int .i64 (0))])), false⟩ (.alt ⟨(some 183), none, (.call (.c (.fn 34 [] [])) [(.t 182)]), false⟩ (.alt ⟨(some 185), none, (.call (.c (.fn 35 [] [])) [(.t 184)]), true⟩ (.alt ⟨(some 186), none, (.call (.c (.fn 36 [] [])) [(.t 183), (.t 185), (.c (.int .u8 (1)))]), true⟩ (.op ⟨(some 181), none, (.mov (.t 186)), true⟩ (.op ⟨(some 187), none, (.ext (.t 181) 0), true⟩ (.op ⟨(some 188), none, (.ext (.t 181) 1), true⟩ (.alt ⟨none, none, (.store 2 (.t 30) (.t 187)), true⟩ .done .no)))) .no) .no) .no) .no)) (.op ⟨(some 31), none, (.mov (.t 188)), true⟩ .done))))) (.seq (.region [⟨(some 189), none, (.mov (.t 31)), true⟩, ⟨(some 190), none, (.bin false .neq (.t 189) (.c (.int .i64 (0)))), true⟩, ⟨(some 191), none, (.mov (.t 190)), true⟩, ⟨(some 192), (some (191, false)), (.fa 3 (.t 24)), true⟩, ⟨(some 193), (some (191, false)), (.load false 1 (.t 192)), true⟩, ⟨(some 194), (some (191, false)), (.fa 0 (.t 30)), true⟩, ⟨(some 195), (some (191, false)), (.load false 1 (.t 194)), true⟩, ⟨(some 196), (some (191, false)), (.bin false .lss (.t 193) (.t 195)), true⟩, ⟨(some 197), none, (.pick (.t 191) (.c (.bool true)) (.t 196)), true⟩, ⟨(some 198), none, (.mov (.t 197)), true⟩, ⟨(some 199), (some (198, false)), (.fa 3 (.t 24)), true⟩, ⟨(some 200), (some (198, false)), (.load false 1 (.t 199)), true⟩, ⟨(some 201), (some (198, false)), (.fa 1 (.t 30)), true⟩, ⟨(some 202), (some (198, false)), (.load false 1 (.t 201)), true⟩, ⟨(some 203), (some (198, false)), (.bin false .gtr (.t 200) (.t 202)), true⟩, ⟨(some 204), none, (.pick (.t 198) (.c (.bool true)) (.t 203)), true⟩]) (.cond (.t 204) (.seq (.region [⟨(some 14), none, (.mov (.c (.bool false))), true⟩]) .ret) .skip))) .skip)) (.seq (.seq (.region [⟨(some 205), none, (.fa 4 (.t 24)), true⟩, ⟨(some 206), none, (.load false 1 (.t 205)), true⟩, ⟨(some 207), none, (.bin false .geq (.t 206) (.c (.int .i64 (0)))), true⟩]) (.cond (.t 207) (.seq (.regT (.op ⟨(some 209), none, (.load true 1 (.t 21)), false⟩ (.op ⟨(some 211), none, (.load true 3 (.t 13)), false⟩ (.seq (.alt ⟨(some 210), none, (.call (.c (.fn 34 [] [])) [(.t 209)]), false⟩ (.alt ⟨(some 212), none, (.call (.c (.fn 35 [] [])) [(.t 211)]), true⟩ (.alt ⟨(some 213), none, (.call (.c (.fn 36 [] [])) [(.t 210), (.t 212), (.c (.int .u8 (2)))]), true⟩ (.op ⟨(some 208), none, (.mov (.t 213)), true⟩ (.op ⟨(some 214), none, (.ext (.t 208) 0), true⟩ (.op ⟨(some 215), none, (.ext (.t 208) 1), true⟩ (.alt ⟨(some 32), none, (.alloc (.agg [(.int .i64 (0)), (.int .i64 (0))])), false⟩ (.alt ⟨none, none, (.store 2 (.t 32) (.t 214)), true⟩ .done .no) .no)))) (.alt ⟨(some 32), none, (.alloc (.agg [(.int .i64 (0)), (.int .i64 (0))])), false⟩ (.alt ⟨(some 213), none, (.call (.c (.fn 36 [] [])) [(.t 210), (.t 212), (.c (.int .u8 (2)))]), true⟩ (.op ⟨(some 208), none, (.mov (.t 213)), true⟩ (.op ⟨(some 214), none, (.ext (.t 208) 0), true⟩ (.op ⟨(some 215), none, (.ext (.t 208) 1), true⟩ (.alt ⟨none, none, (.store 2 (.t 32) (.t 214)), true⟩ .done .no)))) .no) .no)) (.alt ⟨(some 32), none, (.alloc (.agg [(.int .i64 (0)), (.int .i64 (0))])), false⟩ (.alt ⟨(some 212), none, (.call (.c (.fn 35 [] [])) [(.t 211)]), true⟩ (.alt ⟨(some 213), none, (.call (.c (.fn 36 [] [])) [(.t 210), (.t 212), (.c (.int .u8 (2)))]), true⟩ (.op ⟨(some 208), none, (.mov (.t 213)), true⟩ (.op ⟨(some 214), none, (.ext (.t 208) 0), true⟩ (.op ⟨(some 215), none, (.ext (.t 208) 1), true⟩ (.alt ⟨none, none, (.store 2 (.t 32) (.t 214)), true⟩ .done .no)))) .no) .no) .no)) (.alt ⟨(some 32), none, (.alloc (.agg [(.int .i64 (0)), (.int .i64 (0))])), false⟩ (.alt ⟨(some 210), none, (.call (.c (.fn 34 [] [])) [(.t 209)]), false⟩ (.alt ⟨(some 212), none, (.call (.c (.fn 35 [] [])) [(.t 211)]), true⟩ (.alt ⟨(some 213), none, (.call (.c (.fn 36 [] [])) [(.t 210), (.t 212), (.c (.int .u8 (2)))]), true⟩ (.op ⟨(some 208), none, (.mov (.t 213)), true⟩ (.op ⟨(some 214), none, (.ext (.t 208) 0), true⟩ (.op ⟨(some 215), none, (.ext (.t 208) 1), true⟩ (.alt ⟨none, none, (.store 2 (.t 32) (.t 214)), true⟩ .done .no)))) .no) .no) .no) .no)) (.op ⟨(some 33), none, (.mov (.t 215)), true⟩ .done))))) (.seq (.region [⟨(some 216), none, (.mov (.t 33)), true⟩, ⟨(some 217), none, (.bin false .neq (.t 216) (.c (.int .i64 (0)))), true⟩, ⟨(some 218), none, (.mov (.t 217)), true⟩, ⟨(some 219), (some (218, false)), (.fa 5 (.t 24)), true⟩, ⟨(some 220), (some (218, false)), (.load false 1 (.t 219)), true⟩, ⟨(some 221), (some (218, false)), (.fa 0 (.t 32)), true⟩, ⟨(some 222), (some (218, false)), (.load false 1 (.t 221)), true⟩, ⟨(some 223), (some (218, false)), (.bin false .lss (.t 220) (.t 222)), true⟩, ⟨(some 224), none, (.pick (.t 218) (.c (.bool true)) (.t 223)), true⟩, ⟨(some 225), none, (.mov (.t 224)), true⟩, ⟨(some 226), (some (225, false)), (.fa 5 (.t 24)), true⟩, ⟨(some 227), (some (225, false)), (.load false 1 (.t 226)), true⟩, ⟨(some 228), (some (225, false)), (.fa 1 (.t 32)), true⟩, ⟨(some 229), (some (225, false)), (.load false 1 (.t 228)), true⟩, ⟨(some 230), (some (225, false)), (.bin false .gtr (.t 227) (.t 229)), true⟩, ⟨(some 231), none, (.pick (.t 225) (.c (.bool true)) (.t 230)), true⟩]) (.cond (.t 231) (.seq (.region [⟨(some 14), none, (.mov (.c (.bool false))), true⟩]) .ret) .skip))) .skip)) (.seq (.region [⟨(some 233), none, (.load true 2 (.t 17)), true⟩, ⟨(some 234), none, (.mov (.t 19)), true⟩, ⟨(some 235), none, (.mov (.t 20)), true⟩, ⟨(some 236), none, (.mov (.t 1)), true⟩, ⟨(some 237), none, (.mov (.t 5)), true⟩, ⟨(some 238), none, (.call (.c (.fn 31 [] [])) [(.t 233), (.t 234), (.t 235), (.t 236), (.t 237)]), true⟩, ⟨(some 232), none, (.mov (.t 238)), true⟩, ⟨(some 239), none, (.ext (.t 232) 0), true⟩, ⟨(some 240), none, (.ext (.t 232) 1), true⟩, ⟨(some 241), none, (.ext (.t 232) 2), true⟩, ⟨(some 34), none, (.alloc (.agg [(.emp (some true))])), true⟩, ⟨none, none, (.store 1 (.t 34) (.t 239)), true⟩, ⟨(some 35), none, (.mov (.t 240)), true⟩, ⟨(some 36), none, (.mov (.t 241)), true⟩]) (.seq (.seq (.region [⟨(some 242), none, (.mov (.t 36)), true⟩, ⟨(some 243), none, (.not (.t 242)), true⟩]) (.cond (.t 243) (.seq (.region [⟨(some 244), none, (.call (.c (.fn 30 [] [])) []), true⟩, ⟨(some 14), none, (.mov (.t 244)), true⟩]) .ret) .skip)) (.seq (.regT (.op ⟨(some 246), none, (.load true 1 (.t 34)), false⟩ (.op ⟨(some 248), none, (.load true 3 (.t 13)), false⟩ (.seq (.alt ⟨(some 247), none, (.call (.c (.fn 34 [] [])) [(.t 246)]), false⟩ (.alt ⟨(some 249), none, (.call (.c (.fn 35 [] [])) [(.t 248)]), true⟩ (.alt ⟨(some 250), none, (.call (.c (.fn 36 [] [])) [(.t 247), (.t 249), (.c (.int .u8 (0)))]), true⟩ (.op ⟨(some 245), none, (.mov (.t 250)), true⟩ (.op ⟨(some 251), none, (.ext (.t 245) 0), true⟩ (.op ⟨(some 252), none, (.ext (.t 245) 1), true⟩ (.alt ⟨(some 37), none, (.alloc (.agg [(.int .i64 (0)), (.int .i64 (0))])), false⟩ (.alt ⟨none, none, (.store 2 (.t 37) (.t 251)), true⟩ .done .no) .no)))) (.alt ⟨(some 37), none, (.alloc (.agg [(.int .i64 (0)), (.int .i64 (0))])), false⟩ (.alt ⟨(some 250), none, (.call (.c (.fn 36 [] [])) [(.t 247), (.t 249), (.c (.int .u8 (0)))]), true⟩ (.op ⟨(some 245), none, (.mov (.t 250)), true⟩ (.op ⟨(some 251), none, (.ext (.t 245) 0), true⟩ (.op ⟨(some 252), none, (.ext (.t 245) 1), true⟩ (.alt ⟨none, none, (.store 2 (.t 37) (.t 251)), true⟩ .done .no)))) .no) .no)) (.alt ⟨(some 37), none, (.alloc (.agg [(.int .i64 (0)), (.int .i64 (0))])), false⟩ (.alt ⟨(some 249), none, (.call (.c (.fn 35 [] [])) [(.t 248)]), true⟩ (.alt ⟨(some 250), none, (.call (.c (.fn 36 [] [])) [(.t 247), (.t 249), (.c (.int .u8 (0)))]), true⟩ (.op ⟨(some 245), none, (.mov (.t 250)), true⟩ (.op ⟨(some 251), none, (.ext (.t 245) 0), true⟩ (.op ⟨(some 252), none, (.ext (.t 245) 1), true⟩ (.alt ⟨none, none, (.store 2 (.t 37) (.t 251)), true⟩ .done .no)))) .no) .no) .no)) (.alt ⟨(some 37), none, (.alloc (.agg [(.int .i64 (0)), (.int .i64 (0))])), false⟩ (.alt ⟨(some 247), none, (.call (.c (.fn 34 [] [])) [(.t 246)]), false⟩ (.alt ⟨(some 249), none, (.call (.c (.fn 35 [] [])) [(.t 248)]), true⟩ (.alt ⟨(some 250), none, (.call (.c (.fn 36 [] [])) [(.t 247), (.t 249), (.c (.int .u8 (0)))]), true⟩ (.op ⟨(some 245), none, (.mov (.t 250)), true⟩ (.op ⟨(some 251), none, (.ext (.t 245) 0), true⟩ (.op ⟨(some 252), none, (.ext (.t 245) 1), true⟩ (.alt ⟨none, none, (.store 2 (.t 37) (.t 251)), true⟩ .done .no)))) .no) .no) .no) .no)) (.op ⟨(some 38), none, (.mov (.t 252)), true⟩ .done))))) (.seq (.region [⟨(some 253), none, (.mov (.t 38)), true⟩, ⟨(some 254), none, (.bin false .eql (.t 253) (.c (.int .i64 (0)))), true⟩, ⟨(some 255), none, (.mov (.t 254)), true⟩, ⟨(some 256), (some (255, true)), (.fa 0 (.t 37)), true⟩, ⟨(some 257), (some (255, true)), (.load false 1 (.t 256)), true⟩, ⟨(some 258), (some (255, true)), (.fa 0 (.t 26)), true⟩, ⟨(some 259), (some (255, true)), (.load false 1 (.t 258)), true⟩, ⟨(some 260), (some (255, true)), (.bin false .leq (.t 257) (.t 259)), true⟩, ⟨(some 261), none, (.pick (.t 255) (.t 260) (.c (.bool false))), true⟩, ⟨(some 262), none, (.mov (.t 261)), true⟩, ⟨(some 263), (some (262, true)), (.fa 1 (.t 37)), true⟩, ⟨(some 264), (some (262, true)), (.load false 1 (.t 263)), true⟩, ⟨(some 265), (some (262, true)), (.fa 1 (.t 26)), true⟩, ⟨(some 266), (some (262, true)), (.load false 1 (.t 265)), true⟩, ⟨(some 267), (some (262, true)), (.bin false .geq (.t 264) (.t 266)), true⟩, ⟨(some 268), none, (.pick (.t 262) (.t 267) (.c (.bool false))), true⟩, ⟨(some 269), none, (.mov (.t 268)), true⟩, ⟨(some 270), (some (269, true)), (.call (.c (.fn 30 [] [])) []), true⟩, ⟨(some 271), none, (.pick (.t 269) (.t 270) (.c (.bool false))), true⟩, ⟨(some 14), none, (.mov (.t 271)), true⟩]) .ret)))))))))))))))))))), [(.tm 14)]⟩
theorem LtopMeasured_ok : litF Tryz.prog 5 = some LtopMeasured := by kernel_rfl
end
end Go.Proofs.YtaffbiibcfeigaaGreat
/-! Top, layers 1 and 2: measured; a curve whose loads an item of a book has read. -/
namespace Go.Proofs.YtaffbiibcfeigaaGreat
open Go.RowKit
set_option maxRecDepth 10000
set_option linter.unusedSimpArgs false
attribute [local irreducible] Bk.held Bk.nums Bk.heldU Bk.span Bk.contra trueM wordM
/-- The points that are read. -/
def wgN (s : Cr) (T : Int) (lds : List Int) : Nat → List Pt
  | 0 => []
  | k + 1 => wgN s T lds k ++ [⟨7 * k, 20000 + lds.getD k 0 - T + s.lo, 20000 + lds.getD k 0 - T + s.hi⟩]
def tgN (lds : List Int) : Nat → List Int
  | 0 => []
  | k + 1 => tgN lds k ++ [20000 + lds.getD k 0]
theorem wgN_len {s : Cr} {T : Int} {lds : List Int} : ∀ {k : Nat}, (wgN s T lds k).length = k
  | 0 => rfl
  | k + 1 => by unfold wgN; rw [List.length_append, wgN_len]; rfl
theorem tgN_len {lds : List Int} : ∀ {k : Nat}, (tgN lds k).length = k
  | 0 => rfl
  | k + 1 => by unfold tgN; rw [List.length_append, tgN_len]; rfl
theorem wgN_at {s : Cr} {T : Int} {lds : List Int} : ∀ {k i : Nat}, i < k → ptD (wgN s T lds k) i = ⟨7 * i, 20000 + lds.getD i 0 - T + s.lo, 20000 + lds.getD i 0 - T + s.hi⟩
  | k + 1, i, h => by
    unfold wgN ptD
    rw [List.getD_eq_getElem?_getD, List.getElem?_append]
    by_cases e : i < k
    · rw [if_pos (by rw [wgN_len]; exact e), ← List.getD_eq_getElem?_getD]
      exact wgN_at e
    · obtain rfl : i = k := by omega
      rw [if_neg (by rw [wgN_len]; omega), wgN_len, Nat.sub_self]; rfl
theorem tgN_at {lds : List Int} : ∀ {k i : Nat}, i < k → (tgN lds k).getD i 0 = 20000 + lds.getD i 0
  | k + 1, i, h => by
    unfold tgN
    rw [List.getD_eq_getElem?_getD, List.getElem?_append]
    by_cases e : i < k
    · rw [if_pos (by rw [tgN_len]; exact e), ← List.getD_eq_getElem?_getD]
      exact tgN_at e
    · obtain rfl : i = k := by omega
      rw [if_neg (by rw [tgN_len]; omega), tgN_len, Nat.sub_self]; rfl
theorem wg_truth {s : Cr} {T : Int} {lds : List Int} {n : Nat} (h : s.has T) : cvTru (wgN s T lds n) (tgN lds n) = true := by
  unfold Cr.has at h
  refine tru_of (by rw [wgN_len, tgN_len]) fun i hi => ?_
  rw [wgN_len] at hi
  rw [wgN_at hi, tgN_at hi]
  simp only
  omega
theorem wg_lo {s t : Cr} {T : Int} {lds : List Int} {n : Nat} (h : s.sub t) : (sP (loL (wgN t T lds n)) n).1 ≤ (sP (loL (wgN s T lds n)) n).1 ∧ (sP (hiL (wgN s T lds n)) n).1 ≤ (sP (hiL (wgN t T lds n)) n).1 := by
  unfold Cr.sub at h
  refine ⟨sP_mono fun i hi => ?_, sP_mono fun i hi => ?_⟩
  · rw [loL_get (by rw [wgN_len]; exact hi), loL_get (by rw [wgN_len]; exact hi), wgN_at hi, wgN_at hi]
    simp only
    omega
  · rw [hiL_get (by rw [wgN_len]; exact hi), hiL_get (by rw [wgN_len]; exact hi), wgN_at hi, wgN_at hi]
    simp only
    omega
attribute [local simp] AS.exp expG Box.ren AV.map AV.mapL outsOk noRet Site.isRet Box.allS AV.allS AV.allSL retB dropL AS.adds renL outG outOk lentBx inG fnOf lookA List.findIdx?_cons
attribute [local simp] Box.purge Site.isLoc
attribute [local simp] retFz frzL AS.frz AV.frz AV.frzL Box.frz AS.tidy AS.frzC
def twoB : Bk := ⟨[⟨0, true, ⟨2, 4⟩⟩], []⟩
def twoP : PV := .agg [.lst false 4 [.agg [.int .i64 0, .bool true, .int .i64 2, .int .i64 4]], .emp (some true)]
theorem two_span : Gives Tryz.prog 14 [twoP, .int .i64 0, .int .i64 9] (.tup [.agg [.int .i64 2, .int .i64 4], .int .i64 0]) := by
  have h := Span_c twoB (by decide) (by decide) 0 9
  rw [show twoB.spanM 0 9 = (⟨2, 4⟩, 0) by decide +kernel] at h
  refine CallsA.weakArgs (xs := [twoP, .int .i64 0, .int .i64 9]) (ys := [twoB.pv, .int .i64 0, .int .i64 9]) h rfl ?_
  intro j x y m v e1 e2 hr
  match j with
  | 0 =>
    cases e1; cases e2
    refine agg_wk (cs := [.lst false 4 [.agg [.int .i64 0, .bool true, .int .i64 2, .int .i64 4]], .emp (some true)]) (cs' := [itsP twoB.items, ctsP twoB.certs]) rfl ?_ hr
    intro j c c' d k1 k2 hd
    match j with
    | 0 => cases k1; cases k2; exact hd
    | 1 => cases k1; cases k2; exact emp_lst hd
    | j + 2 => simp at k1
  | 1 => cases e1; cases e2; exact hr
  | 2 => cases e1; cases e2; exact hr
  | j + 3 => simp at e1
theorem measured_c : Gives Tryz.prog 30 [] (.bool true) := by
  have a1 := two_span
  have a2 := strspan_c [⟨5, 7, 9⟩] ⟨1, 1, 0⟩ (by decide) (by decide)
  rw [show (sP (loL [⟨5, 7, 9⟩]) [(⟨5, 7, 9⟩ : Pt)].length).1 = 7 by decide, show (sP (hiL [⟨5, 7, 9⟩]) [(⟨5, 7, 9⟩ : Pt)].length).1 = 9 by decide] at a2
  refine calls_of_awpS mixed L30_ok (Nat.le_of_ble_eq_true rfl) ?_
  simp [-getElem?_pos, L30]
  refine .inl (call_pv [.loc 8 0] (fs := []) (xs := [twoP, .int .i64 0, .int .i64 9]) (cs := []) rfl ?_ a1 ?_)
  · simp [frzsL, twoP]
  simp [-getElem?_pos, frzsL]
  refine .inl (call_pv [.loc 16 0] (fs := []) (xs := [cvP [⟨5, 7, 9⟩], Rl.pv ⟨1, 1, 0⟩, .int .u8 0]) (cs := []) rfl ?_ a2 ?_)
  · simp [frzsL, cvP, ptsP, Pt.pv, Rl.pv]
  simp [-getElem?_pos, frzsL]
/-- The truths that are measured. -/
def wgK (x : Bk) (item day : Int) (ws lds : List Int) (P : List PV) (Q : List PV) (k : Nat) : AS := ⟨[(1, .pv (.int .i64 item)), (2, .pv (.int .i64 day)), (3, .pv (wsP ws)), (4, .pv (wsP lds)), (5, .ptr (.loc 5 0) 0), (10, .ptr (.loc 10 0) 0), (13, .ptr (.loc 13 0) 0), (14, .vec (.loc 70 0) 1 0 k), (15, .ptr (.loc 15 0) 0), (17, .pv (.int .i64 k))],
  [(.loc 70 0, .arr 3 1 Q), (.loc 65 0, .arr 209 3 P), (.loc 13 0, .cells [.vec (.loc 65 0) 3 0 k]), (.loc 15 0, .cells [.pv (.int .i64 (x.spanM item day).1.lo), .pv (.int .i64 (x.spanM item day).1.hi)]), (.loc 10 0, .cells [.pv (.emp (some true))]), (.loc 5 0, .cells [.pv (itsP x.items), .pv (ctsP x.certs)])]⟩
set_option maxHeartbeats 16000000 in
theorem weighed_c (x : Bk) (hx : x.ok) (ws : List Int) (hw : ∀ y ∈ ws, 0 ≤ y ∧ y < 65536) (item day : Int) (h0 : 0 ≤ item) (h1 : item < x.items.length) (hd : 0 ≤ day ∧ day ≤ 1000) (lds : List Int) (hl : lds.length ≤ 20) (hlv : ∀ y ∈ lds, 0 ≤ y ∧ y < 65536)
    (hs : (x.spanM item day).2 = 0) : CallsA Tryz.prog 31 ([x.pv, .int .i64 item, .int .i64 day, wsP ws, wsP lds].map .pv) [] (fun r B => r = .pv (.tup [cvP (wgN (x.spanM item day).1 (trueM x ws item day) lds lds.length), intsR (tgN lds lds.length), .bool (decide (cvErr (wgN (x.spanM item day).1 (trueM x ws item day) lds lds.length) = 0))]) ∧ B = []) := by
  have hil := hx.i
  have hcl := hx.c
  have hbk := book_c x (by omega) (by omega)
  have hsp := Span_c x (by omega) (by omega) item day
  have htr := true_c x hx ws hw item day h0 h1 hd
  refine calls_of_awpF [.loc 65 0, .loc 70 0] mixed L31_ok (Nat.le_of_ble_eq_true rfl) ?_
  generalize hR : (fun (r : AV) (B : List (Site × Box)) => r = .pv (.tup [cvP (wgN (x.spanM item day).1 (trueM x ws item day) lds lds.length), intsR (tgN lds lds.length), .bool (decide (cvErr (wgN (x.spanM item day).1 (trueM x ws item day) lds lds.length) = 0))]) ∧ B = []) = R
  unfold spanE Cr.pv at hsp
  rw [hs] at hsp
  simp [-getElem?_pos, L31, Bk.pv]
  refine .inl (call_pv [] (fs := []) (xs := [x.pv]) (cs := []) rfl (by simp [frzsL, Bk.pv, itsP, ctsP]) hbk ?_)
  simp [-getElem?_pos, frzsL]
  refine .inl (call_pv [] (fs := []) (xs := [x.pv, .int .i64 item, .int .i64 day]) (cs := []) rfl rfl hsp ?_)
  simp [-getElem?_pos, frzsL]
  refine awp_loopS (fun m τ => ∃ k : Nat, k ≤ lds.length ∧ m = lds.length - k ∧ τ = wgK x item day ws lds ((wgN (x.spanM item day).1 (trueM x ws item day) lds k).map Pt.pv) ((tgN lds k).map intR) k)
    ⟨lds.length, wgK x item day ws lds [] [] 0, Sub.trans' (Sub.trans' (Sub.mk (by simp [wgK, AS.vecT, AS.vecC]) (by simp [wgK, AS.vecT, AS.vecC])) (vecC 65 209 3 (s := .loc 13 0) (cs := [.pv (.emp (some true))]) 0 rfl rfl (by decide))) (vecT 70 3 1 14 rfl (by decide)), 0, by omega, rfl, rfl⟩ ?_
  rintro J hJ m τ ⟨k, hk, rfl, rfl⟩
  by_cases hlt : k < lds.length
  · have hwk := wrapK (k := k) (by omega)
    have hround := hJ _ _ ⟨k + 1, hlt, rfl, rfl⟩
    have hmeas : lds.length - (k + 1) < lds.length - k := by omega
    have hbdd := spanM_bdd hx item day
    have htb := true_bd hx hw (i := item) (d := day) h0 h1 hd.1
    unfold Cr.bdd at hbdd
    have hn : wgN (x.spanM item day).1 (trueM x ws item day) lds (k + 1) = wgN (x.spanM item day).1 (trueM x ws item day) lds k ++ [⟨7 * k, 20000 + lds.getD k 0 - trueM x ws item day + (x.spanM item day).1.lo, 20000 + lds.getD k 0 - trueM x ws item day + (x.spanM item day).1.hi⟩] := rfl
    have hn2 : tgN lds (k + 1) = tgN lds k ++ [20000 + lds.getD k 0] := rfl
    have hg : lds[k]? = some (lds.getD k 0) := by rw [List.getD_eq_getElem?_getD, List.getElem?_eq_getElem hlt]; rfl
    have hv := hlv (lds.getD k 0) (List.mem_of_getElem? hg)
    have hgl : (lds.map (PV.int .u16))[k]? = some (.int .u16 (lds.getD k 0)) := by rw [List.getElem?_map, hg]; rfl
    have hPl : ((wgN (x.spanM item day).1 (trueM x ws item day) lds k).map Pt.pv).length = k := by rw [List.length_map, wgN_len]
    have hQl : ((tgN lds k).map intR).length = k := by rw [List.length_map, tgN_len]
    rw [hn, hn2, List.map_append, List.map_append] at hround
    generalize (wgN (x.spanM item day).1 (trueM x ws item day) lds k).map Pt.pv = P at *
    generalize (tgN lds k).map intR = Q at *
    generalize lds.getD k 0 = v at *
    generalize trueM x ws item day = T at *
    clear hJ hn hn2
    have w0 : IntKind.i64.wrap v = v := wrap64 (by omega)
    have w1 : IntKind.i64.wrap (20000 + v) = 20000 + v := wrap64 (by omega)
    have w2 : IntKind.i64.wrap (20000 + v - T) = 20000 + v - T := wrap64 (by omega)
    have w3 : IntKind.i64.wrap (20000 + v - T + (x.spanM item day).1.lo) = 20000 + v - T + (x.spanM item day).1.lo := wrap64 (by omega)
    have w4 : IntKind.i64.wrap (20000 + v - T + (x.spanM item day).1.hi) = 20000 + v - T + (x.spanM item day).1.hi := wrap64 (by omega)
    have w5 : IntKind.i64.wrap (7 * (k : Int)) = 7 * (k : Int) := wrap64 (by omega)
    have hk6 : k + 1 ≤ 1000000 := by omega
    have hk7 : k ≤ 999999 := by omega
    have hPm : P.take k = P := List.take_of_length_le (by omega)
    have hQm : Q.take k = Q := List.take_of_length_le (by omega)
    simp [-getElem?_pos, -List.getElem?_map, wgK, wsP, hlt, hgl, nble, nblt, w0, w1]
    refine .inl (call_pv [] (fs := []) (xs := [x.pv, .int .i64 item, .int .i64 day, wsP ws]) (cs := []) rfl (by simp [frzsL, Bk.pv, itsP, ctsP, wsP]) htr ?_)
    simp [-getElem?_pos, -List.getElem?_map, frzsL, w2, w3, w4, w5, nble, nblt, hk6, hk7, hPl, hQl, hPm, hQm, hwk]
    exact ⟨_, _, hmeas, Sub.mk (by simp [wgK, wsP, hwk]) (by simp [wgK, Pt.pv, intR]), hround⟩
  have he : k = lds.length := by omega
  subst he
  clear hJ
  have hcf := cfault_c (wgN (x.spanM item day).1 (trueM x ws item day) lds lds.length) (by rw [wgN_len]; omega)
  have hPl : ((wgN (x.spanM item day).1 (trueM x ws item day) lds lds.length).map Pt.pv).length = lds.length := by rw [List.length_map, wgN_len]
  have hQl : ((tgN lds lds.length).map intR).length = lds.length := by rw [List.length_map, tgN_len]
  generalize wgN (x.spanM item day).1 (trueM x ws item day) lds lds.length = PS at *
  unfold intsR at hR
  generalize (tgN lds lds.length).map intR = Q at *
  have hPm : (PS.map Pt.pv).take lds.length = PS.map Pt.pv := List.take_of_length_le (by omega)
  have hQm : Q.take lds.length = Q := List.take_of_length_le (by omega)
  have hPS : PS.length = lds.length := by rw [List.length_map] at hPl; exact hPl
  simp [-getElem?_pos, -List.getElem?_map, wgK, wsP]
  refine call_pv [.loc 65 0] (fs := []) (xs := [cvP PS]) (cs := []) rfl ?_ hcf ?_
  · simp [frzsL, cvP, ptsP, hPm, hPS, unpvs]
  simp [-getElem?_pos, -List.getElem?_map, frzsL, hPm, hQm, hPS, hQl, unpvs, Box.live, AV.live]
  rw [← hR]
  exact ⟨rfl, rfl⟩
theorem weighed0_c (x : Bk) (hx : x.ok) (ws : List Int) (item day : Int) (lds : List Int)
    (hs : (x.spanM item day).2 = 10) : Gives Tryz.prog 31 [x.pv, .int .i64 item, .int .i64 day, wsP ws, wsP lds] (.tup [.agg [.emp (some true)], .emp (some true), .bool false]) := by
  have hil := hx.i
  have hcl := hx.c
  have hbk := book_c x (by omega) (by omega)
  have hsp := Span_c x (by omega) (by omega) item day
  refine calls_of_awpS mixed L31_ok (Nat.le_of_ble_eq_true rfl) ?_
  unfold spanE Cr.pv at hsp
  rw [hs] at hsp
  simp [-getElem?_pos, L31, Bk.pv]
  refine .inl (call_pv [] (fs := []) (xs := [x.pv]) (cs := []) rfl (by simp [frzsL, Bk.pv, itsP, ctsP]) hbk ?_)
  simp [-getElem?_pos, frzsL]
  refine .inl (call_pv [] (fs := []) (xs := [x.pv, .int .i64 item, .int .i64 day]) (cs := []) rfl rfl hsp ?_)
  simp [-getElem?_pos, frzsL]
end Go.Proofs.YtaffbiibcfeigaaGreat
