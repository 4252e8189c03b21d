/- Top, layers 1 and 2: the law TopMeasured. (Several texts in one.) -/
import Derived.Test.YtaffbiibcfeigaaGreatLmE
import Derived.Test.YtaffbiibcfeigaaGreatLmB
import Derived.Test.YtaffbiibcfeigaaGreatChK
import Derived.Test.YtaffbiibcfeigaaGreatChH
import Derived.Test.YtaffbiibcfeigaaGreatChC
import Derived.Test.YtaffbiibcfeigaaGreatChF
import Derived.Test.YtaffbiibcfeigaaGreatRows
import Derived.WalkKit
import Derived.ProofKit
import Derived.OpenShut
import Derived.Test.YtaffbiibcfeigaaGreatLmC
set_option linter.unusedVariables false
set_option linter.unusedSimpArgs false
/-! Top, layers 1 and 2: the law TopMeasured. -/
namespace Go.Proofs.YtaffbiibcfeigaaGreat
open Go.RowKit

set_option maxRecDepth 10000
set_option linter.unusedSimpArgs false
theorem fewN_succ (b : Bk) (P : Nat → Bool) (k : Nat) : b.fewN P (k + 1) = if P (k + 1) = true then (b.fewN P k).wo (k + 1 : Nat) else b.fewN P k := rfl
theorem fewN_zero (b : Bk) (P : Nat → Bool) : b.fewN P 0 = b := rfl
attribute [local irreducible] Bk.held Bk.nums Bk.heldU Bk.span Bk.contra trueM wordM Bk.fewN
attribute [local simp] AS.exp expG Box.ren AV.map AV.mapL outsOk noRet Site.isRet Box.allS AV.allS AV.allSL retB dropL AS.adds renL outG outOk lentBx inG fnOf lookA List.findIdx?_cons
attribute [local simp] Box.purge Site.isLoc
attribute [local simp] retFz frzL AS.frz AV.frz AV.frzL Box.frz AS.tidy AS.frzC
def bitP (bits : Int) (n : Nat) : Bool := decide ((bits.fdiv (2 ^ min (n % 31) IntKind.u32.bits)).tmod 2 = 1)
attribute [local irreducible] bitP
def tmK (b x : Bk) (ws lds : List Int) (item day bits : Int) (r : Rl) (y : Bk) (k : Nat) : AS := ⟨[(1, .pv (wsP ws)), (2, .pv (.int .u8 item)), (3, .pv (.int .u16 day)), (4, .pv (.int .u32 bits)), (5, .pv (wsP lds)), (7, .ptr (.loc 7 0) 0), (13, .ptr (.loc 13 0) 0), (15, .ptr (.loc 15 0) 0), (17, .ptr (.loc 17 0) 0), (18, .pv (.int .i64 k))],
  [(.loc 17 0, .cells [.pv (itsP x.items), .pv (ctsP y.certs)]), (.loc 15 0, .cells [.pv (itsP x.items), .pv (ctsP x.certs)]), (.loc 13 0, .cells [.pv (.int .i64 r.drop), .pv (.int .i64 r.slope), .pv (.int .i64 r.offs)]), (.loc 7 0, .cells [.pv (itsP b.items), .pv (ctsP b.certs)])]⟩
/-- .. what is known after the curve is read. -/
def tmM (x : Bk) (ws lds : List Int) (K D : Int) (r : Rl) (y : Bk) (PS : List Pt) (T : List (Nat × AV)) (B : List (Site × Box)) : AS := ⟨T ++ [(1, .pv (wsP ws)), (5, .pv (wsP lds)), (13, .ptr (.loc 13 0) 0), (17, .ptr (.loc 17 0) 0), (19, .pv (.int .i64 K)), (20, .pv (.int .i64 D)), (21, .ptr (.loc 21 0) 0)],
  B ++ [(.loc 21 0, .cells [.pv (ptsP PS)]), (.loc 17 0, .cells [.pv (itsP x.items), .pv (ctsP y.certs)]), (.loc 13 0, .cells [.pv (.int .i64 r.drop), .pv (.int .i64 r.slope), .pv (.int .i64 r.offs)])]⟩
set_option maxHeartbeats 64000000 in
theorem topMeasured_law (b : Bk) (ws lds : List Int) (item day bits : Int) (r : Rl) (hws : ∀ y ∈ ws, 0 ≤ y ∧ y < 65536) (hlds : ∀ y ∈ lds, 0 ≤ y ∧ y < 65536) (h1 : 0 ≤ item ∧ item ≤ 255) (h2 : 0 ≤ day ∧ day ≤ 65535) (h3 : 0 ≤ bits ∧ bits < 4294967296) :
    Gives Tryz.prog 5 [b.pv, wsP ws, .int .u8 item, .int .u16 day, .int .u32 bits, wsP lds, r.pv] (.bool true) := by
  have hpr := measured_c
  have hth := thin_c b
  refine calls_of_awpS mixed LtopMeasured_ok (Nat.le_of_ble_eq_true rfl) ?_
  simp [-getElem?_pos, LtopMeasured, Bk.pv, Rl.pv]
  refine call_gives (k := 0) (fs := []) (xs := [b.pv]) (cs := []) rfl rfl hth rfl ?_
  cases e1 : (decide (b.items.length ≤ 10) && decide (b.certs.length ≤ 28))
  · simp [-getElem?_pos]
    refine call_gives (k := 0) (fs := []) (xs := []) (cs := []) rfl rfl hpr rfl ?_
    simp [-getElem?_pos]
  have hsz : b.items.length ≤ 10 ∧ b.certs.length ≤ 28 := by simpa using e1
  clear e1
  have hrf := rfault_c b (by omega) (by omega)
  simp [-getElem?_pos]
  refine call_gives (k := 0) (fs := []) (xs := [b.pv]) (cs := []) rfl rfl hrf rfl ?_
  cases e2 : decide (b.fault = 0)
  · have e2' : ¬ b.fault = 0 := of_decide_eq_false e2
    simp [-getElem?_pos, e2']
    refine call_gives (k := 0) (fs := []) (xs := []) (cs := []) rfl rfl hpr rfl ?_
    simp [-getElem?_pos]
  have hf0 : b.fault = 0 := of_decide_eq_true e2
  have hb : b.ok := Bk.ok_iff.1 hf0
  clear e2
  by_cases e3 : b.items.length = 0
  · have e3' : b.items = [] := List.eq_nil_of_length_eq_zero e3
    simp [-getElem?_pos, -decide_eq_true_eq, -decide_eq_false_iff_not, hf0, itsP, e3']
    refine call_gives (k := 0) (fs := []) (xs := []) (cs := []) rfl rfl hpr rfl ?_
    simp [-getElem?_pos]
  by_cases e4 : 20 < lds.length
  · have e4' : (20 : Int) < (lds.length : Int) := by omega
    have e3' : ¬ ((b.items.length : Int) = 0) := by omega
    have e3n : ¬ b.items = [] := fun h => e3 (by rw [h]; rfl)
    simp [-getElem?_pos, hf0, itsP, e3', e3n, wsP, e4', e4]
    refine call_gives (k := 0) (fs := []) (xs := []) (cs := []) rfl rfl hpr rfl ?_
    simp [-getElem?_pos]
  have hl20 : lds.length ≤ 20 := by omega
  have e3' : ¬ ((b.items.length : Int) = 0) := by omega
  have e3n : ¬ b.items = [] := fun h => e3 (by rw [h]; rfl)
  have hir := isrule_c r
  have e4i : ¬ ((20 : Int) < (lds.length : Int)) := by omega
  simp [-getElem?_pos, hf0, itsP, e3', e3n, wsP, e4i, -Int.not_lt]
  refine call_gives (k := 0) (fs := []) (xs := [r.pv]) (cs := []) rfl rfl hir rfl ?_
  cases e5 : r.ok
  · simp [-getElem?_pos]
    refine call_gives (k := 0) (fs := []) (xs := []) (cs := []) rfl rfl hpr rfl ?_
    simp [-getElem?_pos]
  have hwr := written_c b hb ws hws
  simp [-getElem?_pos]
  refine call_lent (as' := [.pv b.pv, .pv (wsP ws)]) (B := []) (fs := []) (cs := []) 67 [] ?_ rfl rfl rfl ?_ ?_ hwr ?_
  · rfl
  · rfl
  · rfl
  rintro r0 B0 ⟨rfl, rfl⟩
  refine ⟨rfl, by simp, ?_⟩
  by_cases hf : (b.writ ws).fault = 0
  case neg =>
    simp [-getElem?_pos, hf]
    refine call_gives (k := 0) (fs := []) (xs := []) (cs := []) rfl rfl hpr rfl ?_
    simp [-getElem?_pos]
  have hx : (b.writ ws).ok := Bk.ok_iff.1 hf
  have hxc : (b.writ ws).certs.length = b.certs.length := by unfold Bk.writ; simp
  have htold := fun P k d => told_of (d := d) hb hws hx P k
  have hxi : (b.writ ws).items = b.items := rfl
  have hth' : ((b.writ ws).certs.map Ct.pv).take b.certs.length = (b.writ ws).certs.map Ct.pv := List.take_of_length_le (by rw [List.length_map, hxc]; exact Nat.le_refl _)
  have htl : ((b.writ ws).certs.map Ct.pv).length = b.certs.length := by rw [List.length_map, hxc]
  simp [-getElem?_pos, hf]
  generalize hX : b.writ ws = x at *
  have hxl := hx.c
  refine awp_loopS (fun m τ => ∃ k : Nat, k ≤ 999 ∧ m = 999 - k ∧ τ = tmK b x ws lds item day bits r (x.fewN (bitP bits) k) (k + 1)) ⟨999, tmK b x ws lds item day bits r (x.fewN (bitP bits) 0) 1, Sub.trans' (Sub.mk ?_ ?_) (Sub.frz [.loc 67 0]), 0, by omega, rfl, rfl⟩ ?_
  · simp [frzsL, fewN_zero, tmK, hth', htl, hxi, ctsP, itsP, wsP]
  · simp [frzsL, fewN_zero, tmK, hth', htl, hxi, ctsP, itsP, wsP]
  rintro J hJ m τ ⟨k, hk, rfl, rfl⟩
  by_cases hlt : k < 999
  · have hw : IntKind.i64.wrap (((k + 1 : Nat) : Int) + 1) = ((k + 1 + 1 : Nat) : Int) := wrapK (by omega)
    have hle : decide (((k + 1 : Nat) : Int) ≤ 999) = true := by simp; omega
    have hround := hJ _ _ ⟨k + 1, hlt, rfl, rfl⟩
    have hmeas : 999 - (k + 1) < 999 - k := by omega
    have hfl := fewN_len x (bitP bits) k
    have hfi := fewN_its x (bitP bits) k
    have hwo := rwo_c (x.fewN (bitP bits) k) (by omega) (k + 1 : Nat)
    rw [fewN_succ] at hround
    have hsh : IntKind.u64.wrap (((k + 1 : Nat) : Int).tmod 31) = (((k + 1) % 31 : Nat) : Int) := by
      rw [Int.tmod_eq_emod_of_nonneg (by omega), IntKind.wrap_u64]; omega
    have hto : (((k + 1 : Nat) : Int) % 31).toNat = (k + 1) % 31 := by omega
    have hsn : ¬ ((k + 1 : Nat) : Int) % 31 < 0 := by omega
    have hbt : bitP bits (k + 1) = decide ((bits.fdiv (2 ^ min ((k + 1) % 31) IntKind.u32.bits)).tmod 2 = 1) := by unfold bitP; rfl
    clear hJ
    generalize x.fewN (bitP bits) k = y at *
    generalize hN : k + 1 = n at *
    have hyp : y.pv = .agg [itsP x.items, ctsP y.certs] := by unfold Bk.pv; rw [hfi]
    have hwp : (y.wo (n : Int)).pv = .agg [itsP x.items, ctsP (y.wo (n : Int)).certs] := by unfold Bk.pv Bk.wo; rw [hfi]
    rw [hwp] at hwo
    simp [-getElem?_pos, -decide_eq_true_eq, -decide_eq_false_iff_not, tmK, hle, hsh, hto, hsn]
    have hsp : decide ((bits.fdiv (2 ^ min (n % 31) IntKind.u32.bits)).tmod 2 = 1) = bitP bits n := hbt.symm
    cases ebt : bitP bits n
    · rw [ebt] at hsp hround
      simp only [Bool.false_eq_true, if_false] at hround
      simp [-getElem?_pos, -decide_eq_true_eq, -decide_eq_false_iff_not, hsp, hw]
      exact ⟨_, _, hmeas, Sub.mk (by simp [tmK]) (by simp [tmK]), hround⟩
    · rw [ebt] at hsp hround
      simp only [if_true] at hround
      simp [-getElem?_pos, -decide_eq_true_eq, -decide_eq_false_iff_not, hsp]
      refine .inl (call_pv [] (fs := []) (xs := [y.pv, .int .i64 n]) (cs := []) rfl ?_ hwo ?_)
      · simp [frzsL, hyp, itsP, ctsP]
      simp [-getElem?_pos, frzsL, hw]
      exact ⟨_, _, hmeas, Sub.mk (by simp [tmK, hw]) (by simp [tmK]), hround⟩
  have he : k = 999 := by omega
  subst he
  clear hJ hwr
  have hle : decide (((999 + 1 : Nat) : Int) ≤ 999) = false := rfl
  have w2 : IntKind.i64.wrap day = day := wrap64 (by omega)
  have w3 : IntKind.i64.wrap item = item := wrap64 (by omega)
  have k2 := tmod_bd h2.1 (show (0 : Int) < 1001 by omega)
  have k1 := tmod_bd h1.1 (show (0 : Int) < (b.items.length : Int) by omega)
  generalize hD : day.tmod 1001 = D at *
  have hto := htold (bitP bits) 999 D k2.1 (by omega)
  have hy : (x.fewN (bitP bits) 999).ok := fewN_ok hx _ _
  have hyi := fewN_its x (bitP bits) 999
  clear htold
  generalize x.fewN (bitP bits) 999 = y at *
  have hxi5 : x.items.length = b.items.length := by rw [hxi]
  have hyi5 : y.items.length = b.items.length := by rw [hyi, hxi]
  have hxp : x.pv = .agg [itsP x.items, ctsP x.certs] := rfl
  have hyp : y.pv = .agg [itsP x.items, ctsP y.certs] := by unfold Bk.pv; rw [hyi]
  have hib : itsP b.items = .lst false 4 (b.items.map It.pv) := rfl
  generalize hKK : item.tmod (b.items.length : Int) = K at *
  have hT : ∀ z : Bk, z.items = b.items → trueM z ws K D = trueM b ws K D := fun z hz => trueM_its hz K D
  simp [-getElem?_pos, -decide_eq_true_eq, -decide_eq_false_iff_not, tmK, hle, w2, w3, hD, hib, e3', e3n, hKK]
  have hq1 := hto.x1 K k1.1 (by omega)
  have hq2 := hto.y1 K k1.1 (by omega)
  have hq3 := hto.yx K k1.1 (by omega)
  clear hto
  rcases hq1 with hq1 | ⟨hq1, hhas⟩
  · have c1 := weighed0_c x hx ws K D lds hq1
    refine .inl (call_pv [] (fs := []) (xs := [x.pv, .int .i64 K, .int .i64 D, wsP ws, wsP lds]) (cs := []) rfl (by simp [frzsL, hxp]) c1 ?_)
    simp [-getElem?_pos, -decide_eq_true_eq, -decide_eq_false_iff_not, frzsL]
    refine call_gives (k := 0) (fs := []) (xs := []) (cs := []) rfl rfl hpr rfl ?_
    simp [-getElem?_pos]
  have c1 := weighed_c x hx ws hws K D k1.1 (by omega) ⟨k2.1, by omega⟩ lds hl20 hlds hq1
  rw [hT x hxi] at c1
  have ht := wg_truth (lds := lds) (n := lds.length) hhas
  have hcl : (wgN (x.spanM K D).1 (trueM b ws K D) lds lds.length).length = lds.length := wgN_len
  have hsub := fun hs => wg_lo (T := trueM b ws K D) (lds := lds) (n := lds.length) (s := (x.spanM K D).1) (t := (y.spanM K D).1) hs
  generalize hPS : wgN (x.spanM K D).1 (trueM b ws K D) lds lds.length = PS at *
  generalize tgN lds lds.length = L at *
  unfold cvP at c1
  refine .inl (call_pv [] (fs := []) (xs := [x.pv, .int .i64 K, .int .i64 D, wsP ws, wsP lds]) (cs := []) rfl (by simp [frzsL, hxp]) c1 ?_)
  by_cases e6 : cvErr PS = 0
  case neg =>
    simp [-getElem?_pos, frzsL, e6]
    refine call_gives (k := 0) (fs := []) (xs := []) (cs := []) rfl rfl hpr rfl ?_
    simp [-getElem?_pos]
  have hp : cvOk PS = true := by
    unfold cvErr at e6
    rw [if_neg (by omega)] at e6
    by_cases h : cvOk PS = true
    · exact h
    · rw [if_neg h] at e6; cases e6
  have hll := tru_len ht
  have c2 := istruth1_c PS L (by omega) (by omega)
  rw [ht] at c2
  have c3 := curve_c PS (by omega)
  have c4 := rule_c r
  have c5 := cread1_c PS r L hp e5 ht
  have c6 := strspan_c PS r hp e5
  have hsl : (sP (loL PS) PS.length).1 ≤ (sP L PS.length).1 := sP_mono fun i hi => by rw [loL_get hi]; exact (tru_at ht hi).1
  have hsh : (sP L PS.length).1 ≤ (sP (hiL PS) PS.length).1 := sP_mono fun i hi => by rw [hiL_get hi]; exact (tru_at ht hi).2
  obtain ⟨wa, wb, c7, w7, w8⟩ := truspan_c PS r L hp e5 ht 3 (.inr (.inl rfl))
  have c8 := fun h => truspan_c PS r L hp e5 ht 1 (.inr (.inr (.inl ⟨rfl, h⟩)))
  have c9 := fun h => truspan_c PS r L hp e5 ht 2 (.inr (.inr (.inr ⟨rfl, h⟩)))
  unfold resP resC at c5
  unfold numM at w7 w8 c8 c9
  simp only at w7 w8 c8 c9
  simp [-getElem?_pos, frzsL, e6]
  refine .inl (call_pv [] (fs := []) (xs := [cvP PS, intsR L]) (cs := []) rfl rfl c2 ?_)
  simp [-getElem?_pos, frzsL]
  have hsub1 : (x.spanM K D).1.sub (y.spanM K D).1 → (sP (loL (wgN (y.spanM K D).1 (trueM b ws K D) lds lds.length)) PS.length).1 ≤ (sP (loL PS) PS.length).1 ∧ (sP (hiL PS) PS.length).1 ≤ (sP (hiL (wgN (y.spanM K D).1 (trueM b ws K D) lds lds.length)) PS.length).1 := fun h => by
    rw [hcl]
    exact hsub h
  clear hsub
  have hwl : (wgN (y.spanM K D).1 (trueM b ws K D) lds lds.length).length = PS.length := by rw [hcl]; exact wgN_len
  generalize hPW : wgN (y.spanM K D).1 (trueM b ws K D) lds lds.length = PW at *
  generalize hn : PS.length = n at *
  have hl6 : n ≤ 1000000 := by omega
  have hl7 : n ≤ 999999 := by omega
  have hltk : (L.map intR).take n = L.map intR := List.take_of_length_le (by rw [List.length_map]; omega)
  generalize sP L n = RS at *
  generalize yP r L n = RY at *
  generalize mP r PS L n = RM at *
  generalize wP PS L n = RW at *
  generalize (sP (loL PS) n).1 = SL at *
  generalize (sP (hiL PS) n).1 = SH at *
  refine ltS_seq (tmM x ws lds K D r y PS [(24, .ptr (.loc 24 0) 0), (123, .pv (.int .i64 0))] [(.loc 24 0, .cells [.pv (.int .i64 RS.1), .pv (.int .i64 RS.2), .pv (.int .i64 RY.1), .pv (.int .i64 RY.2), .pv (.int .i64 RM.1), .pv (.int .i64 RM.2), .pv (.int .i64 RW)])]) ?_ ?_
  · simp [ltS_alt, ltS_no, -getElem?_pos]
    repeat' (with_reducible refine And.intro ?_ ?_)
    all_goals
      refine call_pv [] (fs := []) (xs := [cvP PS]) (cs := []) rfl rfl c3 ?_
      simp [ltS_alt, ltS_no, -getElem?_pos, frzsL]
      repeat' (with_reducible refine And.intro ?_ ?_)
      all_goals
        refine .inl (call_pv [] (fs := []) (xs := [r.pv]) (cs := []) rfl rfl c4 ?_)
        simp [ltS_alt, ltS_no, -getElem?_pos, frzsL]
        repeat' (with_reducible refine And.intro ?_ ?_)
        all_goals
          simp [ltS_alt, ltS_no, -getElem?_pos, -List.getElem?_map, intsR, nble, nblt, hl6, hl7, hll]
          repeat' (with_reducible refine And.intro ?_ ?_)
          all_goals
            refine .inl (call_pv [.loc 120 0] (fs := []) (xs := [cvP PS, r.pv, intsR L]) (cs := []) rfl ?_ c5 ?_)
            · simp [frzsL, intsR, hltk, hll]
            simp [ltS_alt, ltS_no, -getElem?_pos, frzsL]
            exact Sub.mk (by simp [tmM, cvP]) (by simp [tmM, cvP])
  · simp [ltS_alt, ltS_no, -getElem?_pos, tmM]
    refine ltS_seq (tmM x ws lds K D r y PS [(26, .ptr (.loc 26 0) 0), (131, .pv (.int .i64 0)), (24, .ptr (.loc 24 0) 0), (25, .pv (.int .i64 0))] [(.loc 26 0, .cells [.pv (.int .i64 SL), .pv (.int .i64 SH)]), (.loc 24 0, .cells [.pv (.int .i64 RS.1), .pv (.int .i64 RS.2), .pv (.int .i64 RY.1), .pv (.int .i64 RY.2), .pv (.int .i64 RM.1), .pv (.int .i64 RM.2), .pv (.int .i64 RW)])]) ?_ ?_
    · simp [ltS_alt, ltS_no, -getElem?_pos]
      repeat' (with_reducible refine And.intro ?_ ?_)
      all_goals
        refine call_pv [] (fs := []) (xs := [cvP PS]) (cs := []) rfl rfl c3 ?_
        simp [ltS_alt, ltS_no, -getElem?_pos, frzsL]
        repeat' (with_reducible refine And.intro ?_ ?_)
        all_goals
          refine .inl (call_pv [] (fs := []) (xs := [r.pv]) (cs := []) rfl rfl c4 ?_)
          simp [ltS_alt, ltS_no, -getElem?_pos, frzsL]
          repeat' (with_reducible refine And.intro ?_ ?_)
          all_goals
            refine .inl (call_pv [] (fs := []) (xs := [cvP PS, r.pv, .int .u8 0]) (cs := []) rfl rfl c6 ?_)
            simp [ltS_alt, ltS_no, -getElem?_pos, frzsL]
            exact Sub.mk (by simp [tmM]) (by simp [tmM])
    simp [ltS_alt, ltS_no, -getElem?_pos, tmM]
    refine ltS_seq (tmM x ws lds K D r y PS [(28, .ptr (.loc 28 0) 0), (139, .pv (.int .i64 0)), (26, .ptr (.loc 26 0) 0), (24, .ptr (.loc 24 0) 0), (25, .pv (.int .i64 0)), (27, .pv (.int .i64 0))] [(.loc 28 0, .cells [.pv (.int .i64 wa), .pv (.int .i64 wb)]), (.loc 26 0, .cells [.pv (.int .i64 SL), .pv (.int .i64 SH)]), (.loc 24 0, .cells [.pv (.int .i64 RS.1), .pv (.int .i64 RS.2), .pv (.int .i64 RY.1), .pv (.int .i64 RY.2), .pv (.int .i64 RM.1), .pv (.int .i64 RM.2), .pv (.int .i64 RW)])]) ?_ ?_
    · simp [ltS_alt, ltS_no, -getElem?_pos]
      repeat' (with_reducible refine And.intro ?_ ?_)
      all_goals
        refine call_pv [] (fs := []) (xs := [cvP PS]) (cs := []) rfl rfl c3 ?_
        simp [ltS_alt, ltS_no, -getElem?_pos, frzsL]
        repeat' (with_reducible refine And.intro ?_ ?_)
        all_goals
          refine .inl (call_pv [] (fs := []) (xs := [r.pv]) (cs := []) rfl rfl c4 ?_)
          simp [ltS_alt, ltS_no, -getElem?_pos, frzsL]
          repeat' (with_reducible refine And.intro ?_ ?_)
          all_goals
            refine .inl (call_pv [] (fs := []) (xs := [cvP PS, r.pv, .int .u8 3]) (cs := []) rfl rfl c7 ?_)
            simp [ltS_alt, ltS_no, -getElem?_pos, frzsL]
            exact Sub.mk (by simp [tmM]) (by simp [tmM])
    have n1 : ¬ RS.1 < SL := by omega
    have n2 : ¬ SH < RS.1 := by omega
    have n3 : ¬ RW < wa := by omega
    have n4 : ¬ wb < RW := by omega
    simp [ltS_alt, ltS_no, -getElem?_pos, tmM, n1, n2, n3, n4]
    by_cases hy0 : 0 ≤ RY.1
    obtain ⟨ya, yb, c10, y7, y8⟩ := c8 (by omega)
    have n5 : ¬ RY.2 < ya := by omega
    have n6 : ¬ yb < RY.2 := by omega
    simp [ltS_alt, ltS_no, -getElem?_pos, hy0]
    refine ltS_seq (tmM x ws lds K D r y PS [(30, .ptr (.loc 30 0) 0), (188, .pv (.int .i64 0)), (26, .ptr (.loc 26 0) 0), (24, .ptr (.loc 24 0) 0)] [(.loc 30 0, .cells [.pv (.int .i64 ya), .pv (.int .i64 yb)]), (.loc 26 0, .cells [.pv (.int .i64 SL), .pv (.int .i64 SH)]), (.loc 24 0, .cells [.pv (.int .i64 RS.1), .pv (.int .i64 RS.2), .pv (.int .i64 RY.1), .pv (.int .i64 RY.2), .pv (.int .i64 RM.1), .pv (.int .i64 RM.2), .pv (.int .i64 RW)])]) ?_ ?_
    · simp [ltS_alt, ltS_no, -getElem?_pos]
      repeat' (with_reducible refine And.intro ?_ ?_)
      all_goals
        refine call_pv [] (fs := []) (xs := [cvP PS]) (cs := []) rfl rfl c3 ?_
        simp [ltS_alt, ltS_no, -getElem?_pos, frzsL]
        repeat' (with_reducible refine And.intro ?_ ?_)
        all_goals
          refine .inl (call_pv [] (fs := []) (xs := [r.pv]) (cs := []) rfl rfl c4 ?_)
          simp [ltS_alt, ltS_no, -getElem?_pos, frzsL]
          repeat' (with_reducible refine And.intro ?_ ?_)
          all_goals
            refine .inl (call_pv [] (fs := []) (xs := [cvP PS, r.pv, .int .u8 1]) (cs := []) rfl rfl c10 ?_)
            simp [ltS_alt, ltS_no, -getElem?_pos, frzsL]
            exact Sub.mk (by simp [tmM]) (by simp [tmM])
    simp [ltS_alt, ltS_no, -getElem?_pos, tmM, n5, n6]
    rotate_left
    simp [ltS_alt, ltS_no, -getElem?_pos, hy0]
    all_goals
      by_cases hm0 : 0 ≤ RM.1
      obtain ⟨ma, mb, c11, m7, m8⟩ := c9 (by omega)
      have n7 : ¬ RM.2 < ma := by omega
      have n8 : ¬ mb < RM.2 := by omega
      simp [ltS_alt, ltS_no, -getElem?_pos, hm0]
      refine ltS_seq (tmM x ws lds K D r y PS [(32, .ptr (.loc 32 0) 0), (215, .pv (.int .i64 0)), (26, .ptr (.loc 26 0) 0), (24, .ptr (.loc 24 0) 0)] [(.loc 32 0, .cells [.pv (.int .i64 ma), .pv (.int .i64 mb)]), (.loc 26 0, .cells [.pv (.int .i64 SL), .pv (.int .i64 SH)]), (.loc 24 0, .cells [.pv (.int .i64 RS.1), .pv (.int .i64 RS.2), .pv (.int .i64 RY.1), .pv (.int .i64 RY.2), .pv (.int .i64 RM.1), .pv (.int .i64 RM.2), .pv (.int .i64 RW)])]) ?_ ?_
      · simp [ltS_alt, ltS_no, -getElem?_pos]
        repeat' (with_reducible refine And.intro ?_ ?_)
        all_goals
          refine call_pv [] (fs := []) (xs := [cvP PS]) (cs := []) rfl rfl c3 ?_
          simp [ltS_alt, ltS_no, -getElem?_pos, frzsL]
          repeat' (with_reducible refine And.intro ?_ ?_)
          all_goals
            refine .inl (call_pv [] (fs := []) (xs := [r.pv]) (cs := []) rfl rfl c4 ?_)
            simp [ltS_alt, ltS_no, -getElem?_pos, frzsL]
            repeat' (with_reducible refine And.intro ?_ ?_)
            all_goals
              refine .inl (call_pv [] (fs := []) (xs := [cvP PS, r.pv, .int .u8 2]) (cs := []) rfl rfl c11 ?_)
              simp [ltS_alt, ltS_no, -getElem?_pos, frzsL]
              exact Sub.mk (by simp [tmM]) (by simp [tmM])
      simp [ltS_alt, ltS_no, -getElem?_pos, tmM, n7, n8]
      rotate_left
      simp [ltS_alt, ltS_no, -getElem?_pos, hm0]
      all_goals
        rcases hq2 with hq2 | ⟨hq2, _⟩
        · have c12 := weighed0_c y hy ws K D lds hq2
          refine .inl (call_pv [] (fs := []) (xs := [y.pv, .int .i64 K, .int .i64 D, wsP ws, wsP lds]) (cs := []) rfl (by simp [frzsL, hyp]) c12 ?_)
          simp [-getElem?_pos, frzsL]
          refine call_gives (k := 0) (fs := []) (xs := []) (cs := []) rfl rfl hpr rfl ?_
          simp [-getElem?_pos]
        have c12 := weighed_c y hy ws hws K D k1.1 (by omega) ⟨k2.1, by omega⟩ lds hl20 hlds hq2
        rw [hT y (hyi.trans hxi), hPW] at c12
        unfold cvP at c12
        refine .inl (call_pv [] (fs := []) (xs := [y.pv, .int .i64 K, .int .i64 D, wsP ws, wsP lds]) (cs := []) rfl (by simp [frzsL, hyp]) c12 ?_)
        by_cases e7 : cvErr PW = 0
        case neg =>
          simp [-getElem?_pos, frzsL, e7]
          refine call_gives (k := 0) (fs := []) (xs := []) (cs := []) rfl rfl hpr rfl ?_
          simp [-getElem?_pos]
        have hpw : cvOk PW = true := by
          unfold cvErr at e7
          rw [if_neg (by omega)] at e7
          by_cases h : cvOk PW = true
          · exact h
          · rw [if_neg h] at e7; cases e7
        have c13 := curve_c PW (by omega)
        have c14 := strspan_c PW r hpw e5
        rw [hwl] at c14
        obtain ⟨s1, s2⟩ := hsub1 (hq3 hq2).2
        generalize (sP (loL PW) n).1 = TL at *
        generalize (sP (hiL PW) n).1 = TH at *
        simp [ltS_alt, ltS_no, -getElem?_pos, frzsL, e7]
        refine ltS_seq ⟨[(37, .ptr (.loc 37 0) 0), (252, .pv (.int .i64 0)), (26, .ptr (.loc 26 0) 0)], [(.loc 37 0, .cells [.pv (.int .i64 TL), .pv (.int .i64 TH)]), (.loc 26 0, .cells [.pv (.int .i64 SL), .pv (.int .i64 SH)])]⟩ ?_ ?_
        · simp [ltS_alt, ltS_no, -getElem?_pos]
          repeat' (with_reducible refine And.intro ?_ ?_)
          all_goals
            refine call_pv [] (fs := []) (xs := [cvP PW]) (cs := []) rfl rfl c13 ?_
            simp [ltS_alt, ltS_no, -getElem?_pos, frzsL]
            repeat' (with_reducible refine And.intro ?_ ?_)
            all_goals
              refine .inl (call_pv [] (fs := []) (xs := [r.pv]) (cs := []) rfl rfl c4 ?_)
              simp [ltS_alt, ltS_no, -getElem?_pos, frzsL]
              repeat' (with_reducible refine And.intro ?_ ?_)
              all_goals
                refine .inl (call_pv [] (fs := []) (xs := [cvP PW, r.pv, .int .u8 0]) (cs := []) rfl rfl c14 ?_)
                simp [ltS_alt, ltS_no, -getElem?_pos, frzsL]
                exact Sub.mk (by simp) (by simp)
        · simp [ltS_alt, ltS_no, -getElem?_pos, s1, s2]
          refine call_gives (k := 0) (fs := []) (xs := []) (cs := []) rfl rfl hpr rfl ?_
          simp [-getElem?_pos]
end Go.Proofs.YtaffbiibcfeigaaGreat

/-! The statement TopMeasured holds: loads that an instrument of a chain has read give a curve of which the true loads are a truth; what follows from them is in its spans; without some certificates no span is narrower. No conditions. -/
namespace Go.Proofs.YtaffbiibcfeigaaGreat
open Go.ChangeShapes Go.WideShapes Go.ChangeAt Go.RowKit

set_option maxRecDepth 100000 in
theorem walkTopMeasured (v0 v1 v2 v3 v4 v5 v6 : Value) (W : World) {H : Type} {enc : TypeId × Value → H} {base : Nat} {sp : Nat → Bool} {hd : Bool} {d0 d1 d2 d3 d4 d5 d6 : DataW H} {p0 p1 p2 p3 p4 p5 p6 : List MemPlace}
    (k0 : Value.okWide Tryz.prog W .any base 25 v0) (h0 : DataW.Trod enc Tryz.prog W 0 sp hd 25 v0 d0 p0)
    (k1 : Value.okWide Tryz.prog W .any base 31 v1) (h1 : DataW.Trod enc Tryz.prog W 0 sp hd 31 v1 d1 p1)
    (k2 : Value.okWide Tryz.prog W .any base 5 v2) (h2 : DataW.Trod enc Tryz.prog W 0 sp hd 5 v2 d2 p2)
    (k3 : Value.okWide Tryz.prog W .any base 32 v3) (h3 : DataW.Trod enc Tryz.prog W 0 sp hd 32 v3 d3 p3)
    (k4 : Value.okWide Tryz.prog W .any base 70 v4) (h4 : DataW.Trod enc Tryz.prog W 0 sp hd 70 v4 d4 p4)
    (k5 : Value.okWide Tryz.prog W .any base 31 v5) (h5 : DataW.Trod enc Tryz.prog W 0 sp hd 31 v5 d5 p5)
    (k6 : Value.okWide Tryz.prog W .any base 100 v6) (h6 : DataW.Trod enc Tryz.prog W 0 sp hd 100 v6 d6 p6) :
    Calls Tryz.prog 5 #[v0, v1, v2, v3, v4, v5, v6] W fun e w' => e = .returned (.bool true) ∧ Keep [] W w' := by
  obtain ⟨n0, h0⟩ := h0
  obtain ⟨s0, w0, r0⟩ := rk_book k0 h0
  obtain ⟨n1, h1⟩ := h1
  obtain ⟨s1, w1, l1, r1⟩ := rd_u16s k1 h1
  obtain ⟨s2, rfl, rfl, rfl, w2⟩ := open_int Tryz.underlying5 k2 h2
  obtain ⟨s3, rfl, rfl, rfl, w3⟩ := open_int Tryz.underlying32 k3 h3
  obtain ⟨s4, rfl, rfl, rfl, w4⟩ := open_int Tryz.underlying70 k4 h4
  obtain ⟨n5, h5⟩ := h5
  obtain ⟨s5, w5, l5, r5⟩ := rd_u16s k5 h5
  obtain ⟨n6, h6⟩ := h6
  obtain ⟨s6, w6, r6⟩ := rk_rule k6 h6
  refine calls_bool (xs := [s0.pv, .lst false 1 (s1.map (PV.int .u16)), .int .u8 s2, .int .u16 s3, .int .u32 s4, .lst false 1 (s5.map (PV.int .u16)), s6.pv]) (b := true) ((topMeasured_law s0 s1 s5 s2 s3 s4 s6 w1 w5 (ku8 w2) (ku16 w3) (by have := ku32 w4; omega)).mono (fun _ _ h => h.1)) rfl (fun j v x e1 e2 => ?_)
  match j with
  | 0 => simp at e1 e2; subst e1 e2; exact r0
  | 1 => simp at e1 e2; subst e1 e2; exact r1
  | 2 => simp at e1 e2; subst e1 e2; exact .int .u8 s2
  | 3 => simp at e1 e2; subst e1 e2; exact .int .u16 s3
  | 4 => simp at e1 e2; subst e1 e2; exact .int .u32 s4
  | 5 => simp at e1 e2; subst e1 e2; exact r5
  | 6 => simp at e1 e2; subst e1 e2; exact r6
  | j + 7 => simp at e1
set_option maxRecDepth 100000 in
theorem liftedTopMeasured (os : Os) (started : os.Started) (H : Type) (enc : TypeId × Value → H) :
    ReturnsInHanded {} Tryz.checked os 5 .any (Rows.topMeasuredSpec.pre6 enc Tryz.prog Tryz.f5 Rows.topMeasuredRow.domain false) (Rows.topMeasuredSpec.post enc Tryz.prog Tryz.f5 false true false false) := by
  refine returnsInHanded_of_change (C := Tryz.checked) own started (by kernel_rfl) Tryz.func5
    (ChangeSpec.witness6 (enc := enc) (C := Tryz.checked) false ⟨#[], #[.agg #[.slice none 0 0, .slice none 0 0], .slice none 0 0, .int .u8 0, .int .u16 0, .int .u32 0, .slice none 0 0, .agg #[.int .i64 0, .int .i64 0, .int .i64 0]], []⟩ 8 (by kernel_rfl) (by kernel_rfl) (by kernel_rfl) (by kernel_rfl)) ?_
  intro W base args ds gs before hval0 hW hcnd _
  have hval : ∀ (j : Nat) t v, Tryz.f5.params[j]? = some t → args[j]? = some v → Value.okWide Tryz.prog W .any base t v := hval0
  have hW' := hW
  obtain ⟨p, q, hA0, hV, rfl, hfz, hnd⟩ := hW
  have hA : DataW.TrodAll enc Tryz.prog W 0 (fun _ => true) true Tryz.f5.params.toList args.toList ds p := hA0
  rw [Tryz.params5] at hA hval
  obtain ⟨v0, vs0, d0, ds0, p0, q0, hargs, rfl, rfl, h0, r0⟩ := trodAll_cons hA
  obtain ⟨v1, vs1, d1, ds1, p1, q1, rfl, rfl, rfl, h1, r1⟩ := trodAll_cons r0
  obtain ⟨v2, vs2, d2, ds2, p2, q2, rfl, rfl, rfl, h2, r2⟩ := trodAll_cons r1
  obtain ⟨v3, vs3, d3, ds3, p3, q3, rfl, rfl, rfl, h3, r3⟩ := trodAll_cons r2
  obtain ⟨v4, vs4, d4, ds4, p4, q4, rfl, rfl, rfl, h4, r4⟩ := trodAll_cons r3
  obtain ⟨v5, vs5, d5, ds5, p5, q5, rfl, rfl, rfl, h5, r5⟩ := trodAll_cons r4
  obtain ⟨v6, vs6, d6, ds6, p6, q6, rfl, rfl, rfl, h6, r6⟩ := trodAll_cons r5
  obtain ⟨rfl, rfl, rfl⟩ := trodAll_nil r6
  have hargs' : args = #[v0, v1, v2, v3, v4, v5, v6] := by
    apply Array.ext'
    exact hargs
  subst hargs'
  have k0 := hval 0 _ v0 rfl rfl
  have k1 := hval 1 _ v1 rfl rfl
  have k2 := hval 2 _ v2 rfl rfl
  have k3 := hval 3 _ v3 rfl rfl
  have k4 := hval 4 _ v4 rfl rfl
  have k5 := hval 5 _ v5 rfl rfl
  have k6 := hval 6 _ v6 rfl rfl
  obtain ⟨rfl, rfl⟩ := trodVars_none hV
  refine (walkTopMeasured v0 v1 v2 v3 v4 v5 v6 W k0 h0 k1 h1 k2 h2 k3 h3 k4 h4 k5 h5 k6 h6).mono fun e W' ⟨he, hk⟩ => ?_
  subst he
  exact ⟨_, rfl, post_law (tb := 4) laidP rowedP fullP (by decide +kernel) rfl rfl rfl Tryz.underlying4 hW' hk⟩
theorem overTopMeasured : Rows.topMeasuredRow.holds Tryz.pinned (OpenSpec.ofChange Rows.topMeasuredSpec) :=
  OpenClaim.holds_of_wide 5 Tryz.f5 rfl rfl rfl rfl rfl rfl rfl ⟨rfl, rfl, rfl, rfl, rfl⟩ rfl rfl rfl rfl rfl (by kernel_rfl) Tryz.func5 (by kernel_rfl)
    (of_decide_eq_true (by kernel_rfl)) (by unfold Func.isWrapper; first | (rw [if_pos (by decide +kernel)]; kernel_rfl) | (rw [if_neg (by decide +kernel)]; exact ⟨rfl, rfl⟩))
    (fun os started H enc _ => liftedTopMeasured os started H enc)
theorem provedTopMeasured : Rows.TopMeasuredSaid := overTopMeasured
end Go.Proofs.YtaffbiibcfeigaaGreat
