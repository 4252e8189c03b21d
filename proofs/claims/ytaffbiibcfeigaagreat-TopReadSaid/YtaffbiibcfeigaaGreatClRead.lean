/- Top, layers 2 and 8: the law TopRead. (Several texts in one.) -/
import Derived.Test.YtaffbiibcfeigaaGreatTrC
import Derived.Test.YtaffbiibcfeigaaGreatTrE
import Derived.Test.YtaffbiibcfeigaaGreatTrD
import Derived.Test.YtaffbiibcfeigaaGreatChK
import Derived.Test.YtaffbiibcfeigaaGreatChC
import Derived.Test.YtaffbiibcfeigaaGreatChF
import Derived.Test.YtaffbiibcfeigaaGreatChI
import Derived.Test.YtaffbiibcfeigaaGreatRows
import Derived.WalkKit
import Derived.ProofKit
import Derived.OpenShut
set_option linter.unusedVariables false
set_option linter.unusedSimpArgs false
/-! Top, layers 2 and 8: the law TopRead. -/
namespace Go.Proofs.YtaffbiibcfeigaaGreat
open Go.RowKit

set_option maxRecDepth 10000
set_option linter.unusedSimpArgs false
attribute [local irreducible] Bk.held Bk.nums Bk.heldU Bk.span Bk.contra trueM wordM
attribute [local simp] AS.exp expG Box.ren AV.map AV.mapL outsOk noRet Site.isRet Box.allS AV.allS AV.allSL retB dropL AS.adds renL outG outOk lentBx inG fnOf lookA List.findIdx?_cons
attribute [local simp] Box.purge Site.isLoc
attribute [local simp] retFz frzL AS.frz AV.frz AV.frzL Box.frz AS.tidy AS.frzC
def tzB : Box := .cells [.pv (.emp (some true)), .pv (.emp (some true)), .pv (.int .i64 0), .pv (.emp (some true))]
def tqJ (b : Bk) (X : List PV) (r : Rn) (ws : List Int) (V : PV) (D lab shift : Int) : AS := ⟨[(2, .pv (wsP ws)), (5, .pv (.int .u8 lab)), (6, .pv (.int .i16 shift)), (7, .ptr (.loc 7 0) 0), (8, .ptr (.loc 8 0) 0), (15, .ptr (.loc 15 0) 0), (17, .pv (.int .i64 D)), (18, .pv V), (19, .ptr (.loc 19 0) 0), (20, .ptr (.loc 20 0) 0), (84, .pv (.agg r.pvs))],
  [(.loc 20 0, tzB), (.loc 19 0, .cells (rcells r)), (.loc 7 0, .cells [.pv (itsP b.items), .pv (ctsP b.certs)]), (.loc 8 0, .cells (rcells r)), (.loc 15 0, .cells [.pv (itsP b.items), .pv (.lst false 7 X)])]⟩
def tqB (b : Bk) (t : TopR) : List (Site × Box) := [(.loc 7 0, .cells [.pv (itsP b.items), .pv (ctsP b.certs)]), (.loc 8 0, .cells (rcells t.r)), (.loc 15 0, .cells [.pv (itsP b.items), .pv (ctsP t.x.certs)])]
def tqT (t : TopR) (i : Nat) : List (Nat × AV) := [(2, .pv (wsP t.ws)), (7, .ptr (.loc 7 0) 0), (8, .ptr (.loc 8 0) 0), (15, .ptr (.loc 15 0) 0), (17, .pv (.int .i64 t.d)), (18, .pv (intsP (vals8 t.r t.ow t.r.smp.length))), (19, .ptr (.loc 19 0) 0), (20, .ptr (.loc 20 0) 0), (21, .pv (.int .i64 t.k)), (22, .pv (.int .i64 t.by_)), (23, .pv (.int .i64 i))]
def tqX (b : Bk) (t : TopR) (i : Nat) (O W : List PV) : List (Site × Box) := (.loc 218 0, .arr 54 2 O) :: (.loc 223 0, .arr 54 2 W) :: (.loc 19 0, .cells [.pv (lotsP t.r.lots), .pv (intsP t.r.smp), .pv (.int .i64 t.r.spr), .vec (.loc 218 0) 2 0 i]) :: (.loc 20 0, .cells [.pv (lotsP t.r.lots), .pv (intsP t.r.smp), .pv (.int .i64 t.r.spr), .vec (.loc 223 0) 2 0 i]) :: tqB b t
def tqK (b : Bk) (t : TopR) (i : Nat) : AS := ⟨tqT t i, tqX b t i ((t.ones i).map Lb.pv) ((t.twos i).map Lb.pv)⟩
def tqM (b : Bk) (t : TopR) (i n : Nat) : List (Nat × AV) := (24, .pv (.int .i64 ((i % b.items.length : Nat) : Int))) :: (26, .pv (.int .i64 (t.S i).2)) :: (27, .pv (.int .i64 (midM (t.S i).1))) :: (28, .pv (.int .i64 (tolM (t.S i).1))) :: (29, .ptr (.loc 29 0) 0) :: (30, .ptr (.loc 30 0) 0) :: (31, .pv (.int .i64 n)) :: tqT t i
def tqN (b : Bk) (t : TopR) (i n : Nat) : AS := ⟨tqM b t i n, (.loc 206 0, .arr 3 1 ((t.rds i n).map intP)) :: (.loc 211 0, .arr 3 1 ((t.wrs i n).map intP)) :: (.loc 29 0, .cells [.pv (.int .i64 (t.tol i)), .vec (.loc 206 0) 1 0 n]) :: (.loc 30 0, .cells [.pv (.int .i64 (t.tol i)), .vec (.loc 211 0) 1 0 n]) :: tqX b t i ((t.ones i).map Lb.pv) ((t.twos i).map Lb.pv)⟩
def tqQ (b : Bk) (t : TopR) (i n : Nat) (RL WL : List PV) (rd wr : Int) : AS := ⟨(206, .vec (.loc 206 0) 1 0 (n + 1)) :: (211, .vec (.loc 211 0) 1 0 (n + 1)) :: (212, .ptr (.loc 29 0) 1) :: tqM b t i n, (.loc 206 0, .arr 3 1 (RL ++ [.int .i64 rd])) :: (.loc 211 0, .arr 3 1 (WL ++ [.int .i64 wr])) :: (.loc 29 0, .cells [.pv (.int .i64 (t.tol i)), .any]) :: (.loc 30 0, .cells [.pv (.int .i64 (t.tol i)), .any]) :: tqX b t i ((t.ones i).map Lb.pv) ((t.twos i).map Lb.pv)⟩
theorem rds_next {t : TopR} {i n : Nat} : (t.rds i (n + 1)).map intP = (t.rds i n).map intP ++ [.int .i64 (t.rd i n)] := by unfold TopR.rds; rw [List.range_succ, List.map_append, List.map_append]; rfl
theorem wrs_next {t : TopR} {i n : Nat} : (t.wrs i (n + 1)).map intP = (t.wrs i n).map intP ++ [.int .i64 (t.wr i n)] := by unfold TopR.wrs; rw [List.range_succ, List.map_append, List.map_append]; rfl
theorem rds_len {t : TopR} {i n : Nat} : ((t.rds i n).map intP).length = n := by unfold TopR.rds; simp
theorem wrs_len {t : TopR} {i n : Nat} : ((t.wrs i n).map intP).length = n := by unfold TopR.wrs; simp
def tqR (b : Bk) (t : TopR) (i : Nat) (OL TL : List PV) : AS := ⟨(218, .vec (.loc 218 0) 2 0 (i + 1)) :: (223, .vec (.loc 223 0) 2 0 (i + 1)) :: (224, .ptr (.loc 19 0) 3) :: tqT t i, (.loc 218 0, .arr 54 2 (OL ++ [(t.one i).pv])) :: (.loc 223 0, .arr 54 2 (TL ++ [(t.two i).pv])) :: (.loc 19 0, .cells [.pv (lotsP t.r.lots), .pv (intsP t.r.smp), .pv (.int .i64 t.r.spr), .any]) :: (.loc 20 0, .cells [.pv (lotsP t.r.lots), .pv (intsP t.r.smp), .pv (.int .i64 t.r.spr), .any]) :: tqB b t⟩
theorem ones_next {t : TopR} {i : Nat} : (t.ones (i + 1)).map Lb.pv = (t.ones i).map Lb.pv ++ [(t.one i).pv] := by unfold TopR.ones; rw [List.range_succ, List.map_append, List.map_append]; rfl
theorem twos_next {t : TopR} {i : Nat} : (t.twos (i + 1)).map Lb.pv = (t.twos i).map Lb.pv ++ [(t.two i).pv] := by unfold TopR.twos; rw [List.range_succ, List.map_append, List.map_append]; rfl
theorem ones_len {t : TopR} {i : Nat} : ((t.ones i).map Lb.pv).length = i := by unfold TopR.ones; simp
theorem twos_len {t : TopR} {i : Nat} : ((t.twos i).map Lb.pv).length = i := by unfold TopR.twos; simp
set_option maxHeartbeats 64000000 in
theorem topRead_law (b : Bk) (r : Rn) (ws ow : List Int) (day lab shift : Int) (hws : ∀ y ∈ ws, 0 ≤ y ∧ y < 65536) (how : ∀ y ∈ ow, 0 ≤ y ∧ y < 65536) (h2 : 0 ≤ day ∧ day ≤ 65535) (h3 : 0 ≤ lab ∧ lab ≤ 255) (h4 : -32768 ≤ shift ∧ shift ≤ 32767) :
    Gives Tryz.prog 3 [b.pv, r.pv, wsP ws, wsP ow, .int .u16 day, .int .u8 lab, .int .i16 shift] (.bool true) := by
  have hpr := reads_c
  have hth := thin_c b
  have hwt := wthin_c r
  refine calls_of_awpS mixed LtopRead_ok (Nat.le_of_ble_eq_true rfl) ?_
  simp [-getElem?_pos, LtopRead, Bk.pv, Rn.pv, Rn.pvs]
  refine call_gives (k := 0) (fs := []) (xs := [b.pv]) (cs := []) rfl rfl hth rfl ?_
  cases e1 : (decide (b.items.length ≤ 10) && decide (b.certs.length ≤ 28))
  · simp [-getElem?_pos]
    refine call_gives (k := 0) (fs := []) (xs := []) (cs := []) rfl rfl hpr rfl ?_
    simp [-getElem?_pos]
  have hsz : b.items.length ≤ 10 ∧ b.certs.length ≤ 28 := by simpa using e1
  clear e1
  have hrf := rfault_c b (by omega) (by omega)
  simp [-getElem?_pos]
  refine call_gives (k := 0) (fs := []) (xs := [b.pv]) (cs := []) rfl rfl hrf rfl ?_
  cases e2 : decide (b.fault = 0)
  · have e2' : ¬ b.fault = 0 := of_decide_eq_false e2
    simp [-getElem?_pos, e2']
    refine call_gives (k := 0) (fs := []) (xs := []) (cs := []) rfl rfl hpr rfl ?_
    simp [-getElem?_pos]
  have hf0 : b.fault = 0 := of_decide_eq_true e2
  have hb : b.ok := Bk.ok_iff.1 hf0
  clear e2
  cases e3 : decide ((b.items.length : Int) = 0)
  case true =>
    have hi0 : b.items = [] := List.length_eq_zero_iff.1 (by have := of_decide_eq_true e3; omega)
    simp [-getElem?_pos, -decide_eq_true_eq, -decide_eq_false_iff_not, hf0, itsP, e3, hi0]
    refine call_gives (k := 0) (fs := []) (xs := []) (cs := []) rfl rfl hpr rfl ?_
    simp [-getElem?_pos]
  have hi0 : ¬ b.items = [] := fun h => by rw [h] at e3; simp at e3
  have hpi : 0 < b.items.length := List.length_pos_iff.2 hi0
  simp [-getElem?_pos, -decide_eq_true_eq, -decide_eq_false_iff_not, hf0, itsP, e3, hi0]
  refine call_gives (k := 0) (fs := []) (xs := [r.pv]) (cs := []) rfl rfl hwt rfl ?_
  cases e4 : r.thinB
  · simp [-getElem?_pos]
    refine call_gives (k := 0) (fs := []) (xs := []) (cs := []) rfl rfl hpr rfl ?_
    simp [-getElem?_pos]
  have hrz : r.lots.length ≤ 6 ∧ r.smp.length ≤ 10 ∧ r.labs.length ≤ 8 := by
    unfold Rn.thinB at e4
    simp only [Bool.and_eq_true, decide_eq_true_eq] at e4
    omega
  clear e4
  have hwf := wfault_c r (by omega) (by omega) (by omega)
  simp [-getElem?_pos]
  refine call_gives (k := 0) (fs := []) (xs := [r.pv]) (cs := []) rfl rfl hwf rfl ?_
  cases e5 : decide (r.fault = 0)
  · have e5' : ¬ r.fault = 0 := of_decide_eq_false e5
    simp [-getElem?_pos, e5']
    refine call_gives (k := 0) (fs := []) (xs := []) (cs := []) rfl rfl hpr rfl ?_
    simp [-getElem?_pos]
  have hg0 : r.fault = 0 := of_decide_eq_true e5
  have hr : r.ok := Rn.fault_ok hg0
  clear e5
  have hwr := written_c b hb ws hws
  simp [-getElem?_pos, hg0]
  refine call_lent (as' := [.pv b.pv, .pv (wsP ws)]) (B := []) (fs := []) (cs := []) 71 [] ?_ rfl rfl rfl ?_ ?_ hwr ?_
  · rfl
  · rfl
  · rfl
  rintro r0 B0 ⟨rfl, rfl⟩
  refine ⟨rfl, by simp, ?_⟩
  by_cases hf : (b.writ ws).fault = 0
  case neg =>
    simp [-getElem?_pos, hf]
    refine call_gives (k := 0) (fs := []) (xs := []) (cs := []) rfl rfl hpr rfl ?_
    simp [-getElem?_pos]
  have hx : (b.writ ws).ok := Bk.ok_iff.1 hf
  have hxc : (b.writ ws).certs.length = b.certs.length := by unfold Bk.writ; simp
  have hxi : (b.writ ws).items = b.items := rfl
  have hth' : ((b.writ ws).certs.map Ct.pv).take b.certs.length = (b.writ ws).certs.map Ct.pv := List.take_of_length_le (by rw [List.length_map, hxc]; exact Nat.le_refl _)
  have htl : ((b.writ ws).certs.map Ct.pv).length = b.certs.length := by rw [List.length_map, hxc]
  have w2 : IntKind.i64.wrap day = day := wrap64 (by omega)
  have k2 := tmod_bd h2.1 (show (0 : Int) < 1001 by omega)
  have hsp : ∀ D : Int, 0 ≤ D → D ≤ 1000 → ∀ i : Int, 0 ≤ i → i < b.items.length → (((b.writ ws).spanM i D).2 = 10 ∧ ((b.writ ws).spanM i D).1 = ⟨0, 0⟩) ∨ (((b.writ ws).spanM i D).2 = 0 ∧ ((b.writ ws).spanM i D).1.has (trueM (b.writ ws) ws i D)) := fun D d0 d1 i i0 i1 => by
    rcases writ_spanM hb hws hx i0 i1 d0 d1 with h | ⟨h, hh⟩
    · refine .inl ⟨h, ?_⟩
      unfold Bk.spanM at h ⊢
      split at h
      · split at h
        · cases h
        · cases h
      · rename_i hc
        rw [if_neg hc]
    · refine .inr ⟨h, ?_⟩
      have : trueM (b.writ ws) ws i D = trueM b ws i D := by unfold trueM; rfl
      rw [this]
      exact hh
  simp [-getElem?_pos, hf, w2]
  generalize hD : day.tmod 1001 = D at *
  have htr := true8_c r hr ow how
  refine .inl (call_pv [] (fs := []) (xs := [r.pv, wsP ow]) (cs := []) rfl (by simp [frzsL, Rn.pv, Rn.pvs]) htr ?_)
  simp [-getElem?_pos, frzsL]
  refine ltS_seq (tqJ b ((b.writ ws).certs.map Ct.pv) r ws (intsP (vals8 r ow r.smp.length)) D lab shift) ?_ ?_
  · simp [-getElem?_pos, ltS_alt, ltS_no]
    repeat' (with_reducible refine And.intro ?_ ?_)
    all_goals
      refine Sub.trans' (Sub.mk ?_ ?_) (Sub.frz [.loc 71 0])
      · simp [tqJ, frzsL, hth', htl, hxi, Rn.pvs, ctsP, itsP]
      · simp [tqJ, frzsL, hth', htl, hxi, tzB, rcells, ctsP, itsP]
  have hnl : r.labs.length ≤ 8 := hrz.2.2
  cases e6 : decide ((r.labs.length : Int) = 0)
  case true =>
    have hl0 : r.labs = [] := List.length_eq_zero_iff.1 (by have := of_decide_eq_true e6; omega)
    simp [-getElem?_pos, -decide_eq_true_eq, -decide_eq_false_iff_not, ltS_alt, ltS_no, tqJ, tzB, rcells, Rn.pvs, labsP, e6, hl0]
    refine call_gives (k := 0) (fs := []) (xs := []) (cs := []) rfl rfl hpr rfl ?_
    simp [-getElem?_pos]
  have hl0 : ¬ r.labs = [] := fun h => by rw [h] at e6; simp at e6
  have hpl : 0 < r.labs.length := List.length_pos_iff.2 hl0
  have hni : ¬ (r.labs.length : Int) = 0 := by omega
  have w3 : IntKind.i64.wrap lab = lab := wrap64 (by omega)
  have w4 : IntKind.i64.wrap shift = shift := wrap64 (by omega)
  have k3 := tmod_bd h3.1 (show (0 : Int) < (r.labs.length : Int) by omega)
  have k4 : -1000 < shift.tmod 1000 ∧ shift.tmod 1000 < 1000 := by
    rcases Int.le_total 0 shift with h0 | h0
    · have := tmod_bd h0 (show (0 : Int) < 1000 by omega)
      omega
    · have h1 := tmod_bd (a := -shift) (by omega) (show (0 : Int) < 1000 by omega)
      have h2 : shift.tmod 1000 = -((-shift).tmod 1000) := by rw [← Int.neg_tmod, Int.neg_neg]
      omega
  obtain ⟨kn, hkn⟩ : ∃ kn : Nat, lab.tmod (r.labs.length : Int) = kn := ⟨(lab.tmod (r.labs.length : Int)).toNat, by omega⟩
  rw [hkn] at k3
  generalize hBY : shift.tmod 1000 = BY at *
  obtain ⟨t, ht⟩ : ∃ t : TopR, t = ⟨b.writ ws, ws, D, r, ow, kn, BY⟩ := ⟨_, rfl⟩
  have hto : t.ok := by
    rw [ht]
    exact ⟨hr, how, hpi, fun i i0 i1 => hsp D k2.1 (by omega) i i0 i1⟩
  have t1 : t.x = b.writ ws := by rw [ht]
  have t2 : t.ws = ws := by rw [ht]
  have t3 : t.d = D := by rw [ht]
  have t4 : t.r = r := by rw [ht]
  have t5 : t.ow = ow := by rw [ht]
  have t6 : t.k = kn := by rw [ht]
  have t7 : t.by_ = BY := by rw [ht]
  clear ht hsp htr hwt hth hrf hwf hwr
  simp [-getElem?_pos, -decide_eq_true_eq, -decide_eq_false_iff_not, ltS_alt, ltS_no, tqJ, tzB, rcells, Rn.pvs, labsP, e6, hl0, w3, w4, hni, hkn, hBY]
  refine awp_loopS (fun m τ => ∃ i : Nat, i ≤ r.labs.length ∧ m = r.labs.length - i ∧ τ = tqK b t i) ⟨r.labs.length, tqK b t 0, Sub.trans' (Sub.trans' (Sub.mk ?_ ?_) (vecC 218 54 2 (s := .loc 19 0) (cs := [.pv (lotsP r.lots), .pv (intsP r.smp), .pv (.int .i64 r.spr), .pv (.emp (some true))]) 3 rfl rfl (by decide))) (vecC 223 54 2 (s := .loc 20 0) (cs := [.pv (lotsP r.lots), .pv (intsP r.smp), .pv (.int .i64 r.spr), .pv (.emp (some true))]) 3 rfl rfl (by decide)), 0, by omega, rfl, rfl⟩ ?_
  · simp [tqK, tqT, AS.vecC, t1, t2, t3, t4, t5, t6, t7]
  · simp [tqK, tqX, tqB, TopR.ones, TopR.twos, AS.vecC, rcells, labsP, ctsP, t1, t2, t3, t4, t5, t6, t7]
  generalize hX : b.writ ws = x at *
  have hxl := hx.c
  have hbk := book_c x (by rw [hxi]; omega) (by omega)
  have hbk' : x.pv = .agg [itsP b.items, ctsP x.certs] := by unfold Bk.pv; rw [hxi]
  rintro J hJ m τ ⟨i, hi, rfl, rfl⟩
  by_cases hlt : i < r.labs.length
  · have hwi := wrapK (k := i) (by omega)
    have hround := hJ _ _ ⟨i + 1, hlt, rfl, rfl⟩
    have hmeas : r.labs.length - (i + 1) < r.labs.length - i := by omega
    have hmod : (i : Int).tmod (b.items.length : Int) = ((i % b.items.length : Nat) : Int) := by rw [Int.tmod_eq_emod_of_nonneg (by omega)]; omega
    have hitl : i % b.items.length < b.items.length := Nat.mod_lt _ hpi
    have hspc := Span_c x (by rw [hxi]; omega) (by omega) ((i % b.items.length : Nat) : Int) D
    have htrc := true_c x hx ws hws ((i % b.items.length : Nat) : Int) D (by omega) (by rw [hxi]; omega) ⟨k2.1, by omega⟩
    have hSe : x.spanM ((i % b.items.length : Nat) : Int) D = t.S i := by unfold TopR.S; rw [t1, t3, hxi]
    have hTe : trueM x ws ((i % b.items.length : Nat) : Int) D = t.T i := by unfold TopR.T; rw [t1, t2, t3, hxi]
    have hSb := spanM_bdd hx ((i % b.items.length : Nat) : Int) D
    have hTb := true_bd hx hws (i := ((i % b.items.length : Nat) : Int)) (d := D) (by omega) (by rw [hxi]; omega) k2.1
    rw [hSe] at hspc hSb
    rw [hTe] at htrc hTb
    have hS := hto.hS i
    unfold Cr.bdd at hSb
    unfold spanE Cr.pv at hspc
    have hib0 : ¬ (b.items.length : Int) = 0 := by omega
    clear hJ hSe hTe
    simp [-getElem?_pos, -List.getElem?_map, -decide_eq_true_eq, -decide_eq_false_iff_not, tqK, tqT, tqX, tqB, rcells, labsP, itsP, t1, t2, t3, t4, t5, t6, t7, hlt, hmod, hi0, hib0]
    refine .inl (call_pv [] (fs := []) (xs := [x.pv]) (cs := []) rfl (by simp [frzsL, hbk', itsP]) hbk ?_)
    simp [-getElem?_pos, -List.getElem?_map, -decide_eq_true_eq, -decide_eq_false_iff_not, frzsL]
    refine .inl (call_pv [] (fs := []) (xs := [x.pv, .int .i64 ((i % b.items.length : Nat) : Int), .int .i64 D]) (cs := []) rfl (by simp [frzsL]) hspc ?_)
    simp [-getElem?_pos, -List.getElem?_map, -decide_eq_true_eq, -decide_eq_false_iff_not, frzsL]
    have w5 : IntKind.i64.wrap ((t.S i).1.lo + (t.S i).1.hi) = (t.S i).1.lo + (t.S i).1.hi := wrap64 (by omega)
    have w6 : IntKind.i64.wrap ((t.S i).1.hi - (t.S i).1.lo) = (t.S i).1.hi - (t.S i).1.lo := wrap64 (by omega)
    have w7 : IntKind.i64.wrap ((t.S i).1.hi - (t.S i).1.lo + 1) = (t.S i).1.hi - (t.S i).1.lo + 1 := wrap64 (by omega)
    have hq : -1000000001 ≤ ((t.S i).1.hi - (t.S i).1.lo + 1).tdiv 2 ∧ ((t.S i).1.hi - (t.S i).1.lo + 1).tdiv 2 ≤ 1000000001 := by
      rcases Int.le_total 0 ((t.S i).1.hi - (t.S i).1.lo + 1) with h0 | h0
      · rw [Int.tdiv_eq_ediv_of_nonneg h0]; omega
      · have : ((t.S i).1.hi - (t.S i).1.lo + 1).tdiv 2 = -((-((t.S i).1.hi - (t.S i).1.lo + 1)).tdiv 2) := by rw [Int.neg_tdiv, Int.neg_neg]
        rw [this, Int.tdiv_eq_ediv_of_nonneg (by omega)]; omega
    have w8 : IntKind.i64.wrap (((t.S i).1.hi - (t.S i).1.lo + 1).tdiv 2) = tolM (t.S i).1 := wrap64 (by omega)
    have hmin : (if tolM (t.S i).1 < 100 then tolM (t.S i).1 else 100) = t.tol i := by unfold TopR.tol; split <;> omega
    have hmid : ((t.S i).1.lo + (t.S i).1.hi).fdiv (2 ^ min 1 IntKind.i64.bits) = midM (t.S i).1 := rfl
    rcases hS with hS | ⟨hS, hSh⟩
    · simp [-getElem?_pos, -List.getElem?_map, -decide_eq_true_eq, -decide_eq_false_iff_not, hS, w5, w6, w7, w8, hmin]
      refine awp_loopS (fun m τ => ∃ n : Nat, n ≤ r.smp.length ∧ m = r.smp.length - n ∧ τ = tqN b t i n) ⟨r.smp.length, tqN b t i 0, Sub.trans' (Sub.trans' (Sub.mk ?_ ?_) (vecC 206 3 1 (s := .loc 29 0) (cs := [.pv (.int .i64 (t.tol i)), .pv (.emp (some true))]) 1 rfl rfl (by decide))) (vecC 211 3 1 (s := .loc 30 0) (cs := [.pv (.int .i64 (t.tol i)), .pv (.emp (some true))]) 1 rfl rfl (by decide)), 0, by omega, rfl, rfl⟩ ?_
      · simp [tqN, tqM, tqT, AS.vecC, t1, t2, t3, t4, t5, t6, t7, hS, hmid]
      · simp [tqN, tqX, tqB, TopR.rds, TopR.wrs, AS.vecC, rcells, labsP, itsP, ctsP, t1, t2, t3, t4, t5, t6, t7]
      rintro J2 hJ2 m τ ⟨n, hn, rfl, rfl⟩
      by_cases hlt2 : n < r.smp.length
      · have hwn := wrapK (k := n) (by omega)
        have hround2 := hJ2 _ _ ⟨n + 1, hlt2, rfl, rfl⟩
        have hmeas2 : r.smp.length - (n + 1) < r.smp.length - n := by omega
        have hgv : ((vals8 r ow r.smp.length).map intP)[n]? = some (.int .i64 (v8M r ow n)) := by unfold vals8; rw [List.getElem?_map, List.getElem?_map, List.getElem?_range hlt2]; rfl
        have hv8 := hto.v8 (i := n) (by rw [t4]; exact hlt2)
        rw [t4, t5] at hv8
        have hvl : (vals8 r ow r.smp.length).length = r.smp.length := vals8_len
        have hmb : -2000000000 ≤ midM (t.S i).1 ∧ midM (t.S i).1 ≤ 2000000000 := by unfold midM; rw [Int.fdiv_eq_ediv_of_nonneg _ (by omega)]; omega
        have x1 : IntKind.i64.wrap (v8M r ow n - t.T i) = v8M r ow n - t.T i := wrap64 (by omega)
        have x2 : IntKind.i64.wrap (v8M r ow n - t.T i + midM (t.S i).1) = v8M r ow n - t.T i + midM (t.S i).1 := wrap64 (by omega)
        have x3 : IntKind.i64.wrap (v8M r ow n - t.T i + midM (t.S i).1 + BY) = v8M r ow n - t.T i + midM (t.S i).1 + BY := wrap64 (by omega)
        have hrl := rds_len (t := t) (i := i) (n := n)
        have hwl := wrs_len (t := t) (i := i) (n := n)
        have hk6 : n ≤ 999999 := by omega
        have hk7 : n + 1 ≤ 1000000 := by omega
        have hrdv : t.rd i n = -1 := by unfold TopR.rd rdT; rw [if_pos (.inl (by rw [hS]; omega))]
        have hwrv : t.wr i n = -1 := by unfold TopR.wr; rw [hrdv]; unfold wrT; rw [if_pos (.inl (by omega))]
        unfold tqN at hround2
        rw [rds_next, wrs_next, hrdv, hwrv] at hround2
        clear hJ2 hrdv hwrv
        simp [-getElem?_pos, -List.getElem?_map, -decide_eq_true_eq, -decide_eq_false_iff_not, tqN, tqM, tqT, tqX, tqB, rcells, labsP, intsP, t1, t2, t3, t4, t5, t6, t7, hlt2, hgv, hvl]
        refine call_give (k := 0) (fs := []) (xs := [x.pv, .int .i64 ((i % b.items.length : Nat) : Int), .int .i64 D, wsP ws]) (cs := []) rfl (by simp [snapW, AV.snap, AV.snap0, hbk', itsP, ctsP]) htrc rfl ?_
        generalize (t.rds i n).map intP = RL at *
        generalize (t.wrs i n).map intP = WL at *
        cases e7 : decide ((i : Int) = (kn : Int))
        · simp [-getElem?_pos, -List.getElem?_map, -decide_eq_true_eq, -decide_eq_false_iff_not, x1, x2, x3, e7, hS]
          refine ltS_seq (tqQ b t i n RL WL (-1) (-1)) ?_ ?_
          · simp [-getElem?_pos, -List.getElem?_map, ltS_alt, ltS_no, nble, nblt, hrl, hwl, hk6, hk7]
            repeat' (with_reducible refine And.intro ?_ ?_)
            all_goals
              refine Sub.mk ?_ ?_
              · simp [tqQ, tqM, tqT, t1, t2, t3, t4, t5, t6, t7, intsP, hS]
              · simp [tqQ, tqX, tqB, rcells, labsP, intsP, t1, t2, t3, t4, t5, t6, t7]
          simp [-getElem?_pos, -List.getElem?_map, ltS_alt, ltS_no, tqQ, tqM, tqT, hwn]
          exact ⟨_, _, hmeas2, Sub.mk (by simp [tqN, tqM, tqT, t1, t2, t3, t4, t5, t6, t7, hS]) (by simp [tqN, tqX, tqB, rcells, labsP, intsP, t1, t2, t3, t4, t5, t6, t7]), hround2⟩
        · simp [-getElem?_pos, -List.getElem?_map, -decide_eq_true_eq, -decide_eq_false_iff_not, x1, x2, x3, e7, hS]
          refine ltS_seq (tqQ b t i n RL WL (-1) (-1)) ?_ ?_
          · simp [-getElem?_pos, -List.getElem?_map, ltS_alt, ltS_no, nble, nblt, hrl, hwl, hk6, hk7]
            repeat' (with_reducible refine And.intro ?_ ?_)
            all_goals
              refine Sub.mk ?_ ?_
              · simp [tqQ, tqM, tqT, t1, t2, t3, t4, t5, t6, t7, intsP, hS]
              · simp [tqQ, tqX, tqB, rcells, labsP, intsP, t1, t2, t3, t4, t5, t6, t7]
          simp [-getElem?_pos, -List.getElem?_map, ltS_alt, ltS_no, tqQ, tqM, tqT, hwn]
          exact ⟨_, _, hmeas2, Sub.mk (by simp [tqN, tqM, tqT, t1, t2, t3, t4, t5, t6, t7, hS]) (by simp [tqN, tqX, tqB, rcells, labsP, intsP, t1, t2, t3, t4, t5, t6, t7]), hround2⟩
      have he : n = r.smp.length := by omega
      subst he
      clear hJ2
      have hrl := rds_len (t := t) (i := i) (n := r.smp.length)
      have hwl := wrs_len (t := t) (i := i) (n := r.smp.length)
      have hrt : ((t.rds i r.smp.length).map intP).take r.smp.length = (t.rds i r.smp.length).map intP := List.take_of_length_le (by omega)
      have hwt : ((t.wrs i r.smp.length).map intP).take r.smp.length = (t.wrs i r.smp.length).map intP := List.take_of_length_le (by omega)
      have hone : (t.one i).pv = .agg [.int .i64 (t.tol i), .lst false 1 ((t.rds i r.smp.length).map intP)] := by unfold TopR.one Lb.pv; rw [t4]
      have htwo : (t.two i).pv = .agg [.int .i64 (t.tol i), .lst false 1 ((t.wrs i r.smp.length).map intP)] := by unfold TopR.two Lb.pv; rw [t4]
      have hol := ones_len (t := t) (i := i)
      have htl2 := twos_len (t := t) (i := i)
      have hk6 : i ≤ 999999 := by omega
      have hk7 : i + 1 ≤ 1000000 := by omega
      unfold tqK at hround
      rw [ones_next, twos_next] at hround
      simp [-getElem?_pos, -List.getElem?_map, -decide_eq_true_eq, -decide_eq_false_iff_not, tqN, tqM, tqT, tqX, tqB, rcells, labsP, intsP, t1, t2, t3, t4, t5, t6, t7]
      generalize (t.ones i).map Lb.pv = OL at *
      generalize (t.twos i).map Lb.pv = TL at *
      generalize (t.rds i r.smp.length).map intP = RL at *
      generalize (t.wrs i r.smp.length).map intP = WL at *
      refine ltS_seq (tqR b t i OL TL) ?_ ?_
      · simp [-getElem?_pos, -List.getElem?_map, ltS_alt, ltS_no, nble, nblt, hrl, hwl, hrt, hwt, hol, htl2, hk6, hk7]
        repeat' (with_reducible refine And.intro ?_ ?_)
        all_goals
          refine Sub.mk ?_ ?_
          · simp [tqR, tqT, t1, t2, t3, t4, t5, t6, t7, intsP]
          · simp [tqR, tqB, rcells, labsP, intsP, hone, htwo, t1, t2, t3, t4, t5, t6, t7]
      simp [-getElem?_pos, -List.getElem?_map, ltS_alt, ltS_no, tqR, tqT, hwi]
      exact ⟨_, _, hmeas, Sub.mk (by simp [tqT, t1, t2, t3, t4, t5, t6, t7]) (by simp [tqX, tqB, rcells, labsP, intsP, t1, t2, t3, t4, t5, t6, t7]), hround⟩
    · simp [-getElem?_pos, -List.getElem?_map, -decide_eq_true_eq, -decide_eq_false_iff_not, hS, w5, w6, w7, w8, hmin]
      refine awp_loopS (fun m τ => ∃ n : Nat, n ≤ r.smp.length ∧ m = r.smp.length - n ∧ τ = tqN b t i n) ⟨r.smp.length, tqN b t i 0, Sub.trans' (Sub.trans' (Sub.mk ?_ ?_) (vecC 206 3 1 (s := .loc 29 0) (cs := [.pv (.int .i64 (t.tol i)), .pv (.emp (some true))]) 1 rfl rfl (by decide))) (vecC 211 3 1 (s := .loc 30 0) (cs := [.pv (.int .i64 (t.tol i)), .pv (.emp (some true))]) 1 rfl rfl (by decide)), 0, by omega, rfl, rfl⟩ ?_
      · simp [tqN, tqM, tqT, AS.vecC, t1, t2, t3, t4, t5, t6, t7, hS, hmid]
      · simp [tqN, tqX, tqB, TopR.rds, TopR.wrs, AS.vecC, rcells, labsP, itsP, ctsP, t1, t2, t3, t4, t5, t6, t7]
      rintro J2 hJ2 m τ ⟨n, hn, rfl, rfl⟩
      by_cases hlt2 : n < r.smp.length
      · have hwn := wrapK (k := n) (by omega)
        have hround2 := hJ2 _ _ ⟨n + 1, hlt2, rfl, rfl⟩
        have hmeas2 : r.smp.length - (n + 1) < r.smp.length - n := by omega
        have hgv : ((vals8 r ow r.smp.length).map intP)[n]? = some (.int .i64 (v8M r ow n)) := by unfold vals8; rw [List.getElem?_map, List.getElem?_map, List.getElem?_range hlt2]; rfl
        have hv8 := hto.v8 (i := n) (by rw [t4]; exact hlt2)
        rw [t4, t5] at hv8
        have hvl : (vals8 r ow r.smp.length).length = r.smp.length := vals8_len
        have hmb : -2000000000 ≤ midM (t.S i).1 ∧ midM (t.S i).1 ≤ 2000000000 := by unfold midM; rw [Int.fdiv_eq_ediv_of_nonneg _ (by omega)]; omega
        have x1 : IntKind.i64.wrap (v8M r ow n - t.T i) = v8M r ow n - t.T i := wrap64 (by omega)
        have x2 : IntKind.i64.wrap (v8M r ow n - t.T i + midM (t.S i).1) = v8M r ow n - t.T i + midM (t.S i).1 := wrap64 (by omega)
        have x3 : IntKind.i64.wrap (v8M r ow n - t.T i + midM (t.S i).1 + BY) = v8M r ow n - t.T i + midM (t.S i).1 + BY := wrap64 (by omega)
        have hrl := rds_len (t := t) (i := i) (n := n)
        have hwl := wrs_len (t := t) (i := i) (n := n)
        have hk6 : n ≤ 999999 := by omega
        have hk7 : n + 1 ≤ 1000000 := by omega
        obtain ⟨lb, hlb⟩ : ∃ lb, r.labs[i]? = some lb := ⟨r.labs[i], List.getElem?_eq_getElem hlt⟩
        have hlbo := List.all_eq_true.1 hr.b lb (List.mem_of_getElem? hlb)
        unfold Lb.okB at hlbo
        simp only [Bool.and_eq_true, decide_eq_true_eq] at hlbo
        obtain ⟨o, ho⟩ : ∃ o, lb.rds[n]? = some o := ⟨lb.rds[n]'(by omega), List.getElem?_eq_getElem (by omega)⟩
        have hgl : (r.labs.map Lb.pv)[i]? = some (.agg [.int .i64 lb.tol, .lst false 1 (lb.rds.map intP)]) := by rw [List.getElem?_map, hlb]; rfl
        have hgo : (lb.rds.map intP)[n]? = some (.int .i64 o) := by rw [List.getElem?_map, ho]; rfl
        have hol3 : n < lb.rds.length := by omega
        have horig : t.orig i n = o := by unfold TopR.orig; rw [t4, hlb]; show (lb.rds[n]?).getD 0 = o; rw [ho]; rfl
        have hrdT : t.rd i n = rdT (t.S i) (t.T i) (v8M r ow n) o := by unfold TopR.rd; rw [t4, t5, horig]
        have hwrT : t.wr i n = wrT (t.rd i n) (if i = kn then BY else 0) := by unfold TopR.wr; rw [t6, t7]
        have hin := win_c (v8M r ow n - t.T i + midM (t.S i).1) 0 1000
        have hin2 := win_c (v8M r ow n - t.T i + midM (t.S i).1 + BY) 0 1000
        unfold tqN at hround2
        rw [rds_next, wrs_next] at hround2
        clear hJ2 hlbo horig
        simp [-getElem?_pos, -List.getElem?_map, -decide_eq_true_eq, -decide_eq_false_iff_not, tqN, tqM, tqT, tqX, tqB, rcells, labsP, intsP, t1, t2, t3, t4, t5, t6, t7, hlt2, hgv, hvl]
        refine call_give (k := 0) (fs := []) (xs := [x.pv, .int .i64 ((i % b.items.length : Nat) : Int), .int .i64 D, wsP ws]) (cs := []) rfl (by simp [snapW, AV.snap, AV.snap0, hbk', itsP, ctsP]) htrc rfl ?_
        generalize (t.rds i n).map intP = RL at *
        generalize (t.wrs i n).map intP = WL at *
        cases e7 : decide ((i : Int) = (kn : Int))
        case false =>
          cases eA2 : decide ((100 : Int) < tolM (t.S i).1)
          case true =>
            simp [-getElem?_pos, -List.getElem?_map, -decide_eq_true_eq, -decide_eq_false_iff_not, x1, x2, x3, e7, hS, hgl, hgo, hlt, hol3, eA2]
            have hrdv : t.rd i n = (-1) := by rw [hrdT]; unfold rdT; rw [if_pos (.inr (.inl (of_decide_eq_true eA2)))]
            have hwrv : t.wr i n = (-1) := by rw [hwrT, hrdv]; unfold wrT; rw [if_pos (.inl (by omega))]
            rw [hrdv, hwrv] at hround2
            refine ltS_seq (tqQ b t i n RL WL (-1) (-1)) ?_ ?_
            · simp [-getElem?_pos, -List.getElem?_map, ltS_alt, ltS_no, nble, nblt, hrl, hwl, hk6, hk7]
              repeat' (with_reducible refine And.intro ?_ ?_)
              all_goals
                refine Sub.mk ?_ ?_
                · simp [tqQ, tqM, tqT, t1, t2, t3, t4, t5, t6, t7, intsP, hS]
                · simp [tqQ, tqX, tqB, rcells, labsP, intsP, t1, t2, t3, t4, t5, t6, t7]
            simp [-getElem?_pos, -List.getElem?_map, ltS_alt, ltS_no, tqQ, tqM, tqT, hwn]
            exact ⟨_, _, hmeas2, Sub.mk (by simp [tqN, tqM, tqT, t1, t2, t3, t4, t5, t6, t7, hS]) (by simp [tqN, tqX, tqB, rcells, labsP, intsP, t1, t2, t3, t4, t5, t6, t7]), hround2⟩
          cases eA3 : decide (o < 0)
          case true =>
            simp [-getElem?_pos, -List.getElem?_map, -decide_eq_true_eq, -decide_eq_false_iff_not, x1, x2, x3, e7, hS, hgl, hgo, hlt, hol3, eA2, eA3]
            have hrdv : t.rd i n = (-1) := by rw [hrdT]; unfold rdT; rw [if_pos (.inr (.inr (.inl (of_decide_eq_true eA3))))]
            have hwrv : t.wr i n = (-1) := by rw [hwrT, hrdv]; unfold wrT; rw [if_pos (.inl (by omega))]
            rw [hrdv, hwrv] at hround2
            refine ltS_seq (tqQ b t i n RL WL (-1) (-1)) ?_ ?_
            · simp [-getElem?_pos, -List.getElem?_map, ltS_alt, ltS_no, nble, nblt, hrl, hwl, hk6, hk7]
              repeat' (with_reducible refine And.intro ?_ ?_)
              all_goals
                refine Sub.mk ?_ ?_
                · simp [tqQ, tqM, tqT, t1, t2, t3, t4, t5, t6, t7, intsP, hS]
                · simp [tqQ, tqX, tqB, rcells, labsP, intsP, t1, t2, t3, t4, t5, t6, t7]
            simp [-getElem?_pos, -List.getElem?_map, ltS_alt, ltS_no, tqQ, tqM, tqT, hwn]
            exact ⟨_, _, hmeas2, Sub.mk (by simp [tqN, tqM, tqT, t1, t2, t3, t4, t5, t6, t7, hS]) (by simp [tqN, tqX, tqB, rcells, labsP, intsP, t1, t2, t3, t4, t5, t6, t7]), hround2⟩
          simp [-getElem?_pos, -List.getElem?_map, -decide_eq_true_eq, -decide_eq_false_iff_not, x1, x2, x3, e7, hS, hgl, hgo, hlt, hol3, eA2, eA3]
          refine call_gives (k := 0) rfl rfl hin rfl ?_
          cases eA4 : inB (v8M r ow n - t.T i + midM (t.S i).1) 0 1000
          · simp [-getElem?_pos, -List.getElem?_map, -decide_eq_true_eq, -decide_eq_false_iff_not]
            have hrdv : t.rd i n = (-1) := by rw [hrdT]; unfold rdT; rw [if_pos (.inr (.inr (.inr eA4)))]
            have hwrv : t.wr i n = (-1) := by rw [hwrT, hrdv]; unfold wrT; rw [if_pos (.inl (by omega))]
            rw [hrdv, hwrv] at hround2
            refine ltS_seq (tqQ b t i n RL WL (-1) (-1)) ?_ ?_
            · simp [-getElem?_pos, -List.getElem?_map, ltS_alt, ltS_no, nble, nblt, hrl, hwl, hk6, hk7]
              repeat' (with_reducible refine And.intro ?_ ?_)
              all_goals
                refine Sub.mk ?_ ?_
                · simp [tqQ, tqM, tqT, t1, t2, t3, t4, t5, t6, t7, intsP, hS]
                · simp [tqQ, tqX, tqB, rcells, labsP, intsP, t1, t2, t3, t4, t5, t6, t7]
            simp [-getElem?_pos, -List.getElem?_map, ltS_alt, ltS_no, tqQ, tqM, tqT, hwn]
            exact ⟨_, _, hmeas2, Sub.mk (by simp [tqN, tqM, tqT, t1, t2, t3, t4, t5, t6, t7, hS]) (by simp [tqN, tqX, tqB, rcells, labsP, intsP, t1, t2, t3, t4, t5, t6, t7]), hround2⟩
          have hge : 0 ≤ (v8M r ow n - t.T i + midM (t.S i).1) := by unfold inB at eA4; simp only [Bool.and_eq_true, decide_eq_true_eq] at eA4; exact eA4.1
          have hneg : decide ((v8M r ow n - t.T i + midM (t.S i).1) < 0) = false := decide_eq_false (by omega)
          simp [-getElem?_pos, -List.getElem?_map, -decide_eq_true_eq, -decide_eq_false_iff_not, hneg]
          refine call_gives (k := 0) rfl rfl hin rfl ?_
          rw [eA4]
          simp [-getElem?_pos, -List.getElem?_map, -decide_eq_true_eq, -decide_eq_false_iff_not]
          have hrdv : t.rd i n = (v8M r ow n - t.T i + midM (t.S i).1) := by rw [hrdT]; unfold rdT; rw [if_neg (by rw [not_or, not_or, not_or]; exact ⟨fun h => h hS, of_decide_eq_false eA2, of_decide_eq_false eA3, by rw [show rawM (t.S i) (t.T i) (v8M r ow n) = (v8M r ow n - t.T i + midM (t.S i).1) from rfl, eA4]; simp⟩)]; rfl
          have hwrv : t.wr i n = (v8M r ow n - t.T i + midM (t.S i).1) := by rw [hwrT, hrdv, if_neg (by have := of_decide_eq_false e7; omega)]; unfold wrT; rw [Int.add_zero, if_neg (by rw [not_or, eA4]; exact ⟨by omega, by simp⟩)]
          rw [hrdv, hwrv] at hround2
          refine ltS_seq (tqQ b t i n RL WL (v8M r ow n - t.T i + midM (t.S i).1) (v8M r ow n - t.T i + midM (t.S i).1)) ?_ ?_
          · simp [-getElem?_pos, -List.getElem?_map, ltS_alt, ltS_no, nble, nblt, hrl, hwl, hk6, hk7]
            repeat' (with_reducible refine And.intro ?_ ?_)
            all_goals
              refine Sub.mk ?_ ?_
              · simp [tqQ, tqM, tqT, t1, t2, t3, t4, t5, t6, t7, intsP, hS]
              · simp [tqQ, tqX, tqB, rcells, labsP, intsP, t1, t2, t3, t4, t5, t6, t7]
          simp [-getElem?_pos, -List.getElem?_map, ltS_alt, ltS_no, tqQ, tqM, tqT, hwn]
          exact ⟨_, _, hmeas2, Sub.mk (by simp [tqN, tqM, tqT, t1, t2, t3, t4, t5, t6, t7, hS]) (by simp [tqN, tqX, tqB, rcells, labsP, intsP, t1, t2, t3, t4, t5, t6, t7]), hround2⟩
        case true =>
          cases eA2 : decide ((100 : Int) < tolM (t.S i).1)
          case true =>
            simp [-getElem?_pos, -List.getElem?_map, -decide_eq_true_eq, -decide_eq_false_iff_not, x1, x2, x3, e7, hS, hgl, hgo, hlt, hol3, eA2]
            have hrdv : t.rd i n = (-1) := by rw [hrdT]; unfold rdT; rw [if_pos (.inr (.inl (of_decide_eq_true eA2)))]
            have hwrv : t.wr i n = (-1) := by rw [hwrT, hrdv]; unfold wrT; rw [if_pos (.inl (by omega))]
            rw [hrdv, hwrv] at hround2
            refine ltS_seq (tqQ b t i n RL WL (-1) (-1)) ?_ ?_
            · simp [-getElem?_pos, -List.getElem?_map, ltS_alt, ltS_no, nble, nblt, hrl, hwl, hk6, hk7]
              repeat' (with_reducible refine And.intro ?_ ?_)
              all_goals
                refine Sub.mk ?_ ?_
                · simp [tqQ, tqM, tqT, t1, t2, t3, t4, t5, t6, t7, intsP, hS]
                · simp [tqQ, tqX, tqB, rcells, labsP, intsP, t1, t2, t3, t4, t5, t6, t7]
            simp [-getElem?_pos, -List.getElem?_map, ltS_alt, ltS_no, tqQ, tqM, tqT, hwn]
            exact ⟨_, _, hmeas2, Sub.mk (by simp [tqN, tqM, tqT, t1, t2, t3, t4, t5, t6, t7, hS]) (by simp [tqN, tqX, tqB, rcells, labsP, intsP, t1, t2, t3, t4, t5, t6, t7]), hround2⟩
          cases eA3 : decide (o < 0)
          case true =>
            simp [-getElem?_pos, -List.getElem?_map, -decide_eq_true_eq, -decide_eq_false_iff_not, x1, x2, x3, e7, hS, hgl, hgo, hlt, hol3, eA2, eA3]
            have hrdv : t.rd i n = (-1) := by rw [hrdT]; unfold rdT; rw [if_pos (.inr (.inr (.inl (of_decide_eq_true eA3))))]
            have hwrv : t.wr i n = (-1) := by rw [hwrT, hrdv]; unfold wrT; rw [if_pos (.inl (by omega))]
            rw [hrdv, hwrv] at hround2
            refine ltS_seq (tqQ b t i n RL WL (-1) (-1)) ?_ ?_
            · simp [-getElem?_pos, -List.getElem?_map, ltS_alt, ltS_no, nble, nblt, hrl, hwl, hk6, hk7]
              repeat' (with_reducible refine And.intro ?_ ?_)
              all_goals
                refine Sub.mk ?_ ?_
                · simp [tqQ, tqM, tqT, t1, t2, t3, t4, t5, t6, t7, intsP, hS]
                · simp [tqQ, tqX, tqB, rcells, labsP, intsP, t1, t2, t3, t4, t5, t6, t7]
            simp [-getElem?_pos, -List.getElem?_map, ltS_alt, ltS_no, tqQ, tqM, tqT, hwn]
            exact ⟨_, _, hmeas2, Sub.mk (by simp [tqN, tqM, tqT, t1, t2, t3, t4, t5, t6, t7, hS]) (by simp [tqN, tqX, tqB, rcells, labsP, intsP, t1, t2, t3, t4, t5, t6, t7]), hround2⟩
          simp [-getElem?_pos, -List.getElem?_map, -decide_eq_true_eq, -decide_eq_false_iff_not, x1, x2, x3, e7, hS, hgl, hgo, hlt, hol3, eA2, eA3]
          refine call_gives (k := 0) rfl rfl hin rfl ?_
          cases eA4 : inB (v8M r ow n - t.T i + midM (t.S i).1) 0 1000
          · simp [-getElem?_pos, -List.getElem?_map, -decide_eq_true_eq, -decide_eq_false_iff_not]
            have hrdv : t.rd i n = (-1) := by rw [hrdT]; unfold rdT; rw [if_pos (.inr (.inr (.inr eA4)))]
            have hwrv : t.wr i n = (-1) := by rw [hwrT, hrdv]; unfold wrT; rw [if_pos (.inl (by omega))]
            rw [hrdv, hwrv] at hround2
            refine ltS_seq (tqQ b t i n RL WL (-1) (-1)) ?_ ?_
            · simp [-getElem?_pos, -List.getElem?_map, ltS_alt, ltS_no, nble, nblt, hrl, hwl, hk6, hk7]
              repeat' (with_reducible refine And.intro ?_ ?_)
              all_goals
                refine Sub.mk ?_ ?_
                · simp [tqQ, tqM, tqT, t1, t2, t3, t4, t5, t6, t7, intsP, hS]
                · simp [tqQ, tqX, tqB, rcells, labsP, intsP, t1, t2, t3, t4, t5, t6, t7]
            simp [-getElem?_pos, -List.getElem?_map, ltS_alt, ltS_no, tqQ, tqM, tqT, hwn]
            exact ⟨_, _, hmeas2, Sub.mk (by simp [tqN, tqM, tqT, t1, t2, t3, t4, t5, t6, t7, hS]) (by simp [tqN, tqX, tqB, rcells, labsP, intsP, t1, t2, t3, t4, t5, t6, t7]), hround2⟩
          have hge : 0 ≤ (v8M r ow n - t.T i + midM (t.S i).1) := by unfold inB at eA4; simp only [Bool.and_eq_true, decide_eq_true_eq] at eA4; exact eA4.1
          have hneg : decide ((v8M r ow n - t.T i + midM (t.S i).1) < 0) = false := decide_eq_false (by omega)
          simp [-getElem?_pos, -List.getElem?_map, -decide_eq_true_eq, -decide_eq_false_iff_not, hneg]
          refine call_gives (k := 0) rfl rfl hin2 rfl ?_
          cases eA5 : inB (v8M r ow n - t.T i + midM (t.S i).1 + BY) 0 1000
          · simp [-getElem?_pos, -List.getElem?_map, -decide_eq_true_eq, -decide_eq_false_iff_not]
            have hrdv : t.rd i n = (v8M r ow n - t.T i + midM (t.S i).1) := by rw [hrdT]; unfold rdT; rw [if_neg (by rw [not_or, not_or, not_or]; exact ⟨fun h => h hS, of_decide_eq_false eA2, of_decide_eq_false eA3, by rw [show rawM (t.S i) (t.T i) (v8M r ow n) = (v8M r ow n - t.T i + midM (t.S i).1) from rfl, eA4]; simp⟩)]; rfl
            have hwrv : t.wr i n = (-1) := by rw [hwrT, hrdv, if_pos (by have := of_decide_eq_true e7; omega)]; unfold wrT; rw [if_pos (.inr eA5)]
            rw [hrdv, hwrv] at hround2
            refine ltS_seq (tqQ b t i n RL WL (v8M r ow n - t.T i + midM (t.S i).1) (-1)) ?_ ?_
            · simp [-getElem?_pos, -List.getElem?_map, ltS_alt, ltS_no, nble, nblt, hrl, hwl, hk6, hk7]
              repeat' (with_reducible refine And.intro ?_ ?_)
              all_goals
                refine Sub.mk ?_ ?_
                · simp [tqQ, tqM, tqT, t1, t2, t3, t4, t5, t6, t7, intsP, hS]
                · simp [tqQ, tqX, tqB, rcells, labsP, intsP, t1, t2, t3, t4, t5, t6, t7]
            simp [-getElem?_pos, -List.getElem?_map, ltS_alt, ltS_no, tqQ, tqM, tqT, hwn]
            exact ⟨_, _, hmeas2, Sub.mk (by simp [tqN, tqM, tqT, t1, t2, t3, t4, t5, t6, t7, hS]) (by simp [tqN, tqX, tqB, rcells, labsP, intsP, t1, t2, t3, t4, t5, t6, t7]), hround2⟩
          simp [-getElem?_pos, -List.getElem?_map, -decide_eq_true_eq, -decide_eq_false_iff_not]
          have hrdv : t.rd i n = (v8M r ow n - t.T i + midM (t.S i).1) := by rw [hrdT]; unfold rdT; rw [if_neg (by rw [not_or, not_or, not_or]; exact ⟨fun h => h hS, of_decide_eq_false eA2, of_decide_eq_false eA3, by rw [show rawM (t.S i) (t.T i) (v8M r ow n) = (v8M r ow n - t.T i + midM (t.S i).1) from rfl, eA4]; simp⟩)]; rfl
          have hwrv : t.wr i n = (v8M r ow n - t.T i + midM (t.S i).1 + BY) := by rw [hwrT, hrdv, if_pos (by have := of_decide_eq_true e7; omega)]; unfold wrT; rw [if_neg (by rw [not_or, eA5]; exact ⟨by omega, by simp⟩)]
          rw [hrdv, hwrv] at hround2
          refine ltS_seq (tqQ b t i n RL WL (v8M r ow n - t.T i + midM (t.S i).1) (v8M r ow n - t.T i + midM (t.S i).1 + BY)) ?_ ?_
          · simp [-getElem?_pos, -List.getElem?_map, ltS_alt, ltS_no, nble, nblt, hrl, hwl, hk6, hk7]
            repeat' (with_reducible refine And.intro ?_ ?_)
            all_goals
              refine Sub.mk ?_ ?_
              · simp [tqQ, tqM, tqT, t1, t2, t3, t4, t5, t6, t7, intsP, hS]
              · simp [tqQ, tqX, tqB, rcells, labsP, intsP, t1, t2, t3, t4, t5, t6, t7]
          simp [-getElem?_pos, -List.getElem?_map, ltS_alt, ltS_no, tqQ, tqM, tqT, hwn]
          exact ⟨_, _, hmeas2, Sub.mk (by simp [tqN, tqM, tqT, t1, t2, t3, t4, t5, t6, t7, hS]) (by simp [tqN, tqX, tqB, rcells, labsP, intsP, t1, t2, t3, t4, t5, t6, t7]), hround2⟩
      have he : n = r.smp.length := by omega
      subst he
      clear hJ2
      have hrl := rds_len (t := t) (i := i) (n := r.smp.length)
      have hwl := wrs_len (t := t) (i := i) (n := r.smp.length)
      have hrt : ((t.rds i r.smp.length).map intP).take r.smp.length = (t.rds i r.smp.length).map intP := List.take_of_length_le (by omega)
      have hwt : ((t.wrs i r.smp.length).map intP).take r.smp.length = (t.wrs i r.smp.length).map intP := List.take_of_length_le (by omega)
      have hone : (t.one i).pv = .agg [.int .i64 (t.tol i), .lst false 1 ((t.rds i r.smp.length).map intP)] := by unfold TopR.one Lb.pv; rw [t4]
      have htwo : (t.two i).pv = .agg [.int .i64 (t.tol i), .lst false 1 ((t.wrs i r.smp.length).map intP)] := by unfold TopR.two Lb.pv; rw [t4]
      have hol := ones_len (t := t) (i := i)
      have htl2 := twos_len (t := t) (i := i)
      have hk6 : i ≤ 999999 := by omega
      have hk7 : i + 1 ≤ 1000000 := by omega
      unfold tqK at hround
      rw [ones_next, twos_next] at hround
      simp [-getElem?_pos, -List.getElem?_map, -decide_eq_true_eq, -decide_eq_false_iff_not, tqN, tqM, tqT, tqX, tqB, rcells, labsP, intsP, t1, t2, t3, t4, t5, t6, t7]
      generalize (t.ones i).map Lb.pv = OL at *
      generalize (t.twos i).map Lb.pv = TL at *
      generalize (t.rds i r.smp.length).map intP = RL at *
      generalize (t.wrs i r.smp.length).map intP = WL at *
      refine ltS_seq (tqR b t i OL TL) ?_ ?_
      · simp [-getElem?_pos, -List.getElem?_map, ltS_alt, ltS_no, nble, nblt, hrl, hwl, hrt, hwt, hol, htl2, hk6, hk7]
        repeat' (with_reducible refine And.intro ?_ ?_)
        all_goals
          refine Sub.mk ?_ ?_
          · simp [tqR, tqT, t1, t2, t3, t4, t5, t6, t7, intsP]
          · simp [tqR, tqB, rcells, labsP, intsP, hone, htwo, t1, t2, t3, t4, t5, t6, t7]
      simp [-getElem?_pos, -List.getElem?_map, ltS_alt, ltS_no, tqR, tqT, hwi]
      exact ⟨_, _, hmeas, Sub.mk (by simp [tqT, t1, t2, t3, t4, t5, t6, t7]) (by simp [tqX, tqB, rcells, labsP, intsP, t1, t2, t3, t4, t5, t6, t7]), hround⟩
  have he : i = r.labs.length := by omega
  subst he
  clear hJ
  have hoo := hto.own_ok
  have hof := hto.off_ok
  obtain ⟨l, hl1, hl2, hl3⟩ := hto.fit_own.spn
  obtain ⟨l2, hm1, _, _⟩ := hto.fit_off1.spn
  obtain ⟨l4, hn1, _, _⟩ := hto.fit_shift.spn
  have hnl2 : t.ones r.labs.length = t.own.labs := by unfold TopR.own; rw [t4]
  have hnl3 : t.twos r.labs.length = t.off.labs := by unfold TopR.off; rw [t4]
  have hll1 : t.own.labs.length = r.labs.length := by rw [← hnl2]; unfold TopR.ones; simp
  have hll2 : t.off.labs.length = r.labs.length := by rw [← hnl3]; unfold TopR.twos; simp
  have hs1 : t.own.smp = r.smp := by unfold TopR.own; rw [t4]
  have hs2 : t.own.lots = r.lots := by unfold TopR.own; rw [t4]
  have hs3 : t.own.spr = r.spr := by unfold TopR.own; rw [t4]
  have hs4 : t.off.smp = r.smp := by unfold TopR.off; rw [t4]
  have hs5 : t.off.lots = r.lots := by unfold TopR.off; rw [t4]
  have hs6 : t.off.spr = r.spr := by unfold TopR.off; rw [t4]
  have c1 := wround_c t.own (by rw [hs2]; omega) (by rw [hs1]; omega) (by omega) (fun z hz => by have := (hoo.2.b.rd z hz).1; rw [this, hs1]; omega)
  have c2 := wExplains0_c t.own hoo.1 hoo.2
  have c3 := wSpans_c t.own hoo.1 hoo.2 hl1
  have c4 := wround_c t.off (by rw [hs5]; omega) (by rw [hs4]; omega) (by omega) (fun z hz => by have := (hof.2.b.rd z hz).1; rw [this, hs4]; omega)
  have c5 := wExplains1_c t.off hof.1 hof.2 t.k (by rw [hll2, t6]; omega)
  have c6 := wShifts_c t.off hof.1 hof.2 t.k (by rw [hll2, t6]; omega) (by rw [hm1]) t.by_ (by rw [t7]; omega) (by rw [hn1])
  have hsh := shfM_has (P := fun b => (spnM t.off off0 t.k b).2) (t := t.by_) (by rw [t7]; omega) (by rw [hn1])
  rw [hl1] at c2
  rw [hm1] at c5
  generalize shfM (fun b => (spnM t.off off0 t.k b).2) 4001 = F at *
  have hop : t.own.pv = .agg [lotsP r.lots, intsP r.smp, .int .i64 r.spr, .lst false 2 ((t.ones r.labs.length).map Lb.pv)] := by unfold Rn.pv Rn.pvs; rw [hs1, hs2, hs3, hnl2]; rfl
  have hfp : t.off.pv = .agg [lotsP r.lots, intsP r.smp, .int .i64 r.spr, .lst false 2 ((t.twos r.labs.length).map Lb.pv)] := by unfold Rn.pv Rn.pvs; rw [hs4, hs5, hs6, hnl3]; rfl
  have hot : ((t.ones r.labs.length).map Lb.pv).take r.labs.length = (t.ones r.labs.length).map Lb.pv := List.take_of_length_le (by rw [ones_len]; exact Nat.le_refl _)
  have hft : ((t.twos r.labs.length).map Lb.pv).take r.labs.length = (t.twos r.labs.length).map Lb.pv := List.take_of_length_le (by rw [twos_len]; exact Nat.le_refl _)
  have hol := ones_len (t := t) (i := r.labs.length)
  have hfl := twos_len (t := t) (i := r.labs.length)
  rw [t6] at c5 c6
  rw [t7] at hsh
  rw [hs1] at hl2 hl3
  simp [-getElem?_pos, -List.getElem?_map, -decide_eq_true_eq, -decide_eq_false_iff_not, tqK, tqT, tqX, tqB, rcells, labsP, t1, t2, t3, t4, t5, t6, t7]
  generalize t.own.pv = OP at *
  generalize t.off.pv = FP at *
  generalize (t.ones r.labs.length).map Lb.pv = OL at *
  generalize (t.twos r.labs.length).map Lb.pv = TL at *
  have d1 : decide (BY < F.lo) = false := decide_eq_false (by omega)
  have d2 : decide (F.hi < BY) = false := decide_eq_false (by omega)
  have hvl : (vals8 r ow r.smp.length).length = r.smp.length := vals8_len
  clear hoo hof hl1 hm1 hn1 hnl2 hnl3 hll1 hll2 hs1 hs2 hs3 hs4 hs5 hs6
  refine .inl (call_pv [.loc 218 0] (fs := []) (xs := [OP]) (cs := []) rfl (by simp [frzsL, hop, hot, hol]) c1 ?_)
  simp [-getElem?_pos, -List.getElem?_map, -decide_eq_true_eq, -decide_eq_false_iff_not, frzsL, hot, hol]
  refine .inl (call_pv [] (fs := []) (xs := [OP, .emp (some true)]) (cs := []) rfl (by simp [frzsL]) c2 ?_)
  simp [-getElem?_pos, -List.getElem?_map, -decide_eq_true_eq, -decide_eq_false_iff_not, frzsL]
  refine .inl (call_pv [] (fs := []) (xs := [OP]) (cs := []) rfl (by simp [frzsL, hop]) c1 ?_)
  simp [-getElem?_pos, -List.getElem?_map, -decide_eq_true_eq, -decide_eq_false_iff_not, frzsL]
  refine .inl (call_pv [] (fs := []) (xs := [OP, .emp (some true)]) (cs := []) rfl (by simp [frzsL]) c3 ?_)
  simp [-getElem?_pos, -List.getElem?_map, -decide_eq_true_eq, -decide_eq_false_iff_not, frzsL]
  refine .inl (call_pv [.loc 223 0] (fs := []) (xs := [FP]) (cs := []) rfl (by simp [frzsL, hfp, hft, hfl]) c4 ?_)
  simp [-getElem?_pos, -List.getElem?_map, -decide_eq_true_eq, -decide_eq_false_iff_not, frzsL, hft, hfl]
  refine .inl (call_pv [.loc 242 0] (fs := []) (xs := [FP, .lst false 1 [.int .i64 kn]]) (cs := []) rfl (by simp [frzsL]) c5 ?_)
  simp [-getElem?_pos, -List.getElem?_map, -decide_eq_true_eq, -decide_eq_false_iff_not, frzsL]
  refine .inl (call_pv [] (fs := []) (xs := [FP]) (cs := []) rfl (by simp [frzsL, hfp]) c4 ?_)
  simp [-getElem?_pos, -List.getElem?_map, -decide_eq_true_eq, -decide_eq_false_iff_not, frzsL]
  refine .inl (call_pv [] (fs := []) (xs := [FP, .int .i64 kn]) (cs := []) rfl (by simp [frzsL]) c6 ?_)
  simp [-getElem?_pos, -List.getElem?_map, -decide_eq_true_eq, -decide_eq_false_iff_not, frzsL, Cr.pv, crsP, intsP, hl2, hvl, d1, d2]
  refine awp_loopS (fun m τ => ∃ k : Nat, k ≤ r.smp.length ∧ m = r.smp.length - k ∧ τ = ⟨[(18, .pv (intsP (vals8 r ow r.smp.length))), (36, .pv (crsP l)), (42, .pv (.int .i64 k))], []⟩) ⟨r.smp.length, ⟨[(18, .pv (intsP (vals8 r ow r.smp.length))), (36, .pv (crsP l)), (42, .pv (.int .i64 0))], []⟩, Sub.mk (by simp [intsP, crsP]) (by simp), 0, Nat.zero_le _, rfl, rfl⟩ ?_
  rintro J hJ m τ ⟨k, hk, rfl, rfl⟩
  by_cases hlt2 : k < r.smp.length
  · have hwk := wrapK (k := k) (by omega)
    have hround := hJ _ _ ⟨k + 1, hlt2, rfl, rfl⟩
    have hmeas : r.smp.length - (k + 1) < r.smp.length - k := by omega
    obtain ⟨y, hy, hyg⟩ := getC_at (l := l) (j := k) (by omega)
    have hyv := hl3 k hlt2
    rw [hyg, t4, t5] at hyv
    unfold Cr.has at hyv
    have hgy : (l.map Cr.pv)[k]? = some (.agg [.int .i64 y.lo, .int .i64 y.hi]) := by rw [List.getElem?_map, hy]; rfl
    have hgv : ((vals8 r ow r.smp.length).map intP)[k]? = some (.int .i64 (v8M r ow k)) := by unfold vals8; rw [List.getElem?_map, List.getElem?_map, List.getElem?_range hlt2]; rfl
    have d3 : decide (v8M r ow k < y.lo) = false := decide_eq_false (by omega)
    have d4 : decide (y.hi < v8M r ow k) = false := decide_eq_false (by omega)
    clear hJ
    simp [-getElem?_pos, -List.getElem?_map, -decide_eq_true_eq, -decide_eq_false_iff_not, intsP, crsP, hl2, hvl, hlt2, hgy, hgv, d3, d4, hwk]
    exact ⟨_, _, hmeas, Sub.mk (by simp [intsP, crsP]) (by simp), hround⟩
  have he : k = r.smp.length := by omega
  subst he
  clear hJ
  simp [-getElem?_pos, -List.getElem?_map, -decide_eq_true_eq, -decide_eq_false_iff_not, intsP, crsP, hl2, hvl]
  refine call_gives (k := 0) (fs := []) (xs := []) (cs := []) rfl rfl hpr rfl ?_
  simp [-getElem?_pos]
end Go.Proofs.YtaffbiibcfeigaaGreat

/-! The statement TopRead holds: laboratories that measure with instruments that go back to a standard are all right at once, and a machine that reads more is found. No conditions. -/
namespace Go.Proofs.YtaffbiibcfeigaaGreat
open Go.ChangeShapes Go.WideShapes Go.ChangeAt Go.RowKit

set_option maxRecDepth 100000 in
theorem walkTopRead (v0 v1 v2 v3 v4 v5 v6 : Value) (W : World) {H : Type} {enc : TypeId × Value → H} {base : Nat} {sp : Nat → Bool} {hd : Bool} {d0 d1 d2 d3 d4 d5 d6 : DataW H} {p0 p1 p2 p3 p4 p5 p6 : List MemPlace}
    (k0 : Value.okWide Tryz.prog W .any base 25 v0) (h0 : DataW.Trod enc Tryz.prog W 0 sp hd 25 v0 d0 p0)
    (k1 : Value.okWide Tryz.prog W .any base 30 v1) (h1 : DataW.Trod enc Tryz.prog W 0 sp hd 30 v1 d1 p1)
    (k2 : Value.okWide Tryz.prog W .any base 31 v2) (h2 : DataW.Trod enc Tryz.prog W 0 sp hd 31 v2 d2 p2)
    (k3 : Value.okWide Tryz.prog W .any base 31 v3) (h3 : DataW.Trod enc Tryz.prog W 0 sp hd 31 v3 d3 p3)
    (k4 : Value.okWide Tryz.prog W .any base 32 v4) (h4 : DataW.Trod enc Tryz.prog W 0 sp hd 32 v4 d4 p4)
    (k5 : Value.okWide Tryz.prog W .any base 5 v5) (h5 : DataW.Trod enc Tryz.prog W 0 sp hd 5 v5 d5 p5)
    (k6 : Value.okWide Tryz.prog W .any base 33 v6) (h6 : DataW.Trod enc Tryz.prog W 0 sp hd 33 v6 d6 p6) :
    Calls Tryz.prog 3 #[v0, v1, v2, v3, v4, v5, v6] W fun e w' => e = .returned (.bool true) ∧ Keep [] W w' := by
  obtain ⟨n0, h0⟩ := h0
  obtain ⟨s0, w0, r0⟩ := rk_book k0 h0
  obtain ⟨n1, h1⟩ := h1
  obtain ⟨s1, w1, r1⟩ := rk_round k1 h1
  obtain ⟨n2, h2⟩ := h2
  obtain ⟨s2, w2, l2, r2⟩ := rd_u16s k2 h2
  obtain ⟨n3, h3⟩ := h3
  obtain ⟨s3, w3, l3, r3⟩ := rd_u16s k3 h3
  obtain ⟨s4, rfl, rfl, rfl, w4⟩ := open_int Tryz.underlying32 k4 h4
  obtain ⟨s5, rfl, rfl, rfl, w5⟩ := open_int Tryz.underlying5 k5 h5
  obtain ⟨s6, rfl, rfl, rfl, w6⟩ := open_int Tryz.underlying33 k6 h6
  refine calls_bool (xs := [s0.pv, s1.pv, .lst false 1 (s2.map (PV.int .u16)), .lst false 1 (s3.map (PV.int .u16)), .int .u16 s4, .int .u8 s5, .int .i16 s6]) (b := true) ((topRead_law s0 s1 s2 s3 s4 s5 s6 w2 w3 (ku16 w4) (ku8 w5) (ki16 w6)).mono (fun _ _ h => h.1)) rfl (fun j v x e1 e2 => ?_)
  match j with
  | 0 => simp at e1 e2; subst e1 e2; exact r0
  | 1 => simp at e1 e2; subst e1 e2; exact r1
  | 2 => simp at e1 e2; subst e1 e2; exact r2
  | 3 => simp at e1 e2; subst e1 e2; exact r3
  | 4 => simp at e1 e2; subst e1 e2; exact .int .u16 s4
  | 5 => simp at e1 e2; subst e1 e2; exact .int .u8 s5
  | 6 => simp at e1 e2; subst e1 e2; exact .int .i16 s6
  | j + 7 => simp at e1
set_option maxRecDepth 100000 in
theorem liftedTopRead (os : Os) (started : os.Started) (H : Type) (enc : TypeId × Value → H) :
    ReturnsInHanded {} Tryz.checked os 3 .any (Rows.topReadSpec.pre6 enc Tryz.prog Tryz.f3 Rows.topReadRow.domain false) (Rows.topReadSpec.post enc Tryz.prog Tryz.f3 false true false false) := by
  refine returnsInHanded_of_change (C := Tryz.checked) own started (by kernel_rfl) Tryz.func3
    (ChangeSpec.witness6 (enc := enc) (C := Tryz.checked) false ⟨#[], #[.agg #[.slice none 0 0, .slice none 0 0], .agg #[.slice none 0 0, .slice none 0 0, .int .i64 0, .slice none 0 0], .slice none 0 0, .slice none 0 0, .int .u16 0, .int .u8 0, .int .i16 0], []⟩ 8 (by kernel_rfl) (by kernel_rfl) (by kernel_rfl) (by kernel_rfl)) ?_
  intro W base args ds gs before hval0 hW hcnd _
  have hval : ∀ (j : Nat) t v, Tryz.f3.params[j]? = some t → args[j]? = some v → Value.okWide Tryz.prog W .any base t v := hval0
  have hW' := hW
  obtain ⟨p, q, hA0, hV, rfl, hfz, hnd⟩ := hW
  have hA : DataW.TrodAll enc Tryz.prog W 0 (fun _ => true) true Tryz.f3.params.toList args.toList ds p := hA0
  rw [Tryz.params3] at hA hval
  obtain ⟨v0, vs0, d0, ds0, p0, q0, hargs, rfl, rfl, h0, r0⟩ := trodAll_cons hA
  obtain ⟨v1, vs1, d1, ds1, p1, q1, rfl, rfl, rfl, h1, r1⟩ := trodAll_cons r0
  obtain ⟨v2, vs2, d2, ds2, p2, q2, rfl, rfl, rfl, h2, r2⟩ := trodAll_cons r1
  obtain ⟨v3, vs3, d3, ds3, p3, q3, rfl, rfl, rfl, h3, r3⟩ := trodAll_cons r2
  obtain ⟨v4, vs4, d4, ds4, p4, q4, rfl, rfl, rfl, h4, r4⟩ := trodAll_cons r3
  obtain ⟨v5, vs5, d5, ds5, p5, q5, rfl, rfl, rfl, h5, r5⟩ := trodAll_cons r4
  obtain ⟨v6, vs6, d6, ds6, p6, q6, rfl, rfl, rfl, h6, r6⟩ := trodAll_cons r5
  obtain ⟨rfl, rfl, rfl⟩ := trodAll_nil r6
  have hargs' : args = #[v0, v1, v2, v3, v4, v5, v6] := by
    apply Array.ext'
    exact hargs
  subst hargs'
  have k0 := hval 0 _ v0 rfl rfl
  have k1 := hval 1 _ v1 rfl rfl
  have k2 := hval 2 _ v2 rfl rfl
  have k3 := hval 3 _ v3 rfl rfl
  have k4 := hval 4 _ v4 rfl rfl
  have k5 := hval 5 _ v5 rfl rfl
  have k6 := hval 6 _ v6 rfl rfl
  obtain ⟨rfl, rfl⟩ := trodVars_none hV
  refine (walkTopRead v0 v1 v2 v3 v4 v5 v6 W k0 h0 k1 h1 k2 h2 k3 h3 k4 h4 k5 h5 k6 h6).mono fun e W' ⟨he, hk⟩ => ?_
  subst he
  exact ⟨_, rfl, post_law (tb := 4) laidP rowedP fullP (by decide +kernel) rfl rfl rfl Tryz.underlying4 hW' hk⟩
theorem overTopRead : Rows.topReadRow.holds Tryz.pinned (OpenSpec.ofChange Rows.topReadSpec) :=
  OpenClaim.holds_of_wide 3 Tryz.f3 rfl rfl rfl rfl rfl rfl rfl ⟨rfl, rfl, rfl, rfl, rfl⟩ rfl rfl rfl rfl rfl (by kernel_rfl) Tryz.func3 (by kernel_rfl)
    (of_decide_eq_true (by kernel_rfl)) (by unfold Func.isWrapper; first | (rw [if_pos (by decide +kernel)]; kernel_rfl) | (rw [if_neg (by decide +kernel)]; exact ⟨rfl, rfl⟩))
    (fun os started H enc _ => liftedTopRead os started H enc)
theorem provedTopRead : Rows.TopReadSaid := overTopRead
end Go.Proofs.YtaffbiibcfeigaaGreat
