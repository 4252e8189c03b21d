/- Top, layers 2 and 6: proved, blocks. (Several texts in one.) -/
import Derived.Test.YtaffbiibcfeigaaGreatTpA
import Derived.Test.YtaffbiibcfeigaaGreatTpB
import Derived.Test.YtaffbiibcfeigaaGreatBaseD
import Derived.Test.YtaffbiibcfeigaaGreatChF
import Derived.Test.YtaffbiibcfeigaaGreatChI
import Derived.Test.YtaffbiibcfeigaaGreatChH
set_option linter.unusedVariables false
set_option linter.unusedSimpArgs false
/-! Top, layers 2 and 6: proved, blocks. -/
namespace Go.Proofs.YtaffbiibcfeigaaGreat
open Go.RowKit
set_option maxRecDepth 10000
set_option linter.unusedSimpArgs false
attribute [local irreducible] Bk.held Bk.nums Bk.heldU Bk.span Bk.contra trueM wordM
attribute [local simp] AS.exp expG Box.ren AV.map AV.mapL outsOk noRet Site.isRet Box.allS AV.allS AV.allSL retB dropL AS.adds renL outG outOk lentBx inG fnOf lookA List.findIdx?_cons
attribute [local simp] Box.purge Site.isLoc
attribute [local simp] retFz frzL AS.frz AV.frz AV.frzL Box.frz AS.tidy AS.frzC
def oneB : Bk := ⟨[⟨0, true, ⟨5, 6⟩⟩], []⟩
def oneP : PV := .agg [.lst false 4 [.agg [.int .i64 0, .bool true, .int .i64 5, .int .i64 6]], .emp (some true)]
theorem one_span : Gives Tryz.prog 14 [oneP, .int .i64 0, .int .i64 9] (.tup [.agg [.int .i64 5, .int .i64 6], .int .i64 0]) := by
  have h := Span_c oneB (by decide) (by decide) 0 9
  rw [show oneB.spanM 0 9 = (⟨5, 6⟩, 0) by decide +kernel] at h
  refine CallsA.weakArgs (xs := [oneP, .int .i64 0, .int .i64 9]) (ys := [oneB.pv, .int .i64 0, .int .i64 9]) h rfl ?_
  intro j x y m v e1 e2 hr
  match j with
  | 0 =>
    cases e1; cases e2
    refine agg_wk (cs := [.lst false 4 [.agg [.int .i64 0, .bool true, .int .i64 5, .int .i64 6]], .emp (some true)]) (cs' := [itsP oneB.items, ctsP oneB.certs]) rfl ?_ hr
    intro j c c' d k1 k2 hd
    match j with
    | 0 => cases k1; cases k2; exact hd
    | 1 => cases k1; cases k2; exact emp_lst hd
    | j + 2 => simp at k1
  | 1 => cases e1; cases e2; exact hr
  | 2 => cases e1; cases e2; exact hr
  | j + 3 => simp at e1
theorem proved_c : Gives Tryz.prog 22 [] (.bool true) := by
  have a1 := one_span
  have a2 := hBias_c [⟨5, 6, 8⟩] (by decide) (by decide) (fun x hx => by cases List.mem_singleton.1 hx; unfold Bl.bd; simp) (by decide)
  rw [show biasM [⟨5, 6, 8⟩] = ⟨2, 3⟩ by decide] at a2
  refine calls_of_awpS mixed L22_ok (Nat.le_of_ble_eq_true rfl) ?_
  simp [-getElem?_pos, L22]
  refine .inl (call_pv [.loc 8 0] (fs := []) (xs := [oneP, .int .i64 0, .int .i64 9]) (cs := []) rfl ?_ a1 ?_)
  · simp [frzsL, oneP]
  simp [-getElem?_pos, frzsL]
  refine .inl (call_pv [.loc 18 0, .loc 16 0] (fs := []) (xs := [hbP [⟨5, 6, 8⟩], .int .i64 0]) (cs := []) rfl ?_ a2 ?_)
  · simp [frzsL, hbP, hmP, Bl.pv]
  simp [-getElem?_pos, frzsL, Cr.pv, Box.live, AV.live]
/-- The blocks of the first items. -/
def blK (x : Bk) (ws : List Int) (d by_ : Int) (k : Nat) (L : List PV) : AS := ⟨[(1, .pv (.int .i64 d)), (2, .pv (.int .i64 by_)), (3, .pv (wsP ws)), (4, .ptr (.loc 4 0) 0), (10, .vec (.loc 68 0) 3 0 L.length), (11, .pv (.int .i64 k))],
  [(.loc 68 0, .arr 183 3 L), (.loc 4 0, .cells [.pv (itsP x.items), .pv (ctsP x.certs)])]⟩
def blJ (x : Bk) (ws : List Int) (d by_ : Int) (k : Nat) (L : List PV) (z : Bl) : AS := ⟨(14, .ptr (.loc 14 0) 0) :: (49, .pv (.agg [.int .i64 z.lo, .int .i64 z.hi, .int .i64 z.rd])) :: (blK x ws d by_ k L).tm, (.loc 14 0, .cells [.pv (.int .i64 0), .pv (.int .i64 0), .pv (.int .i64 0)]) :: (blK x ws d by_ k L).bx⟩
set_option maxHeartbeats 16000000 in
theorem blocks_c (x : Bk) (hx : x.ok) (ws : List Int) (hw : ∀ y ∈ ws, 0 ≤ y ∧ y < 65536) (d by_ : Int) (hd : 0 ≤ d ∧ d ≤ 1000) (hby : -128 ≤ by_ ∧ by_ ≤ 127)
    (hs : ∀ i : Int, 0 ≤ i → i < x.items.length → (x.spanM i d).2 = 10 ∨ (x.spanM i d).2 = 0) :
    CallsA Tryz.prog 24 ([x.pv, .int .i64 d, .int .i64 by_, wsP ws].map .pv) [] (fun r B => r = .pv (.tup [.lst false 3 ((blM x ws d by_ x.items.length).map Bl.pv), .bool true]) ∧ B = []) := by
  have hil := hx.i
  have hcl := hx.c
  have hbk := book_c x (by omega) (by omega)
  refine calls_of_awpF [.loc 68 0] mixed L24_ok (Nat.le_of_ble_eq_true rfl) ?_
  generalize hR : (fun (r : AV) (B : List (Site × Box)) => r = .pv (.tup [.lst false 3 ((blM x ws d by_ x.items.length).map Bl.pv), .bool true]) ∧ B = []) = R
  simp [-getElem?_pos, L24, Bk.pv]
  refine awp_loopS (fun m τ => ∃ k : Nat, k ≤ x.items.length ∧ m = x.items.length - k ∧ τ = blK x ws d by_ k ((blM x ws d by_ k).map Bl.pv)) ⟨x.items.length, blK x ws d by_ 0 [], Sub.trans' (Sub.mk (by simp [blK, AS.vecT]) (by simp [blK, AS.vecT])) (vecT 68 183 3 10 rfl (by decide)), 0, by omega, rfl, rfl⟩ ?_
  rintro J hJ m τ ⟨k, hk, rfl, rfl⟩
  by_cases hlt : k < x.items.length
  · have hwk := wrapK (k := k) (by omega)
    have hround := hJ _ _ ⟨k + 1, hlt, rfl, rfl⟩
    have hmeas : x.items.length - (k + 1) < x.items.length - k := by omega
    have hsp := Span_c x (by omega) (by omega) k d
    have htr := true_c x hx ws hw k d (by omega) (by omega) hd
    have hsk := hs k (by omega) (by omega)
    have hbdd := spanM_bdd hx k d
    have htb := true_bd hx hw (i := k) (d := d) (by omega) (by omega) hd.1
    have hlen := blM_len x ws d by_ k
    unfold Cr.bdd at hbdd
    have hn : blM x ws d by_ (k + 1) = blM x ws d by_ k ++ blE (x.spanM k d) (trueM x ws k d) by_ := rfl
    rw [hn, List.map_append] at hround
    clear hJ hn hs
    unfold spanE Cr.pv at hsp
    have hll : ((blM x ws d by_ k).map Bl.pv).length ≤ k := by rw [List.length_map]; exact hlen
    generalize (blM x ws d by_ k).map Bl.pv = L at *
    generalize trueM x ws (k : Int) d = T at *
    unfold blK at hround ⊢
    have hL6 : L.length ≤ 999999 := by omega
    have hLm : L.take L.length = L := List.take_of_length_le (Nat.le_refl _)
    simp [-getElem?_pos, itsP, ctsP, hlt]
    refine .inl (call_pv [] (fs := []) (xs := [x.pv]) (cs := []) rfl (by simp [frzsL, Bk.pv, itsP, ctsP]) hbk ?_)
    simp [-getElem?_pos, frzsL]
    refine .inl (call_pv [] (fs := []) (xs := [x.pv, .int .i64 k, .int .i64 d]) (cs := []) rfl rfl hsp ?_)
    simp [-getElem?_pos, frzsL]
    rcases hsk with h10 | h0
    · rw [h10]
      unfold blE at hround
      rw [if_pos h10] at hround
      simp only [List.map_nil, List.append_nil] at hround
      simp [-getElem?_pos, hwk]
      exact ⟨_, _, hmeas, Sub.mk (by simp) (by simp [itsP, ctsP]), hround⟩
    · rw [h0]
      have hE : blE (x.spanM k d) T by_ = if (blX (x.spanM k d).1 T by_).okB = true then [blX (x.spanM k d).1 T by_] else [] := by
        unfold blE
        rw [if_neg (by omega)]
      rw [hE] at hround
      clear hE
      have w1 : IntKind.i64.wrap ((x.spanM k d).1.lo + 50000) = (x.spanM k d).1.lo + 50000 := wrap64 (by omega)
      have w2 : IntKind.i64.wrap ((x.spanM k d).1.hi + 50000) = (x.spanM k d).1.hi + 50000 := wrap64 (by omega)
      have w3 : IntKind.i64.wrap (T + by_) = T + by_ := wrap64 (by omega)
      have w4 : IntKind.i64.wrap (T + by_ + 50000) = T + by_ + 50000 := wrap64 (by omega)
      have hzl : (blX (x.spanM k d).1 T by_).lo = (x.spanM k d).1.lo + 50000 := rfl
      have hzh : (blX (x.spanM k d).1 T by_).hi = (x.spanM k d).1.hi + 50000 := rfl
      have hzr : (blX (x.spanM k d).1 T by_).rd = T + by_ + 50000 := rfl
      generalize blX (x.spanM k d).1 T by_ = z at *
      simp [-getElem?_pos, w1, w2]
      refine ltS_seq (blJ x ws d by_ k L z) ?_ ?_
      · simp [-getElem?_pos, ltS_alt, ltS_no]
        repeat' (with_reducible refine And.intro ?_ ?_)
        all_goals
          refine call_give (k := 0) (fs := []) (xs := [x.pv, .int .i64 k, .int .i64 d, wsP ws]) (cs := []) rfl (by simp [snapW, AV.snap, AV.snap0, Bk.pv, itsP, ctsP]) htr rfl ?_
          simp [-getElem?_pos, ltS_alt, ltS_no, w3, w4]
          refine Sub.mk ?_ ?_
          · simp [blJ, blK, hzl, hzh, hzr]
          · simp [blJ, blK, itsP, ctsP]
      have hin := hin_c z.rd 0 100000
      have hok : z.okB = (decide (0 ≤ z.lo) && decide (z.hi ≤ 100000) && inB z.rd 0 100000) := by unfold Bl.okB inB; rw [Bool.and_assoc]
      rw [hok] at hround
      clear hok hzl hzh hzr
      cases e1 : decide (0 ≤ z.lo)
      · rw [e1] at hround
        simp only [Bool.false_and, Bool.false_eq_true, if_false, List.map_nil, List.append_nil] at hround
        simp [-getElem?_pos, ltS_alt, ltS_no, blJ, blK, itsP, ctsP, -decide_eq_true_eq, -decide_eq_false_iff_not, e1, hwk]
        exact ⟨_, _, hmeas, Sub.mk (by simp) (by simp [itsP, ctsP]), hround⟩
      cases e2 : decide (z.hi ≤ 100000)
      · rw [e1, e2] at hround
        simp only [Bool.true_and, Bool.false_and, Bool.false_eq_true, if_false, List.map_nil, List.append_nil] at hround
        simp [-getElem?_pos, ltS_alt, ltS_no, blJ, blK, itsP, ctsP, -decide_eq_true_eq, -decide_eq_false_iff_not, e1, e2, hwk]
        exact ⟨_, _, hmeas, Sub.mk (by simp) (by simp [itsP, ctsP]), hround⟩
      rw [e1, e2] at hround
      simp [-getElem?_pos, ltS_alt, ltS_no, blJ, blK, itsP, ctsP, -decide_eq_true_eq, -decide_eq_false_iff_not, e1, e2]
      refine call_gives (k := 0) rfl rfl hin rfl ?_
      cases e3 : inB z.rd 0 100000
      · rw [e3] at hround
        simp only [Bool.true_and, Bool.false_eq_true, if_false, List.map_nil, List.append_nil] at hround
        simp [-getElem?_pos, -decide_eq_true_eq, -decide_eq_false_iff_not, hwk]
        exact ⟨_, _, hmeas, Sub.mk (by simp) (by simp [itsP, ctsP]), hround⟩
      rw [e3] at hround
      simp only [Bool.true_and, if_true, List.map_cons, List.map_nil, List.length_append, List.length_cons, List.length_nil] at hround
      simp [-getElem?_pos, -decide_eq_true_eq, -decide_eq_false_iff_not, nble, nblt, hL6, hwk]
      exact ⟨_, _, hmeas, Sub.mk (by simp) (by simp [itsP, ctsP, Bl.pv]), hround⟩
  have he : k = x.items.length := by omega
  subst he
  clear hJ
  have hLm : ((blM x ws d by_ x.items.length).map Bl.pv).take ((blM x ws d by_ x.items.length).map Bl.pv).length = (blM x ws d by_ x.items.length).map Bl.pv := List.take_of_length_le (Nat.le_refl _)
  generalize (blM x ws d by_ x.items.length).map Bl.pv = L at *
  simp [-getElem?_pos, -List.getElem?_map, blK, itsP, ctsP, hLm]
  rw [← hR]
  exact ⟨rfl, rfl⟩
end Go.Proofs.YtaffbiibcfeigaaGreat
