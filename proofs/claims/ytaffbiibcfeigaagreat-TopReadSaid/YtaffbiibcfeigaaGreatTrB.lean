/- Contracts of layer 8 (round): what ranges have in common; the readings of a sample, one after the other. (Several texts in one.) -/
import Derived.Test.YtaffbiibcfeigaaGreatTrA
import Derived.Test.YtaffbiibcfeigaaGreatChC
import Derived.Test.YtaffbiibcfeigaaGreatChD
import Derived.Test.YtaffbiibcfeigaaGreatBaseD
set_option linter.unusedVariables false
set_option linter.unusedSimpArgs false
/-! Contracts of layer 8 (round): what ranges have in common; the readings of a sample, one after the other. -/
namespace Go.Proofs.YtaffbiibcfeigaaGreat
open Go.RowKit
set_option maxRecDepth 10000
set_option linter.unusedSimpArgs false
section
attribute [local simp] Box.purge Site.isLoc
theorem wcut_c (r o : Cr) : Gives Tryz.prog 96 [r.pv, o.pv] (r.cut o).pv := by
  have l1 := wlow_c r
  have l2 := wlow_c o
  have g1 := whigh_c r
  have g2 := whigh_c o
  have a1 := wmost_c r.lo o.lo
  have a2 := wleast_c r.hi o.hi
  refine calls_of_awpS mixed L96_ok (Nat.le_of_ble_eq_true rfl) ?_
  simp [-getElem?_pos, L96, Cr.pv]
  refine call_give (k := 0) (fs := []) (xs := [r.pv]) (cs := []) rfl rfl l1 rfl ?_
  simp [-getElem?_pos]
  refine call_give (k := 0) (fs := []) (xs := [o.pv]) (cs := []) rfl rfl l2 rfl ?_
  simp [-getElem?_pos]
  refine call_give (k := 1) (fs := []) (xs := [.lst false 1 [.int .i64 r.lo, .int .i64 o.lo]]) (cs := []) rfl rfl a1 rfl ?_
  simp [-getElem?_pos]
  refine call_give (k := 0) (fs := []) (xs := [r.pv]) (cs := []) rfl rfl g1 rfl ?_
  simp [-getElem?_pos]
  refine call_gives (k := 0) (fs := []) (xs := [o.pv]) (cs := []) rfl rfl g2 rfl ?_
  simp [-getElem?_pos]
  refine call_gives (k := 1) (fs := []) (xs := [.lst false 1 [.int .i64 r.hi, .int .i64 o.hi]]) (cs := []) rfl rfl a2 rfl ?_
  simp [-getElem?_pos, Cr.cut]
end
/-- A round that is judged, among boxes. -/
def jgC (r : Rn) (m : Site) : List AV := [.pv (lotsP r.lots), .pv (intsP r.smp), .pv (.int .i64 r.spr), .pv (labsP r.labs), .mp m]
structure JAt (r : Rn) (kn : List (PV × PV)) (X : List Box) (jw jm : Nat) : Prop where
  w : X[jw]? = some (.cells (jgC r (.par jm)))
  m : X[jm]? = some (.map kn)
def jgB (r : Rn) (kn : List (PV × PV)) : List Box := [.cells (jgC r (.par 1)), .map kn]
def offV (off : Nat → Bool) : List PV := (List.range 6).map fun k => .bool (off k)
def rdF (s : Site) (i : Int) (off : Nat → Bool) (lab by_ : Int) : AV := .fn 148 [] [.ptr s 0, .pv (.ref [.int .i64 i]), .pv (.ref (offV off)), .pv (.ref [.int .i64 lab, .int .i64 by_])]
section
attribute [local simp] AS.exp expG Box.ren AV.map AV.mapL noRet Site.isRet Box.allS AV.allS AV.allSL
attribute [local simp] Box.purge Site.isLoc
attribute [local simp] retFz frzL AS.frz AV.frz AV.frzL Box.frz AS.tidy AS.frzC
theorem readings_c (r : Rn) (kn : List (PV × PV)) (i : Int) (off : Nat → Bool) (lab by_ : Int) : CallsA Tryz.prog 95 [.ptr (.par 0) 0, .pv (.int .i64 i), .pv (.agg (offV off)), .pv (.agg [.int .i64 lab, .int .i64 by_])] (laid 0 (jgB r kn)) (fun q B => q = rdF (.ret 0) i off lab by_ ∧ B = (.ret 0, .cells [.ptr (.par 0) 0]) :: laid 0 (jgB r kn)) := by
  refine calls_of_awpG [.loc 5 0, .loc 6 0, .loc 7 0] [.loc 4 0, .par 0, .par 1] mixed L95_ok (Nat.le_of_ble_eq_true rfl) ?_
  generalize hR : (fun (q : AV) (B : List (Site × Box)) => q = rdF (.ret 0) i off lab by_ ∧ B = (.ret 0, .cells [.ptr (.par 0) 0]) :: laid 0 (jgB r kn)) = R
  simp [-getElem?_pos, L95, laid, jgB, jgC, unpvs, fnA, offV, List.range_succ]
  simp [retB, outsOk, List.findIdx?_cons]
  rw [← hR]
  refine ⟨?_, ?_⟩
  · simp [rdF, offV, List.range_succ]
  · simp [laid, jgB, jgC]
end
attribute [local simp] isLoc_loc isLoc_par isLoc_ret purge_cells purge_map purge_arr purge_loop laid_purgeC
attribute [local simp] AV.map AV.mapL noRet Site.isRet Box.allS AV.allS AV.allSL AS.adds
theorem rdM_all (r : Rn) (off : Nat → Bool) (lab by_ : Int) (i : Nat) (k : Nat) : ∀ m, ∃ l, rdM r off lab by_ i (k + m) = rdM r off lab by_ i k ++ l
  | 0 => ⟨[], by simp⟩
  | m + 1 => by
    obtain ⟨l, hl⟩ := rdM_all r off lab by_ i k m
    refine ⟨l ++ (match r.labs[k + m]? with | none => [] | some x => rdE x (off (k + m)) i (shB lab by_ (k + m))), ?_⟩
    rw [show k + (m + 1) = (k + m) + 1 from rfl]
    conv => lhs; unfold rdM
    rw [hl, List.append_assoc]
    rfl
theorem offV_get {off : Nat → Bool} {k : Nat} (h : k < 6) : (offV off)[k]? = some (.bool (off k)) := by
  unfold offV
  rw [List.getElem?_map, List.getElem?_range h]; rfl
theorem offV_len {off : Nat → Bool} : (offV off).length = 6 := by unfold offV; simp
theorem offV_drop {off : Nat → Bool} {k : Nat} (h : k < 6) : (offV off).drop k = .bool (off k) :: (offV off).drop (k + 1) := by
  obtain ⟨h1, h2⟩ := List.getElem?_eq_some_iff.1 (offV_get (off := off) h)
  rw [List.drop_eq_getElem_cons h1, h2]
structure Rn.bdd (r : Rn) : Prop where
  b6 : r.labs.length ≤ 6
  rd : ∀ x ∈ r.labs, x.rds.length = r.smp.length ∧ 0 ≤ x.tol ∧ x.tol ≤ 100 ∧ ∀ n ∈ x.rds, -1 ≤ n ∧ n ≤ 1000
def itT (r : Rn) (off : Nat → Bool) (lab by_ : Int) (i j0 k : Nat) : List (Nat × AV) := [(0, .yld (.par 0)), (1, .ptr (.par j0) 0), (2, .pv (.ref [.int .i64 i])), (3, .pv (.ref (offV off))), (4, .pv (.ref [.int .i64 lab, .int .i64 by_])), (13, .pv (labsP r.labs)), (14, .pv (.int .i64 r.labs.length)), (15, .pv (.int .i64 k))]
set_option maxHeartbeats 16000000 in
theorem witer_c (C : Cons Tryz.prog) (r : Rn) (hr : r.bdd) (kn : List (PV × PV)) (j0 jw jm : Nat) (hW : ∀ c, C.live c → JAt r kn (C.X c) jw jm) (h0 : ∀ c, C.live c → (C.X c)[j0]? = some (.cells [.ptr (.par jw) 0]))
    (i : Nat) (hi : i < r.smp.length) (off : Nat → Bool) (lab by_ : Int) (hby : -5000 ≤ by_ ∧ by_ ≤ 5000) (c : C.S) (hc : C.live c) (hg : ∀ x ∈ rdM r off lab by_ i r.labs.length, C.good x.pv) :
    CallsA Tryz.prog 148 [.yld (.par 0), .ptr (.par j0) 0, .pv (.ref [.int .i64 i]), .pv (.ref (offV off)), .pv (.ref [.int .i64 lab, .int .i64 by_])] (laid 0 (C.X c)) (fun q B => q = .pv (.tup []) ∧ B = laid 0 (C.X (C.run c ((rdM r off lab by_ i r.labs.length).map Cr.pv)).1)) := by
  have hb6 := hr.b6
  refine calls_of_awpB (parsN C.m) mixed L148_ok (Nat.le_of_ble_eq_true rfl) ?_
  generalize hR : (fun (q : AV) (B : List (Site × Box)) => q = .pv (.tup []) ∧ B = laid 0 (C.X (C.run c ((rdM r off lab by_ i r.labs.length).map Cr.pv)).1)) = R
  have k0 := laid_at (h0 c hc)
  have kw := laid_at (hW c hc).w
  simp [-getElem?_pos, L148, k0, kw, jgC, labsP]
  refine awp_loopS (fun m τ => ∃ (k : Nat) (c' : C.S), k ≤ r.labs.length ∧ m = r.labs.length - k ∧ C.run c ((rdM r off lab by_ i k).map Cr.pv) = (c', true) ∧ C.live c' ∧ τ = ⟨itT r off lab by_ i j0 k, laid 0 (C.X c')⟩)
    ⟨r.labs.length, ⟨itT r off lab by_ i j0 0, laid 0 (C.X c)⟩, Sub.mk (by simp [itT, labsP]) (subB_sees sees_laid0), 0, c, Nat.zero_le _, rfl, by simp [rdM, Cons.run], hc, rfl⟩ ?_
  rintro J hJ m τ ⟨k, c', hk, rfl, hrun, hlive, rfl⟩
  have k0 := laid_at (h0 c' hlive)
  have kw := laid_at (hW c' hlive).w
  unfold jgC at kw
  by_cases hlt : k < r.labs.length
  · obtain ⟨x, hx⟩ : ∃ x, r.labs[k]? = some x := ⟨r.labs[k], List.getElem?_eq_getElem hlt⟩
    obtain ⟨hxl, ht0, ht1, hxn⟩ := hr.rd x (List.mem_of_getElem? hx)
    obtain ⟨n, hn⟩ : ∃ n, x.rds[i]? = some n := ⟨x.rds[i]'(by omega), List.getElem?_eq_getElem (by omega)⟩
    have hnb := hxn n (List.mem_of_getElem? hn)
    have hgx : (r.labs.map Lb.pv)[k]? = some (.agg [.int .i64 x.tol, .lst false 1 (x.rds.map intP)]) := by rw [List.getElem?_map, hx]; rfl
    have hgn : (x.rds.map intP)[i]? = some (.int .i64 n) := by rw [List.getElem?_map, hn]; rfl
    have hil : i < x.rds.length := by omega
    have hgo := offV_get (off := off) (k := k) (by omega)
    have hk6 : Nat.blt k 6 = true := by rw [Nat.blt_eq]; omega
    have hko : Nat.ble k (offV off).length = true := by rw [offV_len]; exact Nat.ble_eq_true_of_le (by omega)
    have hdr := offV_drop (off := off) (k := k) (by omega)
    have hw := wrapK (k := k) (by omega)
    have hmeas : r.labs.length - (k + 1) < r.labs.length - k := by omega
    have hnx : rdM r off lab by_ i (k + 1) = rdM r off lab by_ i k ++ rdE x (off k) i (shB lab by_ k) := by
      conv => lhs; unfold rdM
      rw [hx]
    have hE : rdE x (off k) i (shB lab by_ k) = if off k = true ∨ n = -1 then [] else [⟨n - shB lab by_ k - x.tol, n - shB lab by_ k + x.tol⟩] := by
      unfold rdE
      rw [hn]
    rw [hE] at hnx
    clear hE
    have hskip : (off k = true ∨ n = -1) → J (r.labs.length - (k + 1)) ⟨itT r off lab by_ i j0 (k + 1), laid 0 (C.X c')⟩ := fun h => by
      rw [if_pos h, List.append_nil] at hnx
      exact hJ _ _ ⟨k + 1, c', hlt, rfl, by rw [hnx]; exact hrun, hlive, rfl⟩
    cases e1 : off k
    case true =>
      have hs := hskip (.inl e1)
      rw [e1] at hdr
      simp [-getElem?_pos, -List.getElem?_map, -decide_eq_true_eq, -decide_eq_false_iff_not, itT, labsP, hlt, hgx, hgn, hil, hko, hdr, hk6, k0, kw, hw]
      exact ⟨_, _, hmeas, Sub.mk (by simp [itT, labsP]) (subB_sees (by repeat (first | exact sees_laid0 | exact sees_laid | refine sees_skip rfl ?_))), hs⟩
    rw [e1] at hdr
    cases e2 : decide (n = -1)
    case true =>
      have hs := hskip (.inr (of_decide_eq_true e2))
      simp [-getElem?_pos, -List.getElem?_map, -decide_eq_true_eq, -decide_eq_false_iff_not, itT, labsP, hlt, hgx, hgn, hil, hko, hdr, hk6, k0, kw, hw, e2]
      exact ⟨_, _, hmeas, Sub.mk (by simp [itT, labsP]) (subB_sees (by repeat (first | exact sees_laid0 | exact sees_laid | refine sees_skip rfl ?_))), hs⟩
    have e2' : ¬ n = -1 := of_decide_eq_false e2
    rw [if_neg (by rw [e1]; simp [e2'])] at hnx
    clear hskip
    obtain ⟨l, hfull⟩ := rdM_all r off lab by_ i (k + 1) (r.labs.length - (k + 1))
    rw [show k + 1 + (r.labs.length - (k + 1)) = r.labs.length by omega] at hfull
    have hgood : C.good (Cr.pv ⟨n - shB lab by_ k - x.tol, n - shB lab by_ k + x.tol⟩) := by
      refine hg _ ?_
      rw [hfull, hnx]
      exact List.mem_append_left _ (List.mem_append_right _ (List.mem_singleton_self _))
    cases e4 : decide ((k : Int) = lab)
    · have hsh : shB lab by_ k = 0 := by unfold shB; rw [if_neg (of_decide_eq_false e4)]
      rw [hsh, Int.sub_zero] at hnx hgood
      simp [-getElem?_pos, -List.getElem?_map, -decide_eq_true_eq, -decide_eq_false_iff_not, itT, labsP, hlt, hgx, hgn, hil, hko, hdr, hk6, k0, kw, hw, e2, e4]
      have hwd := wwider_c ⟨n, n⟩ x.tol (wrap64 (by simp only; omega)) (wrap64 (by simp only; omega))
      have hwe : Cr.wider ⟨n, n⟩ x.tol = ⟨n - x.tol, n + x.tol⟩ := by unfold Cr.wider Cr.plus; exact Cr.ext' (by simp only; omega) rfl
      rw [hwe] at hwd
      unfold Cr.pv at hwd
      refine call_gives (k := 0) rfl rfl hwd rfl ?_
      simp [-getElem?_pos, -List.getElem?_map, -decide_eq_true_eq, -decide_eq_false_iff_not]
      refine yield_pars 47 C.m (C.X c') rfl C.m0 (C.len c') (by repeat (first | exact sees_laid0 | exact sees_laid | refine sees_skip rfl ?_)) (C.cl c') rfl (C.yields c' (Cr.pv ⟨n - x.tol, n + x.tol⟩) hlive hgood) ?_
      rintro q B ⟨rfl, rfl⟩
      refine ⟨C.X (C.step c' (Cr.pv ⟨n - x.tol, n + x.tol⟩)).1, rfl, C.len _, C.cl _, rfl, ?_⟩
      have hstep : C.run c ((rdM r off lab by_ i (k + 1)).map Cr.pv) = C.step c' (Cr.pv ⟨n - x.tol, n + x.tol⟩) := by
        rw [hnx, List.map_append, Cons.run_app, hrun]
        exact Cons.run_one c' _
      cases hs : (C.step c' (Cr.pv ⟨n - x.tol, n + x.tol⟩)).2
      · simp [-getElem?_pos, -List.getElem?_map, laid_outC]
        refine retB_pars (L := C.X (C.step c' (Cr.pv ⟨n - x.tol, n + x.tol⟩)).1) rfl rfl (C.len _) (by repeat (first | exact sees_laid0 | exact sees_laid | refine sees_skip rfl ?_)) (C.cl _) ?_
        rw [← hR]
        refine ⟨rfl, ?_⟩
        have hall : C.run c ((rdM r off lab by_ i r.labs.length).map Cr.pv) = C.step c' (Cr.pv ⟨n - x.tol, n + x.tol⟩) := by
          rw [hfull, List.map_append, Cons.run_app, hstep, hs]
        rw [hall]
      · have hround := hJ _ _ ⟨k + 1, (C.step c' (Cr.pv ⟨n - x.tol, n + x.tol⟩)).1, hlt, rfl, by rw [hstep]; exact Prod.ext rfl hs, C.goes _ _ hlive hgood hs, rfl⟩
        simp [-getElem?_pos, -List.getElem?_map, laid_outC, hw]
        exact ⟨_, _, hmeas, Sub.mk (by simp [itT, labsP]) (subB_sees (by repeat (first | exact sees_laid0 | exact sees_laid | refine sees_skip rfl ?_))), hround⟩
    · have hsh : shB lab by_ k = by_ := by unfold shB; rw [if_pos (of_decide_eq_true e4)]
      have w1 : IntKind.i64.wrap (n - by_) = n - by_ := wrap64 (by omega)
      rw [hsh] at hnx hgood
      simp [-getElem?_pos, -List.getElem?_map, -decide_eq_true_eq, -decide_eq_false_iff_not, itT, labsP, hlt, hgx, hgn, hil, hko, hdr, hk6, k0, kw, hw, e2, e4, w1]
      have hwd := wwider_c ⟨(n - by_), (n - by_)⟩ x.tol (wrap64 (by simp only; omega)) (wrap64 (by simp only; omega))
      have hwe : Cr.wider ⟨(n - by_), (n - by_)⟩ x.tol = ⟨(n - by_) - x.tol, (n - by_) + x.tol⟩ := by unfold Cr.wider Cr.plus; exact Cr.ext' (by simp only; omega) rfl
      rw [hwe] at hwd
      unfold Cr.pv at hwd
      refine call_gives (k := 0) rfl rfl hwd rfl ?_
      simp [-getElem?_pos, -List.getElem?_map, -decide_eq_true_eq, -decide_eq_false_iff_not]
      refine yield_pars 47 C.m (C.X c') rfl C.m0 (C.len c') (by repeat (first | exact sees_laid0 | exact sees_laid | refine sees_skip rfl ?_)) (C.cl c') rfl (C.yields c' (Cr.pv ⟨(n - by_) - x.tol, (n - by_) + x.tol⟩) hlive hgood) ?_
      rintro q B ⟨rfl, rfl⟩
      refine ⟨C.X (C.step c' (Cr.pv ⟨(n - by_) - x.tol, (n - by_) + x.tol⟩)).1, rfl, C.len _, C.cl _, rfl, ?_⟩
      have hstep : C.run c ((rdM r off lab by_ i (k + 1)).map Cr.pv) = C.step c' (Cr.pv ⟨(n - by_) - x.tol, (n - by_) + x.tol⟩) := by
        rw [hnx, List.map_append, Cons.run_app, hrun]
        exact Cons.run_one c' _
      cases hs : (C.step c' (Cr.pv ⟨(n - by_) - x.tol, (n - by_) + x.tol⟩)).2
      · simp [-getElem?_pos, -List.getElem?_map, laid_outC]
        refine retB_pars (L := C.X (C.step c' (Cr.pv ⟨(n - by_) - x.tol, (n - by_) + x.tol⟩)).1) rfl rfl (C.len _) (by repeat (first | exact sees_laid0 | exact sees_laid | refine sees_skip rfl ?_)) (C.cl _) ?_
        rw [← hR]
        refine ⟨rfl, ?_⟩
        have hall : C.run c ((rdM r off lab by_ i r.labs.length).map Cr.pv) = C.step c' (Cr.pv ⟨(n - by_) - x.tol, (n - by_) + x.tol⟩) := by
          rw [hfull, List.map_append, Cons.run_app, hstep, hs]
        rw [hall]
      · have hround := hJ _ _ ⟨k + 1, (C.step c' (Cr.pv ⟨(n - by_) - x.tol, (n - by_) + x.tol⟩)).1, hlt, rfl, by rw [hstep]; exact Prod.ext rfl hs, C.goes _ _ hlive hgood hs, rfl⟩
        simp [-getElem?_pos, -List.getElem?_map, laid_outC, hw]
        exact ⟨_, _, hmeas, Sub.mk (by simp [itT, labsP]) (subB_sees (by repeat (first | exact sees_laid0 | exact sees_laid | refine sees_skip rfl ?_))), hround⟩
  · have he : k = r.labs.length := by omega
    subst he
    simp [-getElem?_pos, -List.getElem?_map, itT, labsP]
    refine retB_pars (L := C.X c') rfl rfl (C.len _) sees_laid0 (C.cl _) ?_
    rw [← hR]
    exact ⟨rfl, by rw [hrun]⟩
end Go.Proofs.YtaffbiibcfeigaaGreat
/-! Contracts of layer 8 (round): spans. -/
namespace Go.Proofs.YtaffbiibcfeigaaGreat
open Go.RowKit
set_option maxRecDepth 10000
set_option linter.unusedSimpArgs false
attribute [local simp] AS.exp expG Box.ren AV.map AV.mapL outsOk noRet Site.isRet Box.allS AV.allS AV.allSL retB dropL AS.adds renL outG outOk lentBx inG fnOf lookA List.findIdx?_cons
attribute [local simp] Box.purge Site.isLoc
theorem cok57 : COk Tryz.prog (tyOf tys) L57.code := litF_ok L57_ok L57_tab
noncomputable def wspX (r : Rn) (kn : List (PV × PV)) (c : Cr) : List Box := [.loop (rcode Tryz.prog 57 0) [42] 109 [(12, .ptr (.par 1) 0)] none, .cells [.pv (.int .i64 c.lo), .pv (.int .i64 c.hi)], .cells [.ptr (.par 3) 0], .cells (jgC r (.par 4)), .map kn]
def crOf : PV → Cr
  | .agg [.int _ a, .int _ b] => ⟨a, b⟩
  | _ => ⟨0, 0⟩
noncomputable def wspC (r : Rn) (kn : List (PV × PV)) : Cons Tryz.prog where
  m := 5
  S := Cr
  X := wspX r kn
  step c x := (c.cut (crOf x), true)
  good x := ∃ y : Cr, x = y.pv
  live _ := True
  m0 := by omega
  len _ := rfl
  cl c := by
    intro bx hb
    simp only [wspX, List.mem_cons, List.not_mem_nil, or_false] at hb
    rcases hb with rfl | rfl | rfl | rfl | rfl
    all_goals first | rfl | simp [jgC, Site.lt]
  goes _ _ _ _ _ := trivial
  yields c x hc hx := by
    obtain ⟨y, rfl⟩ := hx
    have hcok : COk Tryz.prog (tyOf tys) (.rng 109 (.t 41) (rcode Tryz.prog 57 0) Y57_0a Y57_0b [42]) := cok57.2.2.2.1.2.2.2.1.2.2.1.2
    have hct := wcut_c c y
    refine yields_of_awpS mixed hcok.1 hcok.2.1 rfl rfl (by simp) rfl ?_
    simp [-getElem?_pos, Y57_0a, Y57_0b, wspX, laid, putL, Cr.pv, jgC]
    refine call_gives (k := 0) (fs := []) (xs := [c.pv, y.pv]) (cs := []) rfl rfl hct rfl ?_
    simp [-getElem?_pos, Cr.pv, crOf]
    exact ⟨[], [.par 1, .par 2, .par 3, .par 4], rfl, rfl, by simp [frzL], rfl, by simp [frzL]⟩
theorem wspC_run {r : Rn} {kn : List (PV × PV)} : ∀ (l : List Cr) (c : Cr), (wspC r kn).run c (l.map Cr.pv) = (l.foldl Cr.cut c, true)
  | [], c => rfl
  | x :: l, c => by
    show (wspC r kn).run (c.cut x) (l.map Cr.pv) = _
    rw [wspC_run l]
    rfl
theorem wclone_c (l : List Cr) (h0 : l ≠ []) (hl : l.length ≤ 1000000) : CallsA Tryz.prog 94 [.pv (lotsP l)] [] (fun r B => r = .vec (.ret 0) 2 0 l.length ∧ B = [(.ret 0, .arr 66 2 (l.map Cr.pv))]) := by
  refine calls_of_awpB [.loc 7 0] mixed L94_ok (Nat.le_of_ble_eq_true rfl) ?_
  cases l with
  | nil => exact absurd rfl h0
  | cons a l =>
    have h1 : l.length + 1 ≤ 1000000 := by simpa using hl
    have hm : (l.map Cr.pv).take l.length = l.map Cr.pv := List.take_of_length_le (by simp)
    simp [-getElem?_pos, L94, lotsP, nilOf, nble, h1, hm]
end Go.Proofs.YtaffbiibcfeigaaGreat
/-! Contracts of layer 8 (round): spans, the walk. -/
namespace Go.Proofs.YtaffbiibcfeigaaGreat
open Go.RowKit
set_option maxRecDepth 10000
set_option linter.unusedSimpArgs false
theorem offV_six {off : Nat → Bool} : offV off = [.bool (off 0), .bool (off 1), .bool (off 2), .bool (off 3), .bool (off 4), .bool (off 5)] := rfl
def crsP (l : List Cr) : PV := .lst false 2 (l.map Cr.pv)
/-- What spans returns. -/
def spnP (r : Rn) (off : Nat → Bool) (lab by_ : Int) : PV := match spaM r off lab by_ r.smp.length with
  | none => .tup [.emp (some true), .bool false]
  | some (out, ls) => .tup [crsP (finM r ls out r.smp.length), .bool (ls.all fun x => decide (x.lo ≤ x.hi))]
structure Rn.fine (r : Rn) : Prop where
  b : r.bdd
  l0 : r.lots ≠ []
  l4 : r.lots.length ≤ 4
  s8 : r.smp.length ≤ 8
  l : ∀ c ∈ r.lots, c.bdd 1073750000
  s : ∀ n ∈ r.smp, 0 ≤ n ∧ n < r.lots.length
  p : 0 ≤ r.spr ∧ r.spr ≤ 100
theorem cut_bddB {a b : Cr} {B : Int} (h1 : a.bdd B) (h2 : b.bdd B) : (a.cut b).bdd B := by
  unfold Cr.bdd Cr.cut at *
  simp only
  omega
theorem rd_bdd {r : Rn} (h : r.bdd) {off : Nat → Bool} {lab by_ : Int} (hby : -5000 ≤ by_ ∧ by_ ≤ 5000) {i n : Nat} {y : Cr} (hy : y ∈ rdM r off lab by_ i n) : y.bdd 1073741824 := by
  obtain ⟨k, x, _, hx, hy⟩ := rdM_mem hy
  obtain ⟨_, t0, t1, t2⟩ := h.rd x (List.mem_of_getElem? hx)
  unfold rdE at hy
  split at hy
  · cases hy
  · rename_i n hn
    split at hy
    · cases hy
    · cases List.mem_singleton.1 hy
      have := t2 n (List.mem_of_getElem? hn)
      have hs : -5000 ≤ shB lab by_ k ∧ shB lab by_ k ≤ 5000 := by unfold shB; split <;> omega
      unfold Cr.bdd
      simp only
      omega
theorem smC_bdd {r : Rn} (h : r.bdd) {off : Nat → Bool} {lab by_ : Int} (hby : -5000 ≤ by_ ∧ by_ ≤ 5000) {i : Nat} : (smC r off lab by_ i).bdd 1073741824 := by
  unfold smC cutM
  have : ∀ (l : List Cr) (o : Cr), o.bdd 1073741824 → (∀ x ∈ l, x.bdd 1073741824) → (l.foldl Cr.cut o).bdd 1073741824 := fun l => by
    induction l with
    | nil => exact fun o h _ => h
    | cons a l ih => exact fun o h1 h2 => ih _ (cut_bddB h1 (h2 a List.mem_cons_self)) fun x hx => h2 x (List.mem_cons_of_mem _ hx)
  exact this _ _ (by unfold Cr.bdd; simp) fun x hx => rd_bdd h hby hx
theorem spaM_none {r : Rn} {off : Nat → Bool} {lab by_ : Int} {k : Nat} (h : spaM r off lab by_ k = none) : ∀ m, spaM r off lab by_ (k + m) = none
  | 0 => h
  | m + 1 => by
    rw [show k + (m + 1) = (k + m) + 1 from rfl]
    conv => lhs; unfold spaM
    rw [spaM_none h m]
theorem finM_zero {r : Rn} {ls out : List Cr} : finM r ls out 0 = out := by unfold finM; simp
theorem finM_len {r : Rn} {ls out : List Cr} {k : Nat} (h : k ≤ out.length) : (finM r ls out k).length = out.length := by
  unfold finM
  rw [List.length_append, List.length_map, List.length_range, List.length_drop]
  omega
theorem finM_get {r : Rn} {ls out : List Cr} {k : Nat} (h : k < out.length) : (finM r ls out k)[k]? = out[k]? := by
  unfold finM
  rw [List.getElem?_append_right (by simp), List.getElem?_drop]
  simp
theorem finM_next {r : Rn} {ls out : List Cr} {k : Nat} (h : k < out.length) (_ : k < out.length) : finM r ls out (k + 1) = (finM r ls out k).set k ((getC out k).cut ((getC ls (lotI r k)).wider r.spr)) := by
  unfold finM
  rw [List.range_succ, List.map_append, List.append_assoc]
  rw [List.set_append_right _ _ (by simp)]
  simp only [List.length_map, List.length_range, Nat.sub_self, List.map_cons, List.map_nil, List.singleton_append]
  rw [List.drop_eq_getElem_cons h, List.set_cons_zero]
theorem getC_at {l : List Cr} {j : Nat} (h : j < l.length) : ∃ y, l[j]? = some y ∧ getC l j = y := ⟨l[j], List.getElem?_eq_getElem h, by unfold getC; rw [List.getElem?_eq_getElem h]; rfl⟩
attribute [local simp] AS.exp expG Box.ren AV.map AV.mapL outsOk noRet Site.isRet Box.allS AV.allS AV.allSL retB dropL AS.adds renL outG outOk lentBx inG fnOf lookA List.findIdx?_cons
attribute [local simp] Box.purge Site.isLoc
def wsB (r : Rn) (kn : List (PV × PV)) (off : Nat → Bool) (lab by_ : Int) (ls out : List Cr) : List (Site × Box) := [(.loc 51 0, .arr 66 2 (out.map Cr.pv)), (.loc 24 0, .arr 66 2 (ls.map Cr.pv)), (.loc 4 0, .cells [.pv (.bool (off 0)), .pv (.bool (off 1)), .pv (.bool (off 2)), .pv (.bool (off 3)), .pv (.bool (off 4)), .pv (.bool (off 5))]), (.loc 5 0, .cells [.pv (.int .i64 lab), .pv (.int .i64 by_)]), (.par 0, .cells (jgC r (.par 1))), (.par 1, .map kn)]
def wsK (r : Rn) (kn : List (PV × PV)) (off : Nat → Bool) (lab by_ : Int) (ls out : List Cr) (k : Nat) : AS := ⟨[(0, .ptr (.par 0) 0), (4, .ptr (.loc 4 0) 0), (5, .ptr (.loc 5 0) 0), (8, .vec (.loc 24 0) 2 0 r.lots.length), (9, .vec (.loc 51 0) 2 0 k), (29, .pv (intsP r.smp)), (30, .pv (.int .i64 r.smp.length)), (31, .pv (.int .i64 k))], wsB r kn off lab by_ ls out⟩
def wsE (r : Rn) (kn : List (PV × PV)) (off : Nat → Bool) (lab by_ : Int) (ls out : List Cr) (k : Nat) : AS := ⟨[(0, .ptr (.par 0) 0), (8, .vec (.loc 24 0) 2 0 r.lots.length), (9, .vec (.loc 51 0) 2 0 r.smp.length), (14, .pv (.bool true)), (68, .vec (.loc 24 0) 2 0 r.lots.length), (69, .pv (.int .i64 r.lots.length)), (70, .pv (.int .i64 k))], wsB r kn off lab by_ ls out⟩
def wsF (r : Rn) (kn : List (PV × PV)) (off : Nat → Bool) (lab by_ : Int) (ls out : List Cr) (can : Bool) (k : Nat) : AS := ⟨[(0, .ptr (.par 0) 0), (8, .vec (.loc 24 0) 2 0 r.lots.length), (9, .vec (.loc 51 0) 2 0 r.smp.length), (14, .pv (.bool can)), (81, .pv (intsP r.smp)), (82, .pv (.int .i64 r.smp.length)), (83, .pv (.int .i64 k))], wsB r kn off lab by_ ls out⟩
set_option maxHeartbeats 32000000 in
theorem wspans_c (r : Rn) (h : r.fine) (kn : List (PV × PV)) (off : Nat → Bool) (lab by_ : Int) (hby : -5000 ≤ by_ ∧ by_ ≤ 5000) : CallsA Tryz.prog 57 [.ptr (.par 0) 0, .pv (.agg (offV off)), .pv (.agg [.int .i64 lab, .int .i64 by_])] (laid 0 (jgB r kn)) (fun q B => q = .pv (spnP r off lab by_) ∧ B = laid 0 (jgB r kn)) := by
  have h4 := h.l4
  have h8 := h.s8
  have hp := h.p
  have hcl := wclone_c r.lots h.l0 (by omega)
  have hsm : ∀ k, k < r.smp.length → ∃ j : Nat, r.smp[k]? = some (j : Int) ∧ j < r.lots.length ∧ (r.smp.map intP)[k]? = some (.int .i64 j) ∧ lotI r k = j := fun k hk => by
    have e := List.getElem?_eq_getElem hk
    have hb := h.s _ (List.getElem_mem hk)
    refine ⟨(r.smp[k]).toNat, ?_, by omega, ?_, ?_⟩
    · rw [e]; congr 1; omega
    · rw [List.getElem?_map, e]
      show some (PV.int .i64 r.smp[k]) = _
      congr 2; omega
    · unfold lotI; rw [e]; rfl
  refine calls_of_awpG [.loc 51 0] [.par 0, .par 1] mixed L57_ok (Nat.le_of_ble_eq_true rfl) ?_
  generalize hR : (fun (q : AV) (B : List (Site × Box)) => q = .pv (spnP r off lab by_) ∧ B = laid 0 (jgB r kn)) = R
  simp [-getElem?_pos, L57, laid, jgB, jgC, offV_six, -retB]
  refine call_lent (as' := [.pv (lotsP r.lots)]) (B := []) (fs := []) (cs := []) 24 [] ?_ rfl rfl rfl ?_ ?_ hcl ?_
  · rfl
  · rfl
  · rfl
  rintro r0 B0 ⟨rfl, rfl⟩
  refine ⟨rfl, by simp, ?_⟩
  simp [-getElem?_pos, -retB, intsP]
  refine awp_loopS (fun m τ => ∃ (k : Nat) (out ls : List Cr), k ≤ r.smp.length ∧ m = r.smp.length - k ∧ spaM r off lab by_ k = some (out, ls) ∧ out.length = k ∧ ls.length = r.lots.length ∧ (∀ c ∈ ls, c.bdd 1073750000) ∧ τ = wsK r kn off lab by_ ls out k)
    ⟨r.smp.length, wsK r kn off lab by_ r.lots [] 0, Sub.trans' (Sub.mk (by simp [wsK, AS.vecT, intsP]) (by simp [wsK, wsB, AS.vecT, jgC, intsP])) (vecT 51 66 2 9 rfl (by decide)), 0, [], r.lots, Nat.zero_le _, rfl, rfl, rfl, rfl, h.l, rfl⟩ ?_
  rintro J hJ m τ ⟨k, out, ls, hk, rfl, hsp, hol, hll, hlb, rfl⟩
  by_cases hlt : k < r.smp.length
  · obtain ⟨j, hj, hjl, hgj, hlj⟩ := hsm k hlt
    have hw := wrapK (k := k) (by omega)
    have hmeas : r.smp.length - (k + 1) < r.smp.length - k := by omega
    have hrd := readings_c r kn k off lab by_
    have hit := witer_c (wspC r kn) r h.b kn 2 3 4 (fun c _ => ⟨rfl, rfl⟩) (fun c _ => rfl) k hlt off lab by_ hby ⟨-1073741824, 1073741824⟩ trivial (fun z hz => ⟨z, rfl⟩)
    rw [wspC_run] at hit
    have hsc : (rdM r off lab by_ k r.labs.length).foldl Cr.cut ⟨-1073741824, 1073741824⟩ = smC r off lab by_ k := rfl
    rw [hsc] at hit
    have hsb := smC_bdd h.b (off := off) (lab := lab) hby (i := k)
    have hnx : spaM r off lab by_ (k + 1) = if (smC r off lab by_ k).hi < (smC r off lab by_ k).lo then none else some (out ++ [smC r off lab by_ k], ls.set (lotI r k) ((getC ls (lotI r k)).cut ((smC r off lab by_ k).wider r.spr))) := by
      conv => lhs; unfold spaM
      rw [hsp]
    clear hsc
    generalize smC r off lab by_ k = S at *
    simp [-getElem?_pos, -List.getElem?_map, wsK, wsB, jgC, intsP, hlt, hgj, -retB]
    refine call_lent (as' := [.ptr (.par 0) 0, .pv (.int .i64 k), .pv (.agg (offV off)), .pv (.agg [.int .i64 lab, .int .i64 by_])]) (B := laid 0 (jgB r kn)) (fs := []) (cs := []) 41 [.par 0, .par 1] ?_ rfl rfl ?_ ?_ ?_ hrd ?_
    · rfl
    · simp [laid, jgB, jgC, intsP]
    · rfl
    · rfl
    rintro r0 B0 ⟨rfl, rfl⟩
    refine ⟨rfl, by simp [laid, jgB, jgC], ?_⟩
    simp [-getElem?_pos, -List.getElem?_map, laid, jgB, jgC, rdF, offV_six, intsP, -retB]
    rw [offV_six] at hit
    refine rng_lent [.loc 109 0, .loc 12 0, .loc 41 0, .par 0, .par 1] [(12, .ptr (.loc 12 0) 0)] (gf := 148) (fs := []) (cs := [.ptr (.loc 41 0) 0, .pv (.ref [.int .i64 k]), .pv (.ref [.bool (off 0), .bool (off 1), .bool (off 2), .bool (off 3), .bool (off 4), .bool (off 5)]), .pv (.ref [.int .i64 lab, .int .i64 by_])]) ?_ ?_ rfl rfl ?_ ?_ ?_ hit ?_
    · rfl
    · simp
    · simp [wspC, wspX, laid, jgC, intsP]
    · rfl
    · rfl
    rintro q B' ⟨rfl, rfl⟩
    refine ⟨rfl, ?_, ?_⟩
    · exact fun p hp => laid_ok (n := 5) (L := wspX r kn S) (by simp [wspX]) ((wspC r kn).cl S) p hp
    refine ⟨_, _, _, _, _, rfl, ?_⟩
    have hem := wempty_c S
    simp [-getElem?_pos, -List.getElem?_map, wspC, wspX, laid, jumpQ, jgC, intsP, -retB]
    refine call_gives (k := 0) (fs := []) (xs := [S.pv]) (cs := []) rfl rfl hem rfl ?_
    cases e1 : decide (S.hi < S.lo)
    case true =>
      rw [if_pos (of_decide_eq_true e1)] at hnx
      have hno := spaM_none hnx (r.smp.length - (k + 1))
      rw [show k + 1 + (r.smp.length - (k + 1)) = r.smp.length by omega] at hno
      have hP : spnP r off lab by_ = .tup [.emp (some true), .bool false] := by unfold spnP; rw [hno]
      simp [-getElem?_pos, -List.getElem?_map, retFz, frzL, AS.frz, AV.frz, AV.frzL, Box.frz, AS.tidy, AS.frzC, Box.live, AV.live]
      rw [← hR, hP]
      simp [laid, jgB, jgC, intsP]
    rw [if_neg (of_decide_eq_false e1)] at hnx
    obtain ⟨y, hy, hyg⟩ := getC_at (l := ls) (j := j) (by omega)
    rw [hlj, hyg] at hnx
    have hyb := hlb y (List.mem_of_getElem? hy)
    have hwb : (S.wider r.spr).bdd 1073750000 := by
      unfold Cr.bdd Cr.wider Cr.plus at *
      simp only
      omega
    have hround := hJ _ _ ⟨k + 1, _, _, hlt, rfl, hnx, by rw [List.length_append, hol]; rfl, by rw [List.length_set, hll], (fun c hc => by
      rcases List.mem_or_eq_of_mem_set hc with hc | rfl
      · exact hlb c hc
      · exact cut_bddB hyb hwb), rfl⟩
    unfold Cr.bdd at hsb
    have hwd := wwider_c S r.spr (wrap64 (by omega)) (wrap64 (by omega))
    have hct := wcut_c y (S.wider r.spr)
    have hgy : (ls.map Cr.pv)[j]? = some (.agg [.int .i64 y.lo, .int .i64 y.hi]) := by rw [List.getElem?_map, hy]; rfl
    have hll2 : (ls.map Cr.pv).length = r.lots.length := by rw [List.length_map, hll]
    have hol2 : (out.map Cr.pv).length = k := by rw [List.length_map, hol]
    have hset : (ls.set j (y.cut (S.wider r.spr))).map Cr.pv = (ls.map Cr.pv).set j (.agg [.int .i64 (y.cut (S.wider r.spr)).lo, .int .i64 (y.cut (S.wider r.spr)).hi]) := by rw [List.map_set]; rfl
    have happ : (out ++ [S]).map Cr.pv = out.map Cr.pv ++ [.agg [.int .i64 S.lo, .int .i64 S.hi]] := by rw [List.map_append]; rfl
    have hk6 : k + 1 ≤ 1000000 := by omega
    have hk7 : k ≤ 999999 := by omega
    unfold wsK wsB at hround
    rw [hset, happ] at hround
    clear hJ hset happ hnx hwb
    generalize ls.map Cr.pv = LL at *
    generalize out.map Cr.pv = OL at *
    generalize y.cut (S.wider r.spr) = zc at *
    generalize S.wider r.spr = yw at *
    unfold Cr.pv at hwd hct
    simp [-getElem?_pos, -List.getElem?_map, intsP, hol2, nble, nblt, hk6, hk7, hll2, hgy, hjl, -retB]
    refine call_give (k := 0) (fs := []) (xs := [S.pv, .int .i64 r.spr]) (cs := []) rfl rfl hwd rfl ?_
    simp [-getElem?_pos, -List.getElem?_map, hll2, hgy, hjl, -retB]
    refine call_gives (k := 0) (fs := []) (xs := [y.pv, yw.pv]) (cs := []) rfl rfl hct rfl ?_
    simp [-getElem?_pos, -List.getElem?_map, hll2, hgy, hjl, hw, nblt, -retB]
    have hsa : setAt (.agg [.int .i64 y.lo, .int .i64 y.hi]) 0 (.agg [.int .i64 zc.lo, .int .i64 zc.hi]) = .agg [.int .i64 zc.lo, .int .i64 zc.hi] := rfl
    exact ⟨_, _, hmeas, Sub.mk (by simp [intsP]) (by simp [jgC, intsP, hsa]), hround⟩
  · have he : k = r.smp.length := by omega
    subst he
    clear hJ
    have hal : spnP r off lab by_ = .tup [crsP (finM r ls out r.smp.length), .bool (ls.all fun x => decide (x.lo ≤ x.hi))] := by unfold spnP; rw [hsp]
    simp [-getElem?_pos, -List.getElem?_map, wsK, wsB, jgC, -retB]
    refine awp_loopS (fun m τ => ∃ k : Nat, k ≤ r.lots.length ∧ m = r.lots.length - k ∧ (∀ (j : Nat) (y : Cr), j < k → ls[j]? = some y → y.lo ≤ y.hi) ∧ τ = wsE r kn off lab by_ ls out k) ⟨r.lots.length, wsE r kn off lab by_ ls out 0, Sub.mk (by simp [wsE]) (by simp [wsE, wsB, jgC]), 0, Nat.zero_le _, rfl, (fun j y hj => by omega), rfl⟩ ?_
    rintro J hJ m τ ⟨k, hk, rfl, hinv, rfl⟩
    have hll2 : (ls.map Cr.pv).length = r.lots.length := by rw [List.length_map, hll]
    by_cases hlt : k < r.lots.length
    · obtain ⟨y, hy, _⟩ := getC_at (l := ls) (j := k) (by omega)
      have hgy : (ls.map Cr.pv)[k]? = some (.agg [.int .i64 y.lo, .int .i64 y.hi]) := by rw [List.getElem?_map, hy]; rfl
      have hw := wrapK (k := k) (by omega)
      have hmeas : r.lots.length - (k + 1) < r.lots.length - k := by omega
      have hem := wempty_c y
      simp [-getElem?_pos, -List.getElem?_map, -decide_eq_true_eq, -decide_eq_false_iff_not, wsE, wsB, hlt, hll2, hgy, nblt, -retB]
      refine call_gives (k := 0) (fs := []) (xs := [y.pv]) (cs := []) rfl rfl hem rfl ?_
      cases e1 : decide (y.hi < y.lo)
      · have hyl : y.lo ≤ y.hi := by have := of_decide_eq_false e1; omega
        have hround := hJ _ _ ⟨k + 1, hlt, rfl, (fun j z hj hz => by
          rcases Nat.lt_or_ge j k with h1 | h1
          · exact hinv j z h1 hz
          · obtain rfl : j = k := by omega
            rw [hy] at hz
            cases hz
            exact hyl), rfl⟩
        simp [-getElem?_pos, -List.getElem?_map, hw, -retB]
        exact ⟨_, _, hmeas, Sub.mk (by simp [wsE]) (by simp [wsE, wsB, jgC]), hround⟩
      have hcan : (ls.all fun x => decide (x.lo ≤ x.hi)) = false := by
        rw [List.all_eq_false]
        refine ⟨y, List.mem_of_getElem? hy, ?_⟩
        have := of_decide_eq_true e1
        simp only [decide_eq_true_eq]
        omega
      clear hJ hinv
      rw [hcan] at hal
      simp [-getElem?_pos, -List.getElem?_map, jgC, -retB]
      have hpre := finM_zero (r := r) (ls := ls) (out := out)
      refine awp_loopS (fun m τ => ∃ k : Nat, k ≤ r.smp.length ∧ m = r.smp.length - k ∧ τ = wsF r kn off lab by_ ls (finM r ls out k) false k) ⟨r.smp.length, wsF r kn off lab by_ ls (finM r ls out 0) false 0, Sub.mk (by simp [wsF, finM, hol, offV_six]) (by simp [wsF, wsB, finM, jgC, offV_six]), 0, Nat.zero_le _, rfl, rfl⟩ ?_
      rintro J hJ m τ ⟨k, hk, rfl, rfl⟩
      by_cases hlt : k < r.smp.length
      · obtain ⟨j, hj, hjl, hgj, hlj⟩ := hsm k hlt
        have hw := wrapK (k := k) (by omega)
        have hround := hJ _ _ ⟨k + 1, hlt, rfl, rfl⟩
        have hmeas : r.smp.length - (k + 1) < r.smp.length - k := by omega
        have hfl := finM_len (r := r) (ls := ls) (out := out) (k := k) (by omega)
        obtain ⟨y, hy, hyg⟩ := getC_at (l := ls) (j := j) (by omega)
        obtain ⟨z, hz, hzg⟩ := getC_at (l := out) (j := k) (by omega)
        have hfg := finM_get (r := r) (ls := ls) (out := out) (k := k) (by omega)
        have hfn := finM_next (r := r) (ls := ls) (out := out) (k := k) (by omega) (by omega)
        rw [hlj, hyg, hzg] at hfn
        have hyb := hlb y (List.mem_of_getElem? hy)
        unfold Cr.bdd at hyb
        have hwd := wwider_c y r.spr (wrap64 (by omega)) (wrap64 (by omega))
        have hct := wcut_c z (y.wider r.spr)
        have hgy : (ls.map Cr.pv)[j]? = some (.agg [.int .i64 y.lo, .int .i64 y.hi]) := by rw [List.getElem?_map, hy]; rfl
        have hgz : ((finM r ls out k).map Cr.pv)[k]? = some (.agg [.int .i64 z.lo, .int .i64 z.hi]) := by rw [List.getElem?_map, hfg, hz]; rfl
        have hset : ((finM r ls out k).map Cr.pv).set k (.agg [.int .i64 (z.cut (y.wider r.spr)).lo, .int .i64 (z.cut (y.wider r.spr)).hi]) = (finM r ls out (k + 1)).map Cr.pv := by
          rw [hfn, List.map_set]; rfl
        have hkl : k < (finM r ls out k).length := by omega
        have hjl2 : j < ls.length := by omega
        unfold wsF wsB at hround ⊢
        rw [← hset] at hround
        clear hJ hset hfn
        have hfl2 : ((finM r ls out k).map Cr.pv).length = r.smp.length := by rw [List.length_map]; omega
        generalize (finM r ls out k).map Cr.pv = FL at *
        generalize z.cut (y.wider r.spr) = zc at *
        generalize hyw : y.wider r.spr = yw at *
        unfold Cr.pv at hwd hct
        have hjd : decide (j < r.lots.length) = true := decide_eq_true hjl
        have hkd : decide (k < r.smp.length) = true := decide_eq_true hlt
        simp [-getElem?_pos, -List.getElem?_map, -decide_eq_true_eq, -decide_eq_false_iff_not, hlt, hgj, hgy, hgz, hfl2, hjl2, hjd, hkd, hjl, hll, jgC, intsP, nblt, nble, -retB]
        refine call_give (k := 0) (fs := []) (xs := [y.pv, .int .i64 r.spr]) (cs := []) rfl rfl hwd rfl ?_
        simp [-getElem?_pos, -List.getElem?_map, -decide_eq_true_eq, -decide_eq_false_iff_not, hgz, hfl2, hkd, hlt, -retB]
        refine call_gives (k := 0) (fs := []) (xs := [z.pv, yw.pv]) (cs := []) rfl rfl hct rfl ?_
        simp [-getElem?_pos, -List.getElem?_map, -decide_eq_true_eq, -decide_eq_false_iff_not, hgz, hfl2, hkd, hlt, hw, nblt, nble, -retB]
        have hsa : setAt (.agg [.int .i64 z.lo, .int .i64 z.hi]) 0 (.agg [.int .i64 zc.lo, .int .i64 zc.hi]) = .agg [.int .i64 zc.lo, .int .i64 zc.hi] := rfl
        exact ⟨_, _, hmeas, Sub.mk (by simp [intsP]) (by simp [jgC, intsP, hsa]), hround⟩
      · have he : k = r.smp.length := by omega
        subst he
        clear hJ
        have hfl3 : r.smp.length ≤ (finM r ls out r.smp.length).length := by rw [finM_len (by omega)]; omega
        have hfm : ((finM r ls out r.smp.length).map Cr.pv).take r.smp.length = (finM r ls out r.smp.length).map Cr.pv := List.take_of_length_le (by rw [List.length_map, finM_len (by omega)]; omega)
        simp [-getElem?_pos, -List.getElem?_map, -decide_eq_true_eq, -decide_eq_false_iff_not, wsF, wsB, jgC, hfm, retFz, frzL, AS.frz, AV.frz, AV.frzL, Box.frz, AS.tidy, AS.frzC, Box.live, AV.live, hfl3]
        rw [← hR, hal]
        simp [laid, jgB, jgC, crsP]
    · have he : k = r.lots.length := by omega
      subst he
      clear hJ
      have hcan : (ls.all fun x => decide (x.lo ≤ x.hi)) = true := by
        rw [List.all_eq_true]
        intro x hx
        obtain ⟨j, hj⟩ := List.mem_iff_getElem?.1 hx
        have hjl := (List.getElem?_eq_some_iff.1 hj).1
        exact decide_eq_true (hinv j x (by omega) hj)
      clear hinv
      rw [hcan] at hal
      simp [-getElem?_pos, -List.getElem?_map, wsE, wsB, jgC, -retB]
      have hpre := finM_zero (r := r) (ls := ls) (out := out)
      refine awp_loopS (fun m τ => ∃ k : Nat, k ≤ r.smp.length ∧ m = r.smp.length - k ∧ τ = wsF r kn off lab by_ ls (finM r ls out k) true k) ⟨r.smp.length, wsF r kn off lab by_ ls (finM r ls out 0) true 0, Sub.mk (by simp [wsF, finM, hol, offV_six]) (by simp [wsF, wsB, finM, jgC, offV_six]), 0, Nat.zero_le _, rfl, rfl⟩ ?_
      rintro J hJ m τ ⟨k, hk, rfl, rfl⟩
      by_cases hlt : k < r.smp.length
      · obtain ⟨j, hj, hjl, hgj, hlj⟩ := hsm k hlt
        have hw := wrapK (k := k) (by omega)
        have hround := hJ _ _ ⟨k + 1, hlt, rfl, rfl⟩
        have hmeas : r.smp.length - (k + 1) < r.smp.length - k := by omega
        have hfl := finM_len (r := r) (ls := ls) (out := out) (k := k) (by omega)
        obtain ⟨y, hy, hyg⟩ := getC_at (l := ls) (j := j) (by omega)
        obtain ⟨z, hz, hzg⟩ := getC_at (l := out) (j := k) (by omega)
        have hfg := finM_get (r := r) (ls := ls) (out := out) (k := k) (by omega)
        have hfn := finM_next (r := r) (ls := ls) (out := out) (k := k) (by omega) (by omega)
        rw [hlj, hyg, hzg] at hfn
        have hyb := hlb y (List.mem_of_getElem? hy)
        unfold Cr.bdd at hyb
        have hwd := wwider_c y r.spr (wrap64 (by omega)) (wrap64 (by omega))
        have hct := wcut_c z (y.wider r.spr)
        have hgy : (ls.map Cr.pv)[j]? = some (.agg [.int .i64 y.lo, .int .i64 y.hi]) := by rw [List.getElem?_map, hy]; rfl
        have hgz : ((finM r ls out k).map Cr.pv)[k]? = some (.agg [.int .i64 z.lo, .int .i64 z.hi]) := by rw [List.getElem?_map, hfg, hz]; rfl
        have hset : ((finM r ls out k).map Cr.pv).set k (.agg [.int .i64 (z.cut (y.wider r.spr)).lo, .int .i64 (z.cut (y.wider r.spr)).hi]) = (finM r ls out (k + 1)).map Cr.pv := by
          rw [hfn, List.map_set]; rfl
        have hkl : k < (finM r ls out k).length := by omega
        have hjl2 : j < ls.length := by omega
        unfold wsF wsB at hround ⊢
        rw [← hset] at hround
        clear hJ hset hfn
        have hfl2 : ((finM r ls out k).map Cr.pv).length = r.smp.length := by rw [List.length_map]; omega
        generalize (finM r ls out k).map Cr.pv = FL at *
        generalize z.cut (y.wider r.spr) = zc at *
        generalize hyw : y.wider r.spr = yw at *
        unfold Cr.pv at hwd hct
        have hjd : decide (j < r.lots.length) = true := decide_eq_true hjl
        have hkd : decide (k < r.smp.length) = true := decide_eq_true hlt
        simp [-getElem?_pos, -List.getElem?_map, -decide_eq_true_eq, -decide_eq_false_iff_not, hlt, hgj, hgy, hgz, hfl2, hjl2, hjd, hkd, hjl, hll, jgC, intsP, nblt, nble, -retB]
        refine call_give (k := 0) (fs := []) (xs := [y.pv, .int .i64 r.spr]) (cs := []) rfl rfl hwd rfl ?_
        simp [-getElem?_pos, -List.getElem?_map, -decide_eq_true_eq, -decide_eq_false_iff_not, hgz, hfl2, hkd, hlt, -retB]
        refine call_gives (k := 0) (fs := []) (xs := [z.pv, yw.pv]) (cs := []) rfl rfl hct rfl ?_
        simp [-getElem?_pos, -List.getElem?_map, -decide_eq_true_eq, -decide_eq_false_iff_not, hgz, hfl2, hkd, hlt, hw, nblt, nble, -retB]
        have hsa : setAt (.agg [.int .i64 z.lo, .int .i64 z.hi]) 0 (.agg [.int .i64 zc.lo, .int .i64 zc.hi]) = .agg [.int .i64 zc.lo, .int .i64 zc.hi] := rfl
        exact ⟨_, _, hmeas, Sub.mk (by simp [intsP]) (by simp [jgC, intsP, hsa]), hround⟩
      · have he : k = r.smp.length := by omega
        subst he
        clear hJ
        have hfl3 : r.smp.length ≤ (finM r ls out r.smp.length).length := by rw [finM_len (by omega)]; omega
        have hfm : ((finM r ls out r.smp.length).map Cr.pv).take r.smp.length = (finM r ls out r.smp.length).map Cr.pv := List.take_of_length_le (by rw [List.length_map, finM_len (by omega)]; omega)
        simp [-getElem?_pos, -List.getElem?_map, -decide_eq_true_eq, -decide_eq_false_iff_not, wsF, wsB, jgC, hfm, retFz, frzL, AS.frz, AV.frz, AV.frzL, Box.frz, AS.tidy, AS.frzC, Box.live, AV.live, hfl3]
        rw [← hR, hal]
        simp [laid, jgB, jgC, crsP]
end Go.Proofs.YtaffbiibcfeigaaGreat
