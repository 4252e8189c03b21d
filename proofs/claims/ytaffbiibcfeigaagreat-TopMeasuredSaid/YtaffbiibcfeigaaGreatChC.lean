/- Contracts of layer 2 (chain): the certificates of an item, one after the other, for any loop. (Several texts in one.) -/
import Derived.Test.YtaffbiibcfeigaaGreatChB
import Derived.Test.YtaffbiibcfeigaaGreatChA
set_option linter.unusedVariables false
set_option linter.unusedSimpArgs false
/-! Contracts of layer 2 (chain): the certificates of an item, one after the other, for any loop. -/
namespace Go.Proofs.YtaffbiibcfeigaaGreat
open Go.RowKit
set_option maxRecDepth 10000
set_option linter.unusedSimpArgs false
/-- A loop over what an iterator hands out: its boxes by its state; a round: the next state, goes it on? -/
structure Cons (P : Program) where
  m : Nat
  S : Type
  X : S → List Box
  step : S → PV → S × Bool
  good : PV → Prop
  live : S → Prop
  m0 : 0 < m
  len : ∀ s, (X s).length = m
  cl : ∀ s, closedB m (X s)
  yields : ∀ s x, live s → good x → YieldsA P 0 [.pv x] (laid 0 (X s)) (fun r B => r = .pv (.bool (step s x).2) ∧ B = laid 0 (X (step s x).1))
  goes : ∀ s x, live s → good x → (step s x).2 = true → live (step s x).1
def Cons.run {P : Program} (C : Cons P) : C.S → List PV → C.S × Bool
  | s, [] => (s, true)
  | s, x :: r => match (C.step s x).2 with
    | true => C.run (C.step s x).1 r
    | false => ((C.step s x).1, false)
theorem Cons.run_app {P : Program} {C : Cons P} : ∀ (a b : List PV) (s : C.S), C.run s (a ++ b) = match (C.run s a).2 with
    | true => C.run (C.run s a).1 b
    | false => C.run s a
  | [], b, s => rfl
  | x :: a, b, s => by
    rw [List.cons_append, Cons.run, Cons.run]
    split
    · exact Cons.run_app a b _
    · rfl
theorem Cons.run_one {P : Program} {C : Cons P} (s : C.S) (x : PV) : C.run s [x] = C.step s x := by
  rw [Cons.run]
  split
  · rename_i h; rw [Cons.run]; exact Prod.ext rfl h.symm
  · rename_i h; exact Prod.ext rfl h.symm
theorem laid_purgeC {P : Program} {C : Cons P} {c : C.S} {k : Nat} : ((laid 0 (C.X c)).filter fun p => !p.1.isLoc k).map (fun p => (p.1, p.2.purge k)) = laid 0 (C.X c) := laid_purge (C.cl c)
theorem laid_outC {P : Program} {C : Cons P} {c : C.S} : (laid 0 (C.X c)).filter (fun p => !p.1.lt C.m) = [] := laid_out (by rw [C.len]; omega)
theorem sees_laid0 {tm : List (Nat × AV)} {X : List Box} : sees ⟨tm, laid 0 X⟩ X := by
  have := sees_laid (tm := tm) (X := X) (r := [])
  rwa [List.append_nil] at this
/-- Which certificates are bad, by their numbers. -/
def badZ (l : List Int) : List AV := (List.range 1000).map fun i : Nat => .pv (.bool (l.contains (i : Int)))
theorem badZ_get {l : List Int} {n : Nat} (h : n < 1000) : (badZ l)[n]? = some (.pv (.bool (l.contains (n : Int)))) := by
  unfold badZ
  rw [List.getElem?_map, List.getElem?_range h]; rfl
theorem badZ_nil : bad0 = badZ [] := by
  refine List.ext_getElem? (fun n => ?_)
  unfold bad0 badZ
  rw [List.getElem?_map]
  by_cases h : n < 1000
  · rw [List.getElem?_range h, List.getElem?_replicate, if_pos h]; rfl
  · rw [List.getElem?_replicate, if_neg h, List.getElem?_eq_none (by rw [List.length_range]; omega)]; rfl
theorem mapPV_has {α : Type} {f : α → PV} {d : Nat} : ∀ l : List α, AV.hasL d (l.map fun x => .pv (f x)) = false
  | [] => rfl
  | x :: l => by rw [List.map_cons]; simp only [AV.hasL, AV.has, mapPV_has l]; rfl
theorem mapPV_all {α : Type} {f : α → PV} {q : Site → Bool} : ∀ l : List α, AV.allSL q (l.map fun x => .pv (f x)) = true
  | [] => rfl
  | x :: l => by rw [List.map_cons]; simp only [AV.allSL, AV.allS, mapPV_all l]; rfl
theorem mapPV_purge {α : Type} {f : α → PV} {d : Nat} (l : List α) : (l.map fun x => AV.pv (f x)).map (AV.purge d) = l.map fun x => .pv (f x) := by
  rw [List.map_map]; rfl
theorem mapPV_map {α : Type} {f : α → PV} {g : Site → Site} : ∀ l : List α, AV.mapL g (l.map fun x => .pv (f x)) = l.map fun x => .pv (f x)
  | [] => rfl
  | x :: l => by rw [List.map_cons]; simp only [AV.mapL, AV.map, mapPV_map l]
theorem badZ_has {l : List Int} (d : Nat) : AV.hasL d (badZ l) = false := mapPV_has _
theorem badZ_all {l : List Int} (q : Site → Bool) : AV.allSL q (badZ l) = true := mapPV_all _
theorem badZ_purge {l : List Int} (d : Nat) : (badZ l).map (AV.purge d) = badZ l := mapPV_purge _
theorem badZ_map {l : List Int} (g : Site → Site) : AV.mapL g (badZ l) = badZ l := mapPV_map _
/-- Frozen boxes, and boxes handed out, chosen at the end. -/
theorem retG_wp {fz outs : List Site} {rs : List LRes} {R : AV → List (Site × Box) → Prop} {σ : AS} (h : retB outs rs R (frzL fz σ)) : retWp rs R σ := by
  obtain ⟨l, h1, h2, h3, h4, h5⟩ := h
  exact ⟨fz, outs, l, h1, h2, h3, fun s hs b hb => outsOk_get h4 s hs b hb, h5⟩
theorem calls_of_awpG {P : Program} (fz outs : List Site) {f : FuncId} {F : LFn} {args : List AV} {B : List (Site × Box)} {R : AV → List (Site × Box) → Prop} (hm : P.follows .mixedOrders = true) (hf : litF P f = some F) (hn : args.length ≤ F.nt)
    (h : awpS P F.code (finQ (fun σ => retB outs F.res R (frzL fz σ))) ⟨initT 0 args, B⟩) : CallsA P f args B R := calls_of_awp_gen hm hf hn (fun _ h => retG_wp h) (awpS_wp h)
section
attribute [local simp] Box.purge Site.isLoc
attribute [local simp] retFz frzL AS.frz AV.frz AV.frzL Box.frz AS.tidy AS.frzC
/-- A book that is worked on, among boxes. -/
structure WAt (b : Bk) (bad : List Int) (es : List (PV × PV)) (X : List Box) (jw jm : Nat) : Prop where
  w : X[jw]? = some (.cells (wkC b (.par jm) (badZ bad)))
  m : X[jm]? = some (.map es)
/-- The iterator over the certificates of an item. -/
def ofF (s : Site) (item day below : Int) : AV := .fn 142 [] [.ptr s 0, .pv (.ref [.int .i64 below]), .pv (.ref [.int .i64 item]), .pv (.ref [.int .i64 day])]
attribute [local simp] AS.exp expG Box.ren AV.map AV.mapL noRet Site.isRet Box.allS AV.allS AV.allSL
theorem badZ_frz {l : List Int} {s : Site} {n : Nat} {xs : List PV} : AV.frzL s n xs (badZ l) = badZ l := by
  have : ∀ k : List Nat, AV.frzL s n xs (k.map fun i : Nat => .pv (.bool (l.contains (i : Int)))) = k.map fun i : Nat => .pv (.bool (l.contains (i : Int))) := fun k => by
    induction k with
    | nil => rfl
    | cons x k ih => rw [List.map_cons]; simp only [AV.frzL, AV.frz, ih]
  exact this _
def wkB (b : Bk) (bad : List Int) (es : List (PV × PV)) : List Box := [.cells (wkC b (.par 1) (badZ bad)), .map es]
theorem of_c (b : Bk) (bad : List Int) (es : List (PV × PV)) (item day below : Int) : CallsA Tryz.prog 87 [.ptr (.par 0) 0, .pv (.int .i64 item), .pv (.int .i64 day), .pv (.int .i64 below)] (laid 0 (wkB b bad es)) (fun r B => r = ofF (.ret 0) item day below ∧ B = (.ret 0, .cells [.ptr (.par 0) 0]) :: laid 0 (wkB b bad es)) := by
  refine calls_of_awpG [.loc 5 0, .loc 6 0, .loc 7 0] [.loc 4 0, .par 0, .par 1] mixed L87_ok (Nat.le_of_ble_eq_true rfl) ?_
  generalize hR : (fun (r : AV) (B : List (Site × Box)) => r = ofF (.ret 0) item day below ∧ B = (.ret 0, .cells [.ptr (.par 0) 0]) :: laid 0 (wkB b bad es)) = R
  simp [-getElem?_pos, L87, laid, wkB, wkC, unpvs, fnA, badZ_has, badZ_purge, badZ_frz]
  simp [retB, outsOk, badZ_has, badZ_purge, badZ_frz, badZ_all, badZ_map, List.findIdx?_cons]
  rw [← hR]
  refine ⟨rfl, ?_⟩
  simp [laid, wkB, wkC]
end
attribute [local simp] isLoc_loc isLoc_par isLoc_ret purge_cells purge_map purge_arr purge_loop laid_purgeC
attribute [local simp] AV.map AV.mapL noRet Site.isRet Box.allS AV.allS AV.allSL AS.adds
def ctsV (l : List Ct) : List PV := l.map Ct.pv
def Bk.ofK (b : Bk) (item day below : Int) (k : Nat) : List Ct := ((b.nums.take k).map b.get).filter (Bk.ofB item day below)
theorem ofK_next {b : Bk} {item day below : Int} {k : Nat} {n : Int} (h : b.nums[k]? = some n) : b.ofK item day below (k + 1) = b.ofK item day below k ++ (if Bk.ofB item day below (b.get n) = true then [b.get n] else []) := by
  unfold Bk.ofK
  rw [List.take_add_one, h, List.map_append, List.filter_append]
  congr 1
  simp only [Option.toList, List.map_cons, List.map_nil, List.filter_cons, List.filter_nil]
theorem ofK_all {b : Bk} {item day below : Int} (k : Nat) : b.ofL item day below = b.ofK item day below k ++ ((b.nums.drop k).map b.get).filter (Bk.ofB item day below) := by
  unfold Bk.ofK Bk.ofL
  rw [← List.filter_append, ← List.map_append, List.take_append_drop]
theorem ofK_full {b : Bk} {item day below : Int} : b.ofK item day below b.nums.length = b.ofL item day below := by
  unfold Bk.ofK Bk.ofL
  rw [List.take_length]
theorem nums_len {b : Bk} : b.nums.length ≤ 1000 := by
  unfold Bk.nums
  rw [List.length_map]
  exact Nat.le_trans (List.length_filter_le _ _) (by rw [List.length_range]; exact Nat.le_refl _)
theorem laid_at {X : List Box} {j : Nat} {b : Box} (h : X[j]? = some b) : (laid 0 X).lookup (.par j) = some b := by
  have := laid_get X 0 j
  rw [Nat.zero_add] at this
  rw [this, h]
set_option maxHeartbeats 8000000 in
theorem iter_c (C : Cons Tryz.prog) (b : Bk) (hb : b.ok) (bad : List Int) (es : List (PV × PV)) (hes : CMap b es) (j0 jw jm : Nat) (hW : ∀ c, C.live c → WAt b bad es (C.X c) jw jm) (h0 : ∀ c, C.live c → (C.X c)[j0]? = some (.cells [.ptr (.par jw) 0]))
    (item day below : Int) (c : C.S) (hc : C.live c) (hg : ∀ x ∈ b.ofL item day below, C.good x.pv) :
    CallsA Tryz.prog 142 [.yld (.par 0), .ptr (.par j0) 0, .pv (.ref [.int .i64 below]), .pv (.ref [.int .i64 item]), .pv (.ref [.int .i64 day])] (laid 0 (C.X c)) (fun r B => r = .pv (.tup []) ∧ B = laid 0 (C.X (C.run c (ctsV (b.ofL item day below))).1)) := by
  have hlen := nums_len (b := b)
  refine calls_of_awpB (parsN C.m) mixed L142_ok (Nat.le_of_ble_eq_true rfl) ?_
  generalize hR : (fun (r : AV) (B : List (Site × Box)) => r = .pv (.tup []) ∧ B = laid 0 (C.X (C.run c (ctsV (b.ofL item day below))).1)) = R
  have k0 := laid_at (h0 c hc)
  have kw := laid_at (hW c hc).w
  simp [-getElem?_pos, L142, k0, kw, wkC]
  refine awp_loopS (fun n τ => ∃ (k : Nat) (c' : C.S), k ≤ b.nums.length ∧ n = b.nums.length - k ∧ C.run c (ctsV (b.ofK item day below k)) = (c', true) ∧ C.live c' ∧ τ = ⟨[(0, .yld (.par 0)), (1, .ptr (.par j0) 0), (2, .pv (.ref [.int .i64 below])), (3, .pv (.ref [.int .i64 item])), (4, .pv (.ref [.int .i64 day])), (12, .pv (.lst false 1 (b.nums.map intP))), (13, .pv (.int .i64 b.nums.length)), (14, .pv (.int .i64 k))], laid 0 (C.X c')⟩)
    ⟨b.nums.length, ⟨[(0, .yld (.par 0)), (1, .ptr (.par j0) 0), (2, .pv (.ref [.int .i64 below])), (3, .pv (.ref [.int .i64 item])), (4, .pv (.ref [.int .i64 day])), (12, .pv (.lst false 1 (b.nums.map intP))), (13, .pv (.int .i64 b.nums.length)), (14, .pv (.int .i64 0))], laid 0 (C.X c)⟩, Sub.mk (by simp) (subB_sees sees_laid0), 0, c, Nat.zero_le _, rfl, by simp [Bk.ofK, ctsV, Cons.run], hc, rfl⟩ ?_
  rintro J hJ n τ ⟨k, c', hk, rfl, hrun, hlive, rfl⟩
  have k0 := laid_at (h0 c' hlive)
  have kw := laid_at (hW c' hlive).w
  have km := laid_at (hW c' hlive).m
  unfold wkC at kw
  by_cases hlt : k < b.nums.length
  · obtain ⟨x, hx⟩ : ∃ x, b.nums[k]? = some x := ⟨b.nums[k], List.getElem?_eq_getElem hlt⟩
    have hxm := List.mem_of_getElem? hx
    have hgx : (b.nums.map intP)[k]? = some (.int .i64 x) := by rw [List.getElem?_map, hx]; rfl
    have hw := wrapK (k := k) (by omega)
    have hmeas : b.nums.length - (k + 1) < b.nums.length - k := by omega
    obtain ⟨hcm, hcn⟩ := get_num hb hxm
    have hfx := hes.f x
    rw [if_pos hxm] at hfx
    have hko := hes.k
    have hnx := ofK_next (item := item) (day := day) (below := below) hx
    have hbd := cert_bds hb hcm
    have hon := con_c (b.get x) day (by rw [wrap64 (by omega)])
    have hin : Bk.ofB item day below (b.get x) = true → b.get x ∈ b.ofL item day below := fun h => (mem_ofL hb).2 ⟨hcm, h⟩
    have hskip : Bk.ofB item day below (b.get x) = false → J (b.nums.length - (k + 1)) ⟨[(0, .yld (.par 0)), (1, .ptr (.par j0) 0), (2, .pv (.ref [.int .i64 below])), (3, .pv (.ref [.int .i64 item])), (4, .pv (.ref [.int .i64 day])), (12, .pv (.lst false 1 (b.nums.map intP))), (13, .pv (.int .i64 b.nums.length)), (14, .pv (.int .i64 (k + 1 : Nat)))], laid 0 (C.X c')⟩ := fun h => by
      rw [if_neg (by simp [h]), List.append_nil] at hnx
      exact hJ _ _ ⟨k + 1, c', hlt, rfl, by rw [hnx]; exact hrun, hlive, rfl⟩
    have hB : Bk.ofB item day below (b.get x) = (decide (x < below) && (decide ((b.get x).it = item) && (b.get x).on day)) := by unfold Bk.ofB; rw [hcn]
    generalize b.get x = y at *
    obtain ⟨yn, yi, ys, yd, yv, ⟨yl, yh⟩⟩ := y
    simp only at hcn
    subst hcn
    unfold Ct.pv at hfx hon
    simp only at hB
    cases e1 : decide (yn < below)
    · rw [e1, Bool.false_and] at hB
      simp [-getElem?_pos, -List.getElem?_map, -decide_eq_true_eq, -decide_eq_false_iff_not, hlt, hgx, k0, kw, km, hko, hfx, lookA, e1, hw]
      exact ⟨_, _, hmeas, Sub.mk (by simp) (subB_sees (by repeat (first | exact sees_laid0 | exact sees_laid | refine sees_skip rfl ?_))), hskip hB⟩
    rw [e1, Bool.true_and] at hB
    cases e2 : decide (yi = item)
    · rw [e2, Bool.false_and] at hB
      simp [-getElem?_pos, -List.getElem?_map, -decide_eq_true_eq, -decide_eq_false_iff_not, hlt, hgx, k0, kw, km, hko, hfx, lookA, e1, e2, hw]
      exact ⟨_, _, hmeas, Sub.mk (by simp) (subB_sees (by repeat (first | exact sees_laid0 | exact sees_laid | refine sees_skip rfl ?_))), hskip hB⟩
    rw [e2, Bool.true_and] at hB
    simp [-getElem?_pos, -List.getElem?_map, -decide_eq_true_eq, -decide_eq_false_iff_not, hlt, hgx, k0, kw, km, hko, hfx, lookA, e1, e2, hw]
    refine call_gives (k := 0) (fs := []) (xs := [.agg [.int .i64 yn, .int .i64 yi, .int .i64 ys, .int .i64 yd, .int .i64 yv, .int .i64 yl, .int .i64 yh], .int .i64 day]) (cs := []) rfl rfl hon rfl ?_
    cases e3 : Ct.on ⟨yn, yi, ys, yd, yv, ⟨yl, yh⟩⟩ day
    · rw [e3] at hB
      simp [-getElem?_pos, -List.getElem?_map, -decide_eq_true_eq, -decide_eq_false_iff_not, hw]
      exact ⟨_, _, hmeas, Sub.mk (by simp) (subB_sees (by repeat (first | exact sees_laid0 | exact sees_laid | refine sees_skip rfl ?_))), hskip hB⟩
    rw [e3] at hB
    have hgood := hg _ (hin hB)
    rw [if_pos hB] at hnx
    simp [-getElem?_pos, -List.getElem?_map, -decide_eq_true_eq, -decide_eq_false_iff_not]
    refine yield_pars 41 C.m (C.X c') rfl C.m0 (C.len c') (by repeat (first | exact sees_laid0 | exact sees_laid | refine sees_skip rfl ?_)) (C.cl c') rfl (C.yields c' (Ct.pv ⟨yn, yi, ys, yd, yv, ⟨yl, yh⟩⟩) hlive hgood) ?_
    rintro r B ⟨rfl, rfl⟩
    refine ⟨C.X (C.step c' (Ct.pv ⟨yn, yi, ys, yd, yv, ⟨yl, yh⟩⟩)).1, rfl, C.len _, C.cl _, rfl, ?_⟩
    have hstep : C.run c (ctsV (b.ofK item day below (k + 1))) = C.step c' (Ct.pv ⟨yn, yi, ys, yd, yv, ⟨yl, yh⟩⟩) := by
      rw [hnx, ctsV, List.map_append, Cons.run_app]
      rw [show List.map Ct.pv (b.ofK item day below k) = ctsV (b.ofK item day below k) from rfl, hrun]
      exact Cons.run_one c' _
    cases hs : (C.step c' (Ct.pv ⟨yn, yi, ys, yd, yv, ⟨yl, yh⟩⟩)).2
    · simp [-getElem?_pos, -List.getElem?_map, laid_outC]
      refine retB_pars (L := C.X (C.step c' (Ct.pv ⟨yn, yi, ys, yd, yv, ⟨yl, yh⟩⟩)).1) rfl rfl (C.len _) (by repeat (first | exact sees_laid0 | exact sees_laid | refine sees_skip rfl ?_)) (C.cl _) ?_
      rw [← hR]
      refine ⟨rfl, ?_⟩
      have hall : C.run c (ctsV (b.ofL item day below)) = C.step c' (Ct.pv ⟨yn, yi, ys, yd, yv, ⟨yl, yh⟩⟩) := by
        rw [ofK_all (k + 1), ctsV, List.map_append, Cons.run_app]
        rw [show List.map Ct.pv (b.ofK item day below (k + 1)) = ctsV (b.ofK item day below (k + 1)) from rfl, hstep, hs]
      rw [hall]
    · have hround := hJ _ _ ⟨k + 1, (C.step c' (Ct.pv ⟨yn, yi, ys, yd, yv, ⟨yl, yh⟩⟩)).1, hlt, rfl, by rw [hstep]; exact Prod.ext rfl hs, C.goes _ _ hlive hgood hs, rfl⟩
      simp [-getElem?_pos, -List.getElem?_map, laid_outC, hw]
      exact ⟨_, _, hmeas, Sub.mk (by simp) (subB_sees (by repeat (first | exact sees_laid0 | exact sees_laid | refine sees_skip rfl ?_))), hround⟩
  · have he : k = b.nums.length := by omega
    subst he
    simp [-getElem?_pos, -List.getElem?_map]
    refine retB_pars (L := C.X c') rfl rfl (C.len _) sees_laid0 (C.cl _) ?_
    rw [← hR]
    exact ⟨rfl, by rw [ofK_full] at hrun; rw [hrun]⟩
end Go.Proofs.YtaffbiibcfeigaaGreat
/-! Contracts of layer 2 (chain): held. -/
namespace Go.Proofs.YtaffbiibcfeigaaGreat
open Go.RowKit
set_option maxRecDepth 10000
set_option linter.unusedSimpArgs false
theorem cok51 : COk Tryz.prog (tyOf tys) L86.code := litF_ok L86_ok L86_tab
/-- A map from numbers to truth. -/
structure HMap (H : Int → Bool) (hs : List (PV × PV)) : Prop where
  k : keysOk kI hs = true
  f : ∀ n : Int, (findV (.int .i64 n) hs).getD (.bool false) = .bool (H n)
def numOf : PV → Int
  | .agg (.int _ n :: _) => n
  | _ => 0
def capB (s : Site) : Box := .cells [.ptr s 0]
noncomputable def hldX (b : Bk) (bad : List Int) (es hs : List (PV × PV)) (is : Bool) : List Box := [.loop (rcode Tryz.prog 86 0) [42] 64 [(3, .ptr (.par 2) 0), (7, .ptr (.par 1) 0)] none,
  .cells [.pv (.bool is)], .cells [.mp (.par 3)], .map hs, capB (.par 5), .cells (wkC b (.par 6) (badZ bad)), .map es]
attribute [local simp] AS.exp expG Box.ren AV.map AV.mapL outsOk noRet Site.isRet Box.allS AV.allS AV.allSL retB dropL AS.adds renL outG outOk lentBx inG fnOf lookA List.findIdx?_cons
section
attribute [local simp] Box.purge Site.isLoc
set_option maxHeartbeats 8000000 in
noncomputable def hldC (b : Bk) (bad : List Int) (es hs : List (PV × PV)) (H : Int → Bool) (hH : HMap H hs) : Cons Tryz.prog where
  m := 7
  S := Bool
  X := hldX b bad es hs
  step is x := (is || H (numOf x), true)
  good x := ∃ c : Ct, x = c.pv
  live _ := True
  m0 := by omega
  len _ := rfl
  cl c := by
    intro bx hb
    simp only [hldX, List.mem_cons, List.not_mem_nil, or_false] at hb
    rcases hb with rfl | rfl | rfl | rfl | rfl | rfl | rfl
    · rfl
    · rfl
    · rfl
    · rfl
    · rfl
    · simp [wkC, Site.lt, badZ_all]
    · rfl
  goes _ _ _ _ _ := trivial
  yields c x hc hx := by
    obtain ⟨y, rfl⟩ := hx
    have hcok : COk Tryz.prog (tyOf tys) (.rng 64 (.t 41) (rcode Tryz.prog 86 0) Y86_0a Y86_0b [42]) := cok51.2.2.1.2.2.2.1.2.2.2.1.2
    have hf := hH.f y.num
    have hk := hH.k
    refine yields_of_awpS mixed hcok.1 hcok.2.1 rfl rfl (by simp) rfl ?_
    cases c
    all_goals
      simp [-getElem?_pos, Y86_0a, Y86_0b, hldX, laid, putL, Ct.pv, hk, hf, numOf, capB, wkC, badZ_purge, badZ_has]
      exact ⟨[], [.par 1, .par 2, .par 3, .par 4, .par 5, .par 6], rfl, rfl, by simp [frzL, badZ_all], rfl, by simp [frzL, badZ_map]⟩
end
theorem hldC_run {b : Bk} {bad : List Int} {es hs : List (PV × PV)} {H : Int → Bool} {hH : HMap H hs} : ∀ (l : List Ct) (c : Bool), (hldC b bad es hs H hH).run c (ctsV l) = (c || l.any (fun o => H o.num), true)
  | [], c => by
    show (c, true) = _
    simp
  | x :: l, c => by
    show (hldC b bad es hs H hH).run (c || H x.num) (ctsV l) = _
    rw [hldC_run l, List.any_cons, Bool.or_assoc]
theorem heldIn {b : Bk} (hb : b.ok) {bad : List Int} {n : Int} (h : n ∈ b.held bad) : n ∈ b.nums := by
  obtain ⟨c, hc, e, _⟩ := (mem_held hb).1 h
  exact (mem_nums hb).2 ⟨c, hc, e⟩
def hEnt (b : Bk) (bad : List Int) (k : Nat) : List (PV × PV) := mapI id (fun n => .bool ((b.held bad).contains n)) (b.nums.take k)
theorem find_id {l : List Int} {n : Int} : (l.find? fun c => decide (id c = n)) = if n ∈ l then some n else none := by
  induction l with
  | nil => rfl
  | cons x l ih =>
    rw [List.find?_cons]
    by_cases h : x = n
    · subst h
      rw [show decide (id x = x) = true from by simp, if_pos (by simp)]
    · rw [show decide (id x = n) = false from by simpa using h, ih]
      by_cases hm : n ∈ l
      · rw [if_pos hm, if_pos (by simp [hm])]
      · rw [if_neg hm, if_neg (by simp [hm]; omega)]
theorem hEnt_map (b : Bk) (bad : List Int) (k : Nat) : HMap (fun n => (b.nums.take k).contains n && (b.held bad).contains n) (hEnt b bad k) := by
  refine ⟨keys_mapI, fun n => ?_⟩
  unfold hEnt
  rw [find_mapI, find_id]
  by_cases h : n ∈ b.nums.take k
  · rw [if_pos h, List.contains_iff_mem.2 h, Bool.true_and]; rfl
  · rw [if_neg h]
    cases hc : (b.nums.take k).contains n
    · rfl
    · exact absurd (List.contains_iff_mem.1 hc) h
theorem hEnt_full {b : Bk} (hb : b.ok) (bad : List Int) : HMap (fun n => (b.held bad).contains n) (hEnt b bad b.nums.length) := by
  have h := hEnt_map b bad b.nums.length
  refine ⟨h.k, fun n => ?_⟩
  rw [h.f n, List.take_length]
  cases hc : (b.held bad).contains n
  · simp
  · rw [List.contains_iff_mem.2 (heldIn hb (List.contains_iff_mem.1 hc))]; rfl
theorem hEnt_put {b : Bk} {bad : List Int} {k : Nat} {n : Int} (h : b.nums[k]? = some n) : putK (.int .i64 n) (.bool ((b.held bad).contains n)) (hEnt b bad k) = hEnt b bad (k + 1) := by
  unfold hEnt
  rw [put_mapI (fun x hx => ?_), List.take_add_one, h]
  · unfold mapI; rw [List.map_append]; rfl
  · obtain ⟨i, hi⟩ := List.mem_iff_getElem?.1 hx
    rw [List.getElem?_take] at hi
    split at hi
    · rename_i hik
      obtain ⟨h1, e1⟩ := List.getElem?_eq_some_iff.1 hi
      obtain ⟨h2, e2⟩ := List.getElem?_eq_some_iff.1 h
      have := List.pairwise_iff_getElem.1 (nums_sorted (b := b)) i k h1 h2 hik
      rw [e1, e2] at this
      show x ≠ n
      omega
    · cases hi
/-- At a number: what its certificate says of holding, by the numbers so far. -/
theorem any_take {b : Bk} (hb : b.ok) {k : Nat} {n : Int} (h : b.nums[k]? = some n) (H : Int → Bool) : ((b.ofL (b.get n).src (b.get n).day n).any fun o => (b.nums.take k).contains o.num && H o.num) = (b.ofL (b.get n).src (b.get n).day n).any fun o => H o.num := by
  rw [Bool.eq_iff_iff, List.any_eq_true, List.any_eq_true]
  constructor
  · rintro ⟨o, ho, h1⟩
    rw [Bool.and_eq_true] at h1
    exact ⟨o, ho, h1.2⟩
  · rintro ⟨o, ho, h1⟩
    refine ⟨o, ho, ?_⟩
    rw [h1, Bool.and_true, List.contains_iff_mem]
    obtain ⟨h2, h3⟩ := (mem_ofL hb).1 ho
    unfold Bk.ofB at h3
    simp only [Bool.and_eq_true, decide_eq_true_eq] at h3
    obtain ⟨i, hi⟩ := List.mem_iff_getElem?.1 ((mem_nums hb).2 ⟨o, h2, rfl⟩)
    rw [List.mem_iff_getElem?]
    refine ⟨i, ?_⟩
    obtain ⟨q1, e1⟩ := List.getElem?_eq_some_iff.1 hi
    obtain ⟨q2, e2⟩ := List.getElem?_eq_some_iff.1 h
    rw [List.getElem?_take, if_pos, hi]
    rcases Nat.lt_trichotomy i k with hik | hik | hik
    · exact hik
    · subst hik; rw [e1] at e2; omega
    · have := List.pairwise_iff_getElem.1 (nums_sorted (b := b)) k i q2 q1 hik
      rw [e1, e2] at this; omega
theorem hold_step {b : Bk} (hb : b.ok) {bad : List Int} {k : Nat} {n : Int} (h : b.nums[k]? = some n) : (((b.item (b.get n).src).std || (b.ofL (b.get n).src (b.get n).day n).any fun o => (b.nums.take k).contains o.num && (b.held bad).contains o.num) && !bad.contains n) = (b.held bad).contains n := by
  rw [hold_get hb (List.mem_of_getElem? h), any_take hb h]
theorem get4 {a b c d : AV} {Z : List AV} {n : Nat} : (a :: b :: c :: d :: Z)[4 + n]? = Z[n]? := by rw [Nat.add_comm]; rfl
def hdK (b : Bk) (bad : List Int) (es : List (PV × PV)) (k : Nat) : AS := ⟨[(0, .ptr (.par 0) 0), (3, .ptr (.loc 3 0) 0), (13, .pv (.lst false 1 (b.nums.map intP))), (14, .pv (.int .i64 b.nums.length)), (15, .pv (.int .i64 k))],
  [(.loc 9 0, .map (hEnt b bad k)), (.loc 3 0, .cells [.mp (.loc 9 0)]), (.par 0, .cells (wkC b (.par 1) (badZ bad))), (.par 1, .map es)]⟩
section
attribute [local simp] Box.purge Site.isLoc
set_option maxHeartbeats 16000000 in
theorem held_c (b : Bk) (hb : b.ok) (bad : List Int) (es : List (PV × PV)) (hes : CMap b es) : CallsA Tryz.prog 86 [.ptr (.par 0) 0] (laid 0 (wkB b bad es)) (fun r B => r = .mp (.ret 0) ∧ B = (.ret 0, .map (hEnt b bad b.nums.length)) :: laid 0 (wkB b bad es)) := by
  have hlen := nums_len (b := b)
  refine calls_of_awpB [.loc 9 0, .par 0, .par 1] mixed L86_ok (Nat.le_of_ble_eq_true rfl) ?_
  generalize hR : (fun (r : AV) (B : List (Site × Box)) => r = .mp (.ret 0) ∧ B = (.ret 0, .map (hEnt b bad b.nums.length)) :: laid 0 (wkB b bad es)) = R
  simp [-getElem?_pos, L86, laid, wkB, wkC, badZ_purge, badZ_has]
  refine awp_loopS (fun n τ => ∃ k : Nat, k ≤ b.nums.length ∧ n = b.nums.length - k ∧ τ = hdK b bad es k) ⟨b.nums.length, hdK b bad es 0, Sub.mk (by simp [hdK]) (by simp [hdK, wkC, hEnt, mapI, badZ_purge]), 0, Nat.zero_le _, rfl, rfl⟩ ?_
  rintro J hJ n τ ⟨k, hk, rfl, rfl⟩
  by_cases hlt : k < b.nums.length
  · obtain ⟨x, hx⟩ : ∃ x, b.nums[k]? = some x := ⟨b.nums[k], List.getElem?_eq_getElem hlt⟩
    have hxm := List.mem_of_getElem? hx
    have hgx : (b.nums.map intP)[k]? = some (.int .i64 x) := by rw [List.getElem?_map, hx]; rfl
    have hw := wrapK (k := k) (by omega)
    have hmeas : b.nums.length - (k + 1) < b.nums.length - k := by omega
    obtain ⟨hcm, hcn⟩ := get_num hb hxm
    have hfx := hes.f x
    rw [if_pos hxm] at hfx
    have hko := hes.k
    have hbd := cert_bds hb hcm
    have hround := hJ _ _ ⟨k + 1, hlt, rfl, rfl⟩
    have hput := hEnt_put (bad := bad) hx
    have hst := hold_step hb (bad := bad) hx
    have hkk := (hEnt_map b bad k).k
    have hany := any_take hb hx (fun n => (b.held bad).contains n)
    have hrun := fun is : Bool => hldC_run (b := b) (bad := bad) (es := es) (hH := hEnt_map b bad k) (b.ofL (b.get x).src (b.get x).day x) is
    have hit := fun is : Bool => iter_c (hldC b bad es (hEnt b bad k) _ (hEnt_map b bad k)) b hb bad es hes 4 5 6 (fun c _ => ⟨rfl, rfl⟩) (fun c _ => rfl) (b.get x).src (b.get x).day x is trivial (fun z hz => ⟨z, rfl⟩)
    simp only [hrun, hany] at hit
    rw [hold_step hb hx] at hst
    have hst2 := hold_get hb (bad := bad) hxm
    generalize hAN : ((b.ofL (b.get x).src (b.get x).day x).any fun n => (b.held bad).contains n.num) = an at *
    generalize b.get x = y at *
    obtain ⟨yn, yi, ys, yd, yv, ⟨yl, yh⟩⟩ := y
    simp only at hcn hbd hit hst2
    subst hcn
    unfold Ct.pv at hfx
    obtain ⟨si, rfl⟩ : ∃ si : Nat, ys = si := ⟨ys.toNat, by omega⟩
    obtain ⟨nn, rfl⟩ : ∃ nn : Nat, yn = nn := ⟨yn.toNat, by omega⟩
    have hsi : si < b.items.length := by omega
    have hnn : nn < 1000 := by omega
    obtain ⟨z, hz⟩ : ∃ z, b.items[si]? = some z := ⟨b.items[si], List.getElem?_eq_getElem hsi⟩
    have hgz : (b.items.map It.pv)[si]? = some (.agg [.int .i64 z.drift, .bool z.std, .int .i64 z.val.lo, .int .i64 z.val.hi]) := by rw [List.getElem?_map, hz]; rfl
    have hzi : b.item (si : Int) = z := by unfold Bk.item; rw [Int.toNat_natCast, hz]; rfl
    rw [hzi] at hst2
    have hit' := hit z.std
    clear hit
    simp [-getElem?_pos, -List.getElem?_map, hdK, wkC, hlt, hgx, hko, hfx, itsP, hgz, hsi, badZ_purge, badZ_has, -retB]
    refine call_lent (as' := [.ptr (.par 0) 0, .pv (.int .i64 si), .pv (.int .i64 yd), .pv (.int .i64 nn)]) (B := laid 0 (wkB b bad es)) (fs := []) (cs := []) 41 [.par 0, .par 1] ?_ rfl rfl ?_ ?_ ?_ (of_c b bad es si yd nn) ?_
    · rfl
    · simp [laid, wkB, wkC, itsP, badZ_map, badZ_all]
    · rfl
    · rfl
    rintro r0 B0 ⟨rfl, rfl⟩
    refine ⟨rfl, by simp [laid, wkB, wkC, badZ_all], ?_⟩
    simp [-getElem?_pos, -List.getElem?_map, laid, wkB, wkC, badZ_purge, badZ_has, badZ_map, ofF, -retB]
    refine rng_lent [.loc 64 0, .loc 7 0, .loc 3 0, .loc 9 0, .loc 41 0, .par 0, .par 1] [(3, .ptr (.loc 3 0) 0), (7, .ptr (.loc 7 0) 0)] (gf := 142) (fs := []) (cs := [.ptr (.loc 41 0) 0, .pv (.ref [.int .i64 nn]), .pv (.ref [.int .i64 si]), .pv (.ref [.int .i64 yd])]) ?_ ?_ rfl rfl ?_ ?_ ?_ hit' ?_
    · rfl
    · simp
    · simp [hldC, hldX, laid, wkC, badZ_map, badZ_all, badZ_purge, badZ_has, capB]
    · rfl
    · rfl
    rintro r B' ⟨rfl, rfl⟩
    refine ⟨rfl, ?_, ?_⟩
    · exact fun p hp => laid_ok (n := 7) (L := hldX b bad es (hEnt b bad k) (z.std || an)) (by simp [hldX]) ((hldC b bad es (hEnt b bad k) _ (hEnt_map b bad k)).cl (z.std || an)) p hp
    refine ⟨_, _, _, _, _, rfl, ?_⟩
    have hfold : (z.std || an) = true → (b.held bad).contains (nn : Int) = !bad.contains (nn : Int) := fun h => by rw [hst2, h, Bool.true_and]
    have hfold2 : (z.std || an) = false → (b.held bad).contains (nn : Int) = false := fun h => by rw [hst2, h, Bool.false_and]
    generalize hIS : (z.std || an) = is at *
    have hbz := badZ_get (l := bad) hnn
    cases is
    · rw [hfold2 rfl] at hput
      simp [-getElem?_pos, -List.getElem?_map, hldC, hldX, laid, jumpQ, wkC, badZ_purge, badZ_has, badZ_map, capB, -retB, hIS, hkk, hput, hw]
      exact ⟨_, _, hmeas, Sub.mk (by simp [hdK]) (by simp [hdK, wkC, badZ_purge]), hround⟩
    · have hv := hfold rfl
      cases hbc : bad.contains (nn : Int)
      · rw [hbc] at hv hbz
        simp only [Bool.not_false, Bool.not_true] at hv
        rw [hv] at hput
        simp [-getElem?_pos, -List.getElem?_map, hldC, hldX, laid, jumpQ, wkC, badZ_purge, badZ_has, badZ_map, capB, -retB, hIS, nblt, nble, hnn, get4, hbz, hkk, hput, hw]
        exact ⟨_, _, hmeas, Sub.mk (by simp [hdK]) (by simp [hdK, wkC, badZ_purge]), hround⟩
      · rw [hbc] at hv hbz
        simp only [Bool.not_false, Bool.not_true] at hv
        rw [hv] at hput
        simp [-getElem?_pos, -List.getElem?_map, hldC, hldX, laid, jumpQ, wkC, badZ_purge, badZ_has, badZ_map, capB, -retB, hIS, nblt, nble, hnn, get4, hbz, hkk, hput, hw]
        exact ⟨_, _, hmeas, Sub.mk (by simp [hdK]) (by simp [hdK, wkC, badZ_purge]), hround⟩
  · have he : k = b.nums.length := by omega
    subst he
    clear hJ
    simp [-getElem?_pos, -List.getElem?_map, hdK, wkC, badZ_all, badZ_map, outsOk]
    rw [← hR]
    exact ⟨rfl, by simp [laid, wkB, wkC]⟩
end
end Go.Proofs.YtaffbiibcfeigaaGreat
/-! Contracts of layer 2 (chain): without; copies. -/
namespace Go.Proofs.YtaffbiibcfeigaaGreat
open Go.RowKit
set_option maxRecDepth 10000
set_option linter.unusedSimpArgs false
attribute [local simp] AS.exp expG Box.ren AV.map AV.mapL noRet Site.isRet Box.allS AV.allS AV.allSL dropL AS.adds renL outG outOk lentBx inG fnOf lookA List.findIdx?_cons
attribute [local simp] Box.purge Site.isLoc
end Go.Proofs.YtaffbiibcfeigaaGreat
/-! Contracts of layer 2 (chain): copies; numbers are deleted by a closure. Printed by gen_delc.py. -/
namespace Go.Proofs.YtaffbiibcfeigaaGreat
open Go.RowKit
set_option maxRecDepth 10000
set_option linter.unusedSimpArgs false
section
attribute [local simp] Box.purge Site.isLoc
attribute [local simp] retFz frzL AS.frz AV.frz AV.frzL Box.frz AS.tidy AS.frzC
end
attribute [local simp] AS.exp expG Box.ren AV.map AV.mapL outsOk noRet Site.isRet Box.allS AV.allS AV.allSL retB dropL AS.adds renL outG outOk lentBx inG fnOf lookA List.findIdx?_cons
attribute [local simp] Box.purge Site.isLoc
section
end
end Go.Proofs.YtaffbiibcfeigaaGreat
/-! Contracts of layer 2 (chain): the deletion of Hung. Printed by gen_delc.py. -/
namespace Go.Proofs.YtaffbiibcfeigaaGreat
open Go.RowKit
set_option maxRecDepth 10000
set_option linter.unusedSimpArgs false
attribute [local simp] AS.exp expG Box.ren AV.map AV.mapL outsOk noRet Site.isRet Box.allS AV.allS AV.allSL retB dropL AS.adds renL outG outOk lentBx inG fnOf lookA List.findIdx?_cons
attribute [local simp] Box.purge Site.isLoc
attribute [local simp] badZ_has badZ_all badZ_purge badZ_map
section
end
end Go.Proofs.YtaffbiibcfeigaaGreat
/-! Contracts of layer 2 (chain): Held. -/
namespace Go.Proofs.YtaffbiibcfeigaaGreat
open Go.RowKit
set_option maxRecDepth 10000
set_option linter.unusedSimpArgs false
attribute [local irreducible] Bk.held Bk.nums
attribute [local simp] AS.exp expG Box.ren AV.map AV.mapL outsOk noRet Site.isRet Box.allS AV.allS AV.allSL retB dropL AS.adds renL outG outOk lentBx inG fnOf lookA List.findIdx?_cons
attribute [local simp] Box.purge Site.isLoc
attribute [local simp] badZ_has badZ_all badZ_purge badZ_map badZ_frz
attribute [local simp] retFz frzL AS.frz AV.frz AV.frzL Box.frz AS.tidy AS.frzC
end Go.Proofs.YtaffbiibcfeigaaGreat
/-! Contracts of layer 2 (chain): Hung. -/
namespace Go.Proofs.YtaffbiibcfeigaaGreat
open Go.RowKit
set_option maxRecDepth 10000
set_option linter.unusedSimpArgs false
attribute [local irreducible] Bk.held Bk.nums
theorem nums_bd {b : Bk} (hb : b.ok) : ∀ n ∈ b.nums, 1 ≤ n ∧ n ≤ 999 := fun n hn => by
  obtain ⟨c, hc, rfl⟩ := (mem_nums hb).1 hn
  have := cert_bds hb hc
  omega
attribute [local simp] AS.exp expG Box.ren AV.map AV.mapL outsOk noRet Site.isRet Box.allS AV.allS AV.allSL retB dropL AS.adds renL outG outOk lentBx inG fnOf lookA List.findIdx?_cons
attribute [local simp] Box.purge Site.isLoc
attribute [local simp] badZ_has badZ_all badZ_purge badZ_map badZ_frz
attribute [local simp] retFz frzL AS.frz AV.frz AV.frzL Box.frz AS.tidy AS.frzC
end Go.Proofs.YtaffbiibcfeigaaGreat
/-! Contracts of layer 2's reference and law (chain): lists, what holds. -/
namespace Go.Proofs.YtaffbiibcfeigaaGreat
open Go.RowKit
attribute [local simp] Box.purge Site.isLoc
set_option maxRecDepth 10000
set_option linter.unusedSimpArgs false
theorem pre_next {α : Type} {l : List α} {p : α → Bool} {k : Nat} {x : α} (h : ∀ (j : Nat) (x : α), j < k → l[j]? = some x → p x = true) (hx : l[k]? = some x) (hp : p x = true) : ∀ (j : Nat) (x : α), j < k + 1 → l[j]? = some x → p x = true := fun j y hj hy => by
  rcases Nat.lt_succ_iff_lt_or_eq.1 hj with e | e
  · exact h j y e hy
  · subst e; rw [hx] at hy; cases hy; exact hp
theorem all_no {α : Type} {l : List α} {p : α → Bool} {k : Nat} {x : α} (hx : l[k]? = some x) (hp : p x = false) : l.all p = false := by
  rw [List.all_eq_false]
  exact ⟨x, List.mem_of_getElem? hx, by simp [hp]⟩
theorem all_pre {α : Type} {l : List α} {p : α → Bool} (h : ∀ (j : Nat) (x : α), j < l.length → l[j]? = some x → p x = true) : l.all p = true := by
  rw [List.all_eq_true]
  intro x hx
  obtain ⟨j, hj⟩ := List.mem_iff_getElem?.1 hx
  exact h j x (List.getElem?_eq_some_iff.1 hj).1 hj
def Ct.cells (c : Ct) : List AV := [.pv (.int .i64 c.num), .pv (.int .i64 c.it), .pv (.int .i64 c.src), .pv (.int .i64 c.day), .pv (.int .i64 c.valid), .pv (.int .i64 c.diff.lo), .pv (.int .i64 c.diff.hi)]
theorem item_at {b : Bk} {i : Int} (h0 : 0 ≤ i) (h1 : i < b.items.length) : ∃ j : Nat, i = j ∧ j < b.items.length ∧ ∃ z, b.items[j]? = some z ∧ b.item i = z ∧ (b.items.map It.pv)[j]? = some (.agg [.int .i64 z.drift, .bool z.std, .int .i64 z.val.lo, .int .i64 z.val.hi]) := by
  have hz : b.items[i.toNat]? = some (b.items[i.toNat]'(by omega)) := List.getElem?_eq_getElem _
  refine ⟨i.toNat, by omega, by omega, _, hz, ?_, ?_⟩
  · unfold Bk.item; rw [hz]; rfl
  · rw [List.getElem?_map, hz]; rfl
theorem ct_at {b : Bk} {k : Nat} (h : k < b.certs.length) : ∃ o, b.certs[k]? = some o ∧ o ∈ b.certs ∧ (b.certs.map Ct.pv)[k]? = some (.agg [.int .i64 o.num, .int .i64 o.it, .int .i64 o.src, .int .i64 o.day, .int .i64 o.valid, .int .i64 o.diff.lo, .int .i64 o.diff.hi]) := by
  have hz : b.certs[k]? = some (b.certs[k]'h) := List.getElem?_eq_getElem _
  exact ⟨_, hz, List.mem_of_getElem? hz, by rw [List.getElem?_map, hz]; rfl⟩
theorem thin_c (b : Bk) : Gives Tryz.prog 7 [b.pv] (.bool (decide (b.items.length ≤ 10) && decide (b.certs.length ≤ 28))) := by
  refine calls_of_awpS mixed L7_ok (Nat.le_of_ble_eq_true rfl) ?_
  have e1 : decide ((b.items.length : Int) ≤ 10) = decide (b.items.length ≤ 10) := by rw [Bool.eq_iff_iff]; simp; omega
  have e2 : decide ((b.certs.length : Int) ≤ 28) = decide (b.certs.length ≤ 28) := by rw [Bool.eq_iff_iff]; simp; omega
  cases h1 : decide (b.items.length ≤ 10)
  · rw [h1] at e1
    simp [-getElem?_pos, -decide_eq_true_eq, -decide_eq_false_iff_not, L7, Bk.pv, itsP, ctsP, e1]
  · rw [h1] at e1
    simp [-getElem?_pos, -decide_eq_true_eq, -decide_eq_false_iff_not, L7, Bk.pv, itsP, ctsP, e1, e2]
section
attribute [local simp] retFz frzL AS.frz AV.frz AV.frzL Box.frz AS.tidy AS.frzC
end
end Go.Proofs.YtaffbiibcfeigaaGreat
