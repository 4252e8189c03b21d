/- Contracts of layer 2 (chain): the certificates of an item, one after the other, for any loop. (Several texts in one.) -/
import Derived.Test.YtcgdopjmbadonaaChB
import Derived.Test.YtcgdopjmbadonaaChA
set_option linter.unusedVariables false
set_option linter.unusedSimpArgs false
/-! Contracts of layer 2 (chain): the certificates of an item, one after the other, for any loop. -/
namespace Go.Proofs.Ytcgdopjmbadonaa
open Go.RowKit
set_option maxRecDepth 10000
set_option linter.unusedSimpArgs false
/-- A loop over what an iterator hands out: its boxes by its state; a round: the next state, goes it on? -/
structure Cons (P : Program) where
  m : Nat
  S : Type
  X : S → List Box
  step : S → PV → S × Bool
  good : PV → Prop
  live : S → Prop
  m0 : 0 < m
  len : ∀ s, (X s).length = m
  cl : ∀ s, closedB m (X s)
  yields : ∀ s x, live s → good x → YieldsA P 0 [.pv x] (laid 0 (X s)) (fun r B => r = .pv (.bool (step s x).2) ∧ B = laid 0 (X (step s x).1))
  goes : ∀ s x, live s → good x → (step s x).2 = true → live (step s x).1
def Cons.run {P : Program} (C : Cons P) : C.S → List PV → C.S × Bool
  | s, [] => (s, true)
  | s, x :: r => match (C.step s x).2 with
    | true => C.run (C.step s x).1 r
    | false => ((C.step s x).1, false)
theorem Cons.run_app {P : Program} {C : Cons P} : ∀ (a b : List PV) (s : C.S), C.run s (a ++ b) = match (C.run s a).2 with
    | true => C.run (C.run s a).1 b
    | false => C.run s a
  | [], b, s => rfl
  | x :: a, b, s => by
    rw [List.cons_append, Cons.run, Cons.run]
    split
    · exact Cons.run_app a b _
    · rfl
theorem Cons.run_one {P : Program} {C : Cons P} (s : C.S) (x : PV) : C.run s [x] = C.step s x := by
  rw [Cons.run]
  split
  · rename_i h; rw [Cons.run]; exact Prod.ext rfl h.symm
  · rename_i h; exact Prod.ext rfl h.symm
theorem laid_purgeC {P : Program} {C : Cons P} {c : C.S} {k : Nat} : ((laid 0 (C.X c)).filter fun p => !p.1.isLoc k).map (fun p => (p.1, p.2.purge k)) = laid 0 (C.X c) := laid_purge (C.cl c)
theorem laid_outC {P : Program} {C : Cons P} {c : C.S} : (laid 0 (C.X c)).filter (fun p => !p.1.lt C.m) = [] := laid_out (by rw [C.len]; omega)
theorem sees_laid0 {tm : List (Nat × AV)} {X : List Box} : sees ⟨tm, laid 0 X⟩ X := by
  have := sees_laid (tm := tm) (X := X) (r := [])
  rwa [List.append_nil] at this
/-- Which certificates are bad, by their numbers. -/
def badZ (l : List Int) : List AV := (List.range 1000).map fun i : Nat => .pv (.bool (l.contains (i : Int)))
theorem badZ_get {l : List Int} {n : Nat} (h : n < 1000) : (badZ l)[n]? = some (.pv (.bool (l.contains (n : Int)))) := by
  unfold badZ
  rw [List.getElem?_map, List.getElem?_range h]; rfl
theorem badZ_nil : bad0 = badZ [] := by
  refine List.ext_getElem? (fun n => ?_)
  unfold bad0 badZ
  rw [List.getElem?_map]
  by_cases h : n < 1000
  · rw [List.getElem?_range h, List.getElem?_replicate, if_pos h]; rfl
  · rw [List.getElem?_replicate, if_neg h, List.getElem?_eq_none (by rw [List.length_range]; omega)]; rfl
theorem badZ_set {l : List Int} {n : Nat} (h : n < 1000) : (badZ l).set n (.pv (.bool true)) = badZ (l ++ [(n : Int)]) := by
  refine List.ext_getElem? (fun k => ?_)
  by_cases hk : k < 1000
  · rw [List.getElem?_set, badZ_get hk, badZ_get hk]
    by_cases e : n = k
    · subst e
      rw [if_pos rfl, if_pos (by unfold badZ; rw [List.length_map, List.length_range]; exact h)]
      simp
    · rw [if_neg e]
      congr 3
      rw [Bool.eq_iff_iff, List.contains_iff_mem, List.contains_iff_mem, List.mem_append]
      constructor
      · exact .inl
      · rintro (h | h)
        · exact h
        · simp at h; omega
  · rw [List.getElem?_eq_none (by unfold badZ; simp; omega), List.getElem?_eq_none (by unfold badZ; simp; omega)]
theorem badZ_len {l : List Int} : (badZ l).length = 1000 := by unfold badZ; simp
theorem mapPV_has {α : Type} {f : α → PV} {d : Nat} : ∀ l : List α, AV.hasL d (l.map fun x => .pv (f x)) = false
  | [] => rfl
  | x :: l => by rw [List.map_cons]; simp only [AV.hasL, AV.has, mapPV_has l]; rfl
theorem mapPV_all {α : Type} {f : α → PV} {q : Site → Bool} : ∀ l : List α, AV.allSL q (l.map fun x => .pv (f x)) = true
  | [] => rfl
  | x :: l => by rw [List.map_cons]; simp only [AV.allSL, AV.allS, mapPV_all l]; rfl
theorem mapPV_purge {α : Type} {f : α → PV} {d : Nat} (l : List α) : (l.map fun x => AV.pv (f x)).map (AV.purge d) = l.map fun x => .pv (f x) := by
  rw [List.map_map]; rfl
theorem mapPV_map {α : Type} {f : α → PV} {g : Site → Site} : ∀ l : List α, AV.mapL g (l.map fun x => .pv (f x)) = l.map fun x => .pv (f x)
  | [] => rfl
  | x :: l => by rw [List.map_cons]; simp only [AV.mapL, AV.map, mapPV_map l]
theorem badZ_has {l : List Int} (d : Nat) : AV.hasL d (badZ l) = false := mapPV_has _
theorem badZ_all {l : List Int} (q : Site → Bool) : AV.allSL q (badZ l) = true := mapPV_all _
theorem badZ_purge {l : List Int} (d : Nat) : (badZ l).map (AV.purge d) = badZ l := mapPV_purge _
theorem badZ_map {l : List Int} (g : Site → Site) : AV.mapL g (badZ l) = badZ l := mapPV_map _
/-- Frozen boxes, and boxes handed out, chosen at the end. -/
theorem retG_wp {fz outs : List Site} {rs : List LRes} {R : AV → List (Site × Box) → Prop} {σ : AS} (h : retB outs rs R (frzL fz σ)) : retWp rs R σ := by
  obtain ⟨l, h1, h2, h3, h4, h5⟩ := h
  exact ⟨fz, outs, l, h1, h2, h3, fun s hs b hb => outsOk_get h4 s hs b hb, h5⟩
theorem calls_of_awpG {P : Program} (fz outs : List Site) {f : FuncId} {F : LFn} {args : List AV} {B : List (Site × Box)} {R : AV → List (Site × Box) → Prop} (hm : P.follows .mixedOrders = true) (hf : litF P f = some F) (hn : args.length ≤ F.nt)
    (h : awpS P F.code (finQ (fun σ => retB outs F.res R (frzL fz σ))) ⟨initT 0 args, B⟩) : CallsA P f args B R := calls_of_awp_gen hm hf hn (fun _ h => retG_wp h) (awpS_wp h)
section
attribute [local simp] Box.purge Site.isLoc
attribute [local simp] retFz frzL AS.frz AV.frz AV.frzL Box.frz AS.tidy AS.frzC
/-- A book that is worked on, among boxes. -/
structure WAt (b : Bk) (bad : List Int) (es : List (PV × PV)) (X : List Box) (jw jm : Nat) : Prop where
  w : X[jw]? = some (.cells (wkC b (.par jm) (badZ bad)))
  m : X[jm]? = some (.map es)
/-- The iterator over the certificates of an item. -/
def ofF (s : Site) (item day below : Int) : AV := .fn 90 [] [.ptr s 0, .pv (.ref [.int .i64 below]), .pv (.ref [.int .i64 item]), .pv (.ref [.int .i64 day])]
attribute [local simp] AS.exp expG Box.ren AV.map AV.mapL noRet Site.isRet Box.allS AV.allS AV.allSL
theorem badZ_frz {l : List Int} {s : Site} {n : Nat} {xs : List PV} : AV.frzL s n xs (badZ l) = badZ l := by
  have : ∀ k : List Nat, AV.frzL s n xs (k.map fun i : Nat => .pv (.bool (l.contains (i : Int)))) = k.map fun i : Nat => .pv (.bool (l.contains (i : Int))) := fun k => by
    induction k with
    | nil => rfl
    | cons x k ih => rw [List.map_cons]; simp only [AV.frzL, AV.frz, ih]
  exact this _
def wkB (b : Bk) (bad : List Int) (es : List (PV × PV)) : List Box := [.cells (wkC b (.par 1) (badZ bad)), .map es]
theorem of_c (b : Bk) (bad : List Int) (es : List (PV × PV)) (item day below : Int) : CallsA Try.prog 66 [.ptr (.par 0) 0, .pv (.int .i64 item), .pv (.int .i64 day), .pv (.int .i64 below)] (laid 0 (wkB b bad es)) (fun r B => r = ofF (.ret 0) item day below ∧ B = (.ret 0, .cells [.ptr (.par 0) 0]) :: laid 0 (wkB b bad es)) := by
  refine calls_of_awpG [.loc 5 0, .loc 6 0, .loc 7 0] [.loc 4 0, .par 0, .par 1] mixed L66_ok (Nat.le_of_ble_eq_true rfl) ?_
  generalize hR : (fun (r : AV) (B : List (Site × Box)) => r = ofF (.ret 0) item day below ∧ B = (.ret 0, .cells [.ptr (.par 0) 0]) :: laid 0 (wkB b bad es)) = R
  simp [-getElem?_pos, L66, laid, wkB, wkC, unpvs, fnA, badZ_has, badZ_purge, badZ_frz]
  simp [retB, outsOk, badZ_has, badZ_purge, badZ_frz, badZ_all, badZ_map, List.findIdx?_cons]
  rw [← hR]
  refine ⟨rfl, ?_⟩
  simp [laid, wkB, wkC]
end
attribute [local simp] isLoc_loc isLoc_par isLoc_ret purge_cells purge_map purge_arr purge_loop laid_purgeC
attribute [local simp] AV.map AV.mapL noRet Site.isRet Box.allS AV.allS AV.allSL AS.adds
def ctsV (l : List Ct) : List PV := l.map Ct.pv
def Bk.ofK (b : Bk) (item day below : Int) (k : Nat) : List Ct := ((b.nums.take k).map b.get).filter (Bk.ofB item day below)
theorem ofK_next {b : Bk} {item day below : Int} {k : Nat} {n : Int} (h : b.nums[k]? = some n) : b.ofK item day below (k + 1) = b.ofK item day below k ++ (if Bk.ofB item day below (b.get n) = true then [b.get n] else []) := by
  unfold Bk.ofK
  rw [List.take_add_one, h, List.map_append, List.filter_append]
  congr 1
  simp only [Option.toList, List.map_cons, List.map_nil, List.filter_cons, List.filter_nil]
theorem ofK_all {b : Bk} {item day below : Int} (k : Nat) : b.ofL item day below = b.ofK item day below k ++ ((b.nums.drop k).map b.get).filter (Bk.ofB item day below) := by
  unfold Bk.ofK Bk.ofL
  rw [← List.filter_append, ← List.map_append, List.take_append_drop]
theorem ofK_full {b : Bk} {item day below : Int} : b.ofK item day below b.nums.length = b.ofL item day below := by
  unfold Bk.ofK Bk.ofL
  rw [List.take_length]
theorem nums_len {b : Bk} : b.nums.length ≤ 1000 := by
  unfold Bk.nums
  rw [List.length_map]
  exact Nat.le_trans (List.length_filter_le _ _) (by rw [List.length_range]; exact Nat.le_refl _)
theorem laid_at {X : List Box} {j : Nat} {b : Box} (h : X[j]? = some b) : (laid 0 X).lookup (.par j) = some b := by
  have := laid_get X 0 j
  rw [Nat.zero_add] at this
  rw [this, h]
set_option maxHeartbeats 8000000 in
theorem iter_c (C : Cons Try.prog) (b : Bk) (hb : b.ok) (bad : List Int) (es : List (PV × PV)) (hes : CMap b es) (j0 jw jm : Nat) (hW : ∀ c, C.live c → WAt b bad es (C.X c) jw jm) (h0 : ∀ c, C.live c → (C.X c)[j0]? = some (.cells [.ptr (.par jw) 0]))
    (item day below : Int) (c : C.S) (hc : C.live c) (hg : ∀ x ∈ b.ofL item day below, C.good x.pv) :
    CallsA Try.prog 90 [.yld (.par 0), .ptr (.par j0) 0, .pv (.ref [.int .i64 below]), .pv (.ref [.int .i64 item]), .pv (.ref [.int .i64 day])] (laid 0 (C.X c)) (fun r B => r = .pv (.tup []) ∧ B = laid 0 (C.X (C.run c (ctsV (b.ofL item day below))).1)) := by
  have hlen := nums_len (b := b)
  refine calls_of_awpB (parsN C.m) mixed L90_ok (Nat.le_of_ble_eq_true rfl) ?_
  generalize hR : (fun (r : AV) (B : List (Site × Box)) => r = .pv (.tup []) ∧ B = laid 0 (C.X (C.run c (ctsV (b.ofL item day below))).1)) = R
  have k0 := laid_at (h0 c hc)
  have kw := laid_at (hW c hc).w
  simp [-getElem?_pos, L90, k0, kw, wkC]
  refine awp_loopS (fun n τ => ∃ (k : Nat) (c' : C.S), k ≤ b.nums.length ∧ n = b.nums.length - k ∧ C.run c (ctsV (b.ofK item day below k)) = (c', true) ∧ C.live c' ∧ τ = ⟨[(0, .yld (.par 0)), (1, .ptr (.par j0) 0), (2, .pv (.ref [.int .i64 below])), (3, .pv (.ref [.int .i64 item])), (4, .pv (.ref [.int .i64 day])), (12, .pv (.lst false 1 (b.nums.map intP))), (13, .pv (.int .i64 b.nums.length)), (14, .pv (.int .i64 k))], laid 0 (C.X c')⟩)
    ⟨b.nums.length, ⟨[(0, .yld (.par 0)), (1, .ptr (.par j0) 0), (2, .pv (.ref [.int .i64 below])), (3, .pv (.ref [.int .i64 item])), (4, .pv (.ref [.int .i64 day])), (12, .pv (.lst false 1 (b.nums.map intP))), (13, .pv (.int .i64 b.nums.length)), (14, .pv (.int .i64 0))], laid 0 (C.X c)⟩, Sub.mk (by simp) (subB_sees sees_laid0), 0, c, Nat.zero_le _, rfl, by simp [Bk.ofK, ctsV, Cons.run], hc, rfl⟩ ?_
  rintro J hJ n τ ⟨k, c', hk, rfl, hrun, hlive, rfl⟩
  have k0 := laid_at (h0 c' hlive)
  have kw := laid_at (hW c' hlive).w
  have km := laid_at (hW c' hlive).m
  unfold wkC at kw
  by_cases hlt : k < b.nums.length
  · obtain ⟨x, hx⟩ : ∃ x, b.nums[k]? = some x := ⟨b.nums[k], List.getElem?_eq_getElem hlt⟩
    have hxm := List.mem_of_getElem? hx
    have hgx : (b.nums.map intP)[k]? = some (.int .i64 x) := by rw [List.getElem?_map, hx]; rfl
    have hw := wrapK (k := k) (by omega)
    have hmeas : b.nums.length - (k + 1) < b.nums.length - k := by omega
    obtain ⟨hcm, hcn⟩ := get_num hb hxm
    have hfx := hes.f x
    rw [if_pos hxm] at hfx
    have hko := hes.k
    have hnx := ofK_next (item := item) (day := day) (below := below) hx
    have hbd := cert_bds hb hcm
    have hon := con_c (b.get x) day (by rw [wrap64 (by omega)])
    have hin : Bk.ofB item day below (b.get x) = true → b.get x ∈ b.ofL item day below := fun h => (mem_ofL hb).2 ⟨hcm, h⟩
    have hskip : Bk.ofB item day below (b.get x) = false → J (b.nums.length - (k + 1)) ⟨[(0, .yld (.par 0)), (1, .ptr (.par j0) 0), (2, .pv (.ref [.int .i64 below])), (3, .pv (.ref [.int .i64 item])), (4, .pv (.ref [.int .i64 day])), (12, .pv (.lst false 1 (b.nums.map intP))), (13, .pv (.int .i64 b.nums.length)), (14, .pv (.int .i64 (k + 1 : Nat)))], laid 0 (C.X c')⟩ := fun h => by
      rw [if_neg (by simp [h]), List.append_nil] at hnx
      exact hJ _ _ ⟨k + 1, c', hlt, rfl, by rw [hnx]; exact hrun, hlive, rfl⟩
    have hB : Bk.ofB item day below (b.get x) = (decide (x < below) && (decide ((b.get x).it = item) && (b.get x).on day)) := by unfold Bk.ofB; rw [hcn]
    generalize b.get x = y at *
    obtain ⟨yn, yi, ys, yd, yv, ⟨yl, yh⟩⟩ := y
    simp only at hcn
    subst hcn
    unfold Ct.pv at hfx hon
    simp only at hB
    cases e1 : decide (yn < below)
    · rw [e1, Bool.false_and] at hB
      simp [-getElem?_pos, -List.getElem?_map, -decide_eq_true_eq, -decide_eq_false_iff_not, hlt, hgx, k0, kw, km, hko, hfx, lookA, e1, hw]
      exact ⟨_, _, hmeas, Sub.mk (by simp) (subB_sees (by repeat (first | exact sees_laid0 | exact sees_laid | refine sees_skip rfl ?_))), hskip hB⟩
    rw [e1, Bool.true_and] at hB
    cases e2 : decide (yi = item)
    · rw [e2, Bool.false_and] at hB
      simp [-getElem?_pos, -List.getElem?_map, -decide_eq_true_eq, -decide_eq_false_iff_not, hlt, hgx, k0, kw, km, hko, hfx, lookA, e1, e2, hw]
      exact ⟨_, _, hmeas, Sub.mk (by simp) (subB_sees (by repeat (first | exact sees_laid0 | exact sees_laid | refine sees_skip rfl ?_))), hskip hB⟩
    rw [e2, Bool.true_and] at hB
    simp [-getElem?_pos, -List.getElem?_map, -decide_eq_true_eq, -decide_eq_false_iff_not, hlt, hgx, k0, kw, km, hko, hfx, lookA, e1, e2, hw]
    refine call_gives (k := 0) (fs := []) (xs := [.agg [.int .i64 yn, .int .i64 yi, .int .i64 ys, .int .i64 yd, .int .i64 yv, .int .i64 yl, .int .i64 yh], .int .i64 day]) (cs := []) rfl rfl hon rfl ?_
    cases e3 : Ct.on ⟨yn, yi, ys, yd, yv, ⟨yl, yh⟩⟩ day
    · rw [e3] at hB
      simp [-getElem?_pos, -List.getElem?_map, -decide_eq_true_eq, -decide_eq_false_iff_not, hw]
      exact ⟨_, _, hmeas, Sub.mk (by simp) (subB_sees (by repeat (first | exact sees_laid0 | exact sees_laid | refine sees_skip rfl ?_))), hskip hB⟩
    rw [e3] at hB
    have hgood := hg _ (hin hB)
    rw [if_pos hB] at hnx
    simp [-getElem?_pos, -List.getElem?_map, -decide_eq_true_eq, -decide_eq_false_iff_not]
    refine yield_pars 41 C.m (C.X c') rfl C.m0 (C.len c') (by repeat (first | exact sees_laid0 | exact sees_laid | refine sees_skip rfl ?_)) (C.cl c') rfl (C.yields c' (Ct.pv ⟨yn, yi, ys, yd, yv, ⟨yl, yh⟩⟩) hlive hgood) ?_
    rintro r B ⟨rfl, rfl⟩
    refine ⟨C.X (C.step c' (Ct.pv ⟨yn, yi, ys, yd, yv, ⟨yl, yh⟩⟩)).1, rfl, C.len _, C.cl _, rfl, ?_⟩
    have hstep : C.run c (ctsV (b.ofK item day below (k + 1))) = C.step c' (Ct.pv ⟨yn, yi, ys, yd, yv, ⟨yl, yh⟩⟩) := by
      rw [hnx, ctsV, List.map_append, Cons.run_app]
      rw [show List.map Ct.pv (b.ofK item day below k) = ctsV (b.ofK item day below k) from rfl, hrun]
      exact Cons.run_one c' _
    cases hs : (C.step c' (Ct.pv ⟨yn, yi, ys, yd, yv, ⟨yl, yh⟩⟩)).2
    · simp [-getElem?_pos, -List.getElem?_map, laid_outC]
      refine retB_pars (L := C.X (C.step c' (Ct.pv ⟨yn, yi, ys, yd, yv, ⟨yl, yh⟩⟩)).1) rfl rfl (C.len _) (by repeat (first | exact sees_laid0 | exact sees_laid | refine sees_skip rfl ?_)) (C.cl _) ?_
      rw [← hR]
      refine ⟨rfl, ?_⟩
      have hall : C.run c (ctsV (b.ofL item day below)) = C.step c' (Ct.pv ⟨yn, yi, ys, yd, yv, ⟨yl, yh⟩⟩) := by
        rw [ofK_all (k + 1), ctsV, List.map_append, Cons.run_app]
        rw [show List.map Ct.pv (b.ofK item day below (k + 1)) = ctsV (b.ofK item day below (k + 1)) from rfl, hstep, hs]
      rw [hall]
    · have hround := hJ _ _ ⟨k + 1, (C.step c' (Ct.pv ⟨yn, yi, ys, yd, yv, ⟨yl, yh⟩⟩)).1, hlt, rfl, by rw [hstep]; exact Prod.ext rfl hs, C.goes _ _ hlive hgood hs, rfl⟩
      simp [-getElem?_pos, -List.getElem?_map, laid_outC, hw]
      exact ⟨_, _, hmeas, Sub.mk (by simp) (subB_sees (by repeat (first | exact sees_laid0 | exact sees_laid | refine sees_skip rfl ?_))), hround⟩
  · have he : k = b.nums.length := by omega
    subst he
    simp [-getElem?_pos, -List.getElem?_map]
    refine retB_pars (L := C.X c') rfl rfl (C.len _) sees_laid0 (C.cl _) ?_
    rw [← hR]
    exact ⟨rfl, by rw [ofK_full] at hrun; rw [hrun]⟩
end Go.Proofs.Ytcgdopjmbadonaa
/-! Contracts of layer 2 (chain): held. -/
namespace Go.Proofs.Ytcgdopjmbadonaa
open Go.RowKit
set_option maxRecDepth 10000
set_option linter.unusedSimpArgs false
theorem cok51 : COk Try.prog (tyOf tys) L51.code := litF_ok L51_ok L51_tab
/-- A map from numbers to truth. -/
structure HMap (H : Int → Bool) (hs : List (PV × PV)) : Prop where
  k : keysOk kI hs = true
  f : ∀ n : Int, (findV (.int .i64 n) hs).getD (.bool false) = .bool (H n)
def numOf : PV → Int
  | .agg (.int _ n :: _) => n
  | _ => 0
def capB (s : Site) : Box := .cells [.ptr s 0]
noncomputable def hldX (b : Bk) (bad : List Int) (es hs : List (PV × PV)) (is : Bool) : List Box := [.loop (rcode Try.prog 51 0) [42] 64 [(3, .ptr (.par 2) 0), (7, .ptr (.par 1) 0)] none,
  .cells [.pv (.bool is)], .cells [.mp (.par 3)], .map hs, capB (.par 5), .cells (wkC b (.par 6) (badZ bad)), .map es]
attribute [local simp] AS.exp expG Box.ren AV.map AV.mapL outsOk noRet Site.isRet Box.allS AV.allS AV.allSL retB dropL AS.adds renL outG outOk lentBx inG fnOf lookA List.findIdx?_cons
section
attribute [local simp] Box.purge Site.isLoc
set_option maxHeartbeats 8000000 in
noncomputable def hldC (b : Bk) (bad : List Int) (es hs : List (PV × PV)) (H : Int → Bool) (hH : HMap H hs) : Cons Try.prog where
  m := 7
  S := Bool
  X := hldX b bad es hs
  step is x := (is || H (numOf x), true)
  good x := ∃ c : Ct, x = c.pv
  live _ := True
  m0 := by omega
  len _ := rfl
  cl c := by
    intro bx hb
    simp only [hldX, List.mem_cons, List.not_mem_nil, or_false] at hb
    rcases hb with rfl | rfl | rfl | rfl | rfl | rfl | rfl
    · rfl
    · rfl
    · rfl
    · rfl
    · rfl
    · simp [wkC, Site.lt, badZ_all]
    · rfl
  goes _ _ _ _ _ := trivial
  yields c x hc hx := by
    obtain ⟨y, rfl⟩ := hx
    have hcok : COk Try.prog (tyOf tys) (.rng 64 (.t 41) (rcode Try.prog 51 0) Y51_0a Y51_0b [42]) := cok51.2.2.1.2.2.2.1.2.2.2.1.2
    have hf := hH.f y.num
    have hk := hH.k
    refine yields_of_awpS mixed hcok.1 hcok.2.1 rfl rfl (by simp) rfl ?_
    cases c
    all_goals
      simp [-getElem?_pos, Y51_0a, Y51_0b, hldX, laid, putL, Ct.pv, hk, hf, numOf, capB, wkC, badZ_purge, badZ_has]
      exact ⟨[], [.par 1, .par 2, .par 3, .par 4, .par 5, .par 6], rfl, rfl, by simp [frzL, badZ_all], rfl, by simp [frzL, badZ_map]⟩
end
theorem hldC_run {b : Bk} {bad : List Int} {es hs : List (PV × PV)} {H : Int → Bool} {hH : HMap H hs} : ∀ (l : List Ct) (c : Bool), (hldC b bad es hs H hH).run c (ctsV l) = (c || l.any (fun o => H o.num), true)
  | [], c => by
    show (c, true) = _
    simp
  | x :: l, c => by
    show (hldC b bad es hs H hH).run (c || H x.num) (ctsV l) = _
    rw [hldC_run l, List.any_cons, Bool.or_assoc]
theorem heldIn {b : Bk} (hb : b.ok) {bad : List Int} {n : Int} (h : n ∈ b.held bad) : n ∈ b.nums := by
  obtain ⟨c, hc, e, _⟩ := (mem_held hb).1 h
  exact (mem_nums hb).2 ⟨c, hc, e⟩
def hEnt (b : Bk) (bad : List Int) (k : Nat) : List (PV × PV) := mapI id (fun n => .bool ((b.held bad).contains n)) (b.nums.take k)
theorem find_id {l : List Int} {n : Int} : (l.find? fun c => decide (id c = n)) = if n ∈ l then some n else none := by
  induction l with
  | nil => rfl
  | cons x l ih =>
    rw [List.find?_cons]
    by_cases h : x = n
    · subst h
      rw [show decide (id x = x) = true from by simp, if_pos (by simp)]
    · rw [show decide (id x = n) = false from by simpa using h, ih]
      by_cases hm : n ∈ l
      · rw [if_pos hm, if_pos (by simp [hm])]
      · rw [if_neg hm, if_neg (by simp [hm]; omega)]
theorem hEnt_map (b : Bk) (bad : List Int) (k : Nat) : HMap (fun n => (b.nums.take k).contains n && (b.held bad).contains n) (hEnt b bad k) := by
  refine ⟨keys_mapI, fun n => ?_⟩
  unfold hEnt
  rw [find_mapI, find_id]
  by_cases h : n ∈ b.nums.take k
  · rw [if_pos h, List.contains_iff_mem.2 h, Bool.true_and]; rfl
  · rw [if_neg h]
    cases hc : (b.nums.take k).contains n
    · rfl
    · exact absurd (List.contains_iff_mem.1 hc) h
theorem hEnt_full {b : Bk} (hb : b.ok) (bad : List Int) : HMap (fun n => (b.held bad).contains n) (hEnt b bad b.nums.length) := by
  have h := hEnt_map b bad b.nums.length
  refine ⟨h.k, fun n => ?_⟩
  rw [h.f n, List.take_length]
  cases hc : (b.held bad).contains n
  · simp
  · rw [List.contains_iff_mem.2 (heldIn hb (List.contains_iff_mem.1 hc))]; rfl
theorem hEnt_put {b : Bk} {bad : List Int} {k : Nat} {n : Int} (h : b.nums[k]? = some n) : putK (.int .i64 n) (.bool ((b.held bad).contains n)) (hEnt b bad k) = hEnt b bad (k + 1) := by
  unfold hEnt
  rw [put_mapI (fun x hx => ?_), List.take_add_one, h]
  · unfold mapI; rw [List.map_append]; rfl
  · obtain ⟨i, hi⟩ := List.mem_iff_getElem?.1 hx
    rw [List.getElem?_take] at hi
    split at hi
    · rename_i hik
      obtain ⟨h1, e1⟩ := List.getElem?_eq_some_iff.1 hi
      obtain ⟨h2, e2⟩ := List.getElem?_eq_some_iff.1 h
      have := List.pairwise_iff_getElem.1 (nums_sorted (b := b)) i k h1 h2 hik
      rw [e1, e2] at this
      show x ≠ n
      omega
    · cases hi
/-- At a number: what its certificate says of holding, by the numbers so far. -/
theorem any_take {b : Bk} (hb : b.ok) {k : Nat} {n : Int} (h : b.nums[k]? = some n) (H : Int → Bool) : ((b.ofL (b.get n).src (b.get n).day n).any fun o => (b.nums.take k).contains o.num && H o.num) = (b.ofL (b.get n).src (b.get n).day n).any fun o => H o.num := by
  rw [Bool.eq_iff_iff, List.any_eq_true, List.any_eq_true]
  constructor
  · rintro ⟨o, ho, h1⟩
    rw [Bool.and_eq_true] at h1
    exact ⟨o, ho, h1.2⟩
  · rintro ⟨o, ho, h1⟩
    refine ⟨o, ho, ?_⟩
    rw [h1, Bool.and_true, List.contains_iff_mem]
    obtain ⟨h2, h3⟩ := (mem_ofL hb).1 ho
    unfold Bk.ofB at h3
    simp only [Bool.and_eq_true, decide_eq_true_eq] at h3
    obtain ⟨i, hi⟩ := List.mem_iff_getElem?.1 ((mem_nums hb).2 ⟨o, h2, rfl⟩)
    rw [List.mem_iff_getElem?]
    refine ⟨i, ?_⟩
    obtain ⟨q1, e1⟩ := List.getElem?_eq_some_iff.1 hi
    obtain ⟨q2, e2⟩ := List.getElem?_eq_some_iff.1 h
    rw [List.getElem?_take, if_pos, hi]
    rcases Nat.lt_trichotomy i k with hik | hik | hik
    · exact hik
    · subst hik; rw [e1] at e2; omega
    · have := List.pairwise_iff_getElem.1 (nums_sorted (b := b)) k i q2 q1 hik
      rw [e1, e2] at this; omega
theorem hold_step {b : Bk} (hb : b.ok) {bad : List Int} {k : Nat} {n : Int} (h : b.nums[k]? = some n) : (((b.item (b.get n).src).std || (b.ofL (b.get n).src (b.get n).day n).any fun o => (b.nums.take k).contains o.num && (b.held bad).contains o.num) && !bad.contains n) = (b.held bad).contains n := by
  rw [hold_get hb (List.mem_of_getElem? h), any_take hb h]
theorem get4 {a b c d : AV} {Z : List AV} {n : Nat} : (a :: b :: c :: d :: Z)[4 + n]? = Z[n]? := by rw [Nat.add_comm]; rfl
def hdK (b : Bk) (bad : List Int) (es : List (PV × PV)) (k : Nat) : AS := ⟨[(0, .ptr (.par 0) 0), (3, .ptr (.loc 3 0) 0), (13, .pv (.lst false 1 (b.nums.map intP))), (14, .pv (.int .i64 b.nums.length)), (15, .pv (.int .i64 k))],
  [(.loc 9 0, .map (hEnt b bad k)), (.loc 3 0, .cells [.mp (.loc 9 0)]), (.par 0, .cells (wkC b (.par 1) (badZ bad))), (.par 1, .map es)]⟩
section
attribute [local simp] Box.purge Site.isLoc
set_option maxHeartbeats 16000000 in
theorem held_c (b : Bk) (hb : b.ok) (bad : List Int) (es : List (PV × PV)) (hes : CMap b es) : CallsA Try.prog 51 [.ptr (.par 0) 0] (laid 0 (wkB b bad es)) (fun r B => r = .mp (.ret 0) ∧ B = (.ret 0, .map (hEnt b bad b.nums.length)) :: laid 0 (wkB b bad es)) := by
  have hlen := nums_len (b := b)
  refine calls_of_awpB [.loc 9 0, .par 0, .par 1] mixed L51_ok (Nat.le_of_ble_eq_true rfl) ?_
  generalize hR : (fun (r : AV) (B : List (Site × Box)) => r = .mp (.ret 0) ∧ B = (.ret 0, .map (hEnt b bad b.nums.length)) :: laid 0 (wkB b bad es)) = R
  simp [-getElem?_pos, L51, laid, wkB, wkC, badZ_purge, badZ_has]
  refine awp_loopS (fun n τ => ∃ k : Nat, k ≤ b.nums.length ∧ n = b.nums.length - k ∧ τ = hdK b bad es k) ⟨b.nums.length, hdK b bad es 0, Sub.mk (by simp [hdK]) (by simp [hdK, wkC, hEnt, mapI, badZ_purge]), 0, Nat.zero_le _, rfl, rfl⟩ ?_
  rintro J hJ n τ ⟨k, hk, rfl, rfl⟩
  by_cases hlt : k < b.nums.length
  · obtain ⟨x, hx⟩ : ∃ x, b.nums[k]? = some x := ⟨b.nums[k], List.getElem?_eq_getElem hlt⟩
    have hxm := List.mem_of_getElem? hx
    have hgx : (b.nums.map intP)[k]? = some (.int .i64 x) := by rw [List.getElem?_map, hx]; rfl
    have hw := wrapK (k := k) (by omega)
    have hmeas : b.nums.length - (k + 1) < b.nums.length - k := by omega
    obtain ⟨hcm, hcn⟩ := get_num hb hxm
    have hfx := hes.f x
    rw [if_pos hxm] at hfx
    have hko := hes.k
    have hbd := cert_bds hb hcm
    have hround := hJ _ _ ⟨k + 1, hlt, rfl, rfl⟩
    have hput := hEnt_put (bad := bad) hx
    have hst := hold_step hb (bad := bad) hx
    have hkk := (hEnt_map b bad k).k
    have hany := any_take hb hx (fun n => (b.held bad).contains n)
    have hrun := fun is : Bool => hldC_run (b := b) (bad := bad) (es := es) (hH := hEnt_map b bad k) (b.ofL (b.get x).src (b.get x).day x) is
    have hit := fun is : Bool => iter_c (hldC b bad es (hEnt b bad k) _ (hEnt_map b bad k)) b hb bad es hes 4 5 6 (fun c _ => ⟨rfl, rfl⟩) (fun c _ => rfl) (b.get x).src (b.get x).day x is trivial (fun z hz => ⟨z, rfl⟩)
    simp only [hrun, hany] at hit
    rw [hold_step hb hx] at hst
    have hst2 := hold_get hb (bad := bad) hxm
    generalize hAN : ((b.ofL (b.get x).src (b.get x).day x).any fun n => (b.held bad).contains n.num) = an at *
    generalize b.get x = y at *
    obtain ⟨yn, yi, ys, yd, yv, ⟨yl, yh⟩⟩ := y
    simp only at hcn hbd hit hst2
    subst hcn
    unfold Ct.pv at hfx
    obtain ⟨si, rfl⟩ : ∃ si : Nat, ys = si := ⟨ys.toNat, by omega⟩
    obtain ⟨nn, rfl⟩ : ∃ nn : Nat, yn = nn := ⟨yn.toNat, by omega⟩
    have hsi : si < b.items.length := by omega
    have hnn : nn < 1000 := by omega
    obtain ⟨z, hz⟩ : ∃ z, b.items[si]? = some z := ⟨b.items[si], List.getElem?_eq_getElem hsi⟩
    have hgz : (b.items.map It.pv)[si]? = some (.agg [.int .i64 z.drift, .bool z.std, .int .i64 z.val.lo, .int .i64 z.val.hi]) := by rw [List.getElem?_map, hz]; rfl
    have hzi : b.item (si : Int) = z := by unfold Bk.item; rw [Int.toNat_natCast, hz]; rfl
    rw [hzi] at hst2
    have hit' := hit z.std
    clear hit
    simp [-getElem?_pos, -List.getElem?_map, hdK, wkC, hlt, hgx, hko, hfx, itsP, hgz, hsi, badZ_purge, badZ_has, -retB]
    refine call_lent (as' := [.ptr (.par 0) 0, .pv (.int .i64 si), .pv (.int .i64 yd), .pv (.int .i64 nn)]) (B := laid 0 (wkB b bad es)) (fs := []) (cs := []) 41 [.par 0, .par 1] ?_ rfl rfl ?_ ?_ ?_ (of_c b bad es si yd nn) ?_
    · rfl
    · simp [laid, wkB, wkC, itsP, badZ_map, badZ_all]
    · rfl
    · rfl
    rintro r0 B0 ⟨rfl, rfl⟩
    refine ⟨rfl, by simp [laid, wkB, wkC, badZ_all], ?_⟩
    simp [-getElem?_pos, -List.getElem?_map, laid, wkB, wkC, badZ_purge, badZ_has, badZ_map, ofF, -retB]
    refine rng_lent [.loc 64 0, .loc 7 0, .loc 3 0, .loc 9 0, .loc 41 0, .par 0, .par 1] [(3, .ptr (.loc 3 0) 0), (7, .ptr (.loc 7 0) 0)] (gf := 90) (fs := []) (cs := [.ptr (.loc 41 0) 0, .pv (.ref [.int .i64 nn]), .pv (.ref [.int .i64 si]), .pv (.ref [.int .i64 yd])]) ?_ ?_ rfl rfl ?_ ?_ ?_ hit' ?_
    · rfl
    · simp
    · simp [hldC, hldX, laid, wkC, badZ_map, badZ_all, badZ_purge, badZ_has, capB]
    · rfl
    · rfl
    rintro r B' ⟨rfl, rfl⟩
    refine ⟨rfl, ?_, ?_⟩
    · exact fun p hp => laid_ok (n := 7) (L := hldX b bad es (hEnt b bad k) (z.std || an)) (by simp [hldX]) ((hldC b bad es (hEnt b bad k) _ (hEnt_map b bad k)).cl (z.std || an)) p hp
    refine ⟨_, _, _, _, _, rfl, ?_⟩
    have hfold : (z.std || an) = true → (b.held bad).contains (nn : Int) = !bad.contains (nn : Int) := fun h => by rw [hst2, h, Bool.true_and]
    have hfold2 : (z.std || an) = false → (b.held bad).contains (nn : Int) = false := fun h => by rw [hst2, h, Bool.false_and]
    generalize hIS : (z.std || an) = is at *
    have hbz := badZ_get (l := bad) hnn
    cases is
    · rw [hfold2 rfl] at hput
      simp [-getElem?_pos, -List.getElem?_map, hldC, hldX, laid, jumpQ, wkC, badZ_purge, badZ_has, badZ_map, capB, -retB, hIS, hkk, hput, hw]
      exact ⟨_, _, hmeas, Sub.mk (by simp [hdK]) (by simp [hdK, wkC, badZ_purge]), hround⟩
    · have hv := hfold rfl
      cases hbc : bad.contains (nn : Int)
      · rw [hbc] at hv hbz
        simp only [Bool.not_false, Bool.not_true] at hv
        rw [hv] at hput
        simp [-getElem?_pos, -List.getElem?_map, hldC, hldX, laid, jumpQ, wkC, badZ_purge, badZ_has, badZ_map, capB, -retB, hIS, nblt, nble, hnn, get4, hbz, hkk, hput, hw]
        exact ⟨_, _, hmeas, Sub.mk (by simp [hdK]) (by simp [hdK, wkC, badZ_purge]), hround⟩
      · rw [hbc] at hv hbz
        simp only [Bool.not_false, Bool.not_true] at hv
        rw [hv] at hput
        simp [-getElem?_pos, -List.getElem?_map, hldC, hldX, laid, jumpQ, wkC, badZ_purge, badZ_has, badZ_map, capB, -retB, hIS, nblt, nble, hnn, get4, hbz, hkk, hput, hw]
        exact ⟨_, _, hmeas, Sub.mk (by simp [hdK]) (by simp [hdK, wkC, badZ_purge]), hround⟩
  · have he : k = b.nums.length := by omega
    subst he
    clear hJ
    simp [-getElem?_pos, -List.getElem?_map, hdK, wkC, badZ_all, badZ_map, outsOk]
    rw [← hR]
    exact ⟨rfl, by simp [laid, wkB, wkC]⟩
end
end Go.Proofs.Ytcgdopjmbadonaa
/-! Contracts of layer 2 (chain): without; copies. -/
namespace Go.Proofs.Ytcgdopjmbadonaa
open Go.RowKit
set_option maxRecDepth 10000
set_option linter.unusedSimpArgs false
def okAt (l : List Int) (k : Nat) : Bool := match l[k]? with
  | some n => inB n 1 999 && (decide (k = 0) || decide ((l[k - 1]?).getD 0 < n))
  | none => true
def areB (l : List Int) : Bool := (List.range l.length).all (okAt l)
theorem areB_no {l : List Int} {k : Nat} (hk : k < l.length) (h : okAt l k = false) : areB l = false := by
  unfold areB
  rw [List.all_eq_false]
  exact ⟨k, List.mem_range.2 hk, by simp [h]⟩
theorem areB_yes {l : List Int} (h : ∀ k, k < l.length → okAt l k = true) : areB l = true := by
  unfold areB
  rw [List.all_eq_true]
  exact fun k hk => h k (List.mem_range.1 hk)
def woR (b : Bk) (bad : List Int) (r : AV) (B : List (Site × Box)) : Prop :=
  (b.fault ≠ 0 ∧ r = .pv (.tup [.nilp, .int .i64 b.fault]) ∧ B = []) ∨
  (b.fault = 0 ∧ areB bad = false ∧ r = .pv (.tup [.nilp, .int .i64 2]) ∧ B = []) ∨
  (b.fault = 0 ∧ areB bad = true ∧ ∃ es, CMap b es ∧ r = .tup [.ptr (.ret 0) 0, .pv (.int .i64 0)] ∧ B = [(.ret 0, .cells (wkC b (.ret 1) (badZ bad))), (.ret 1, .map es)])
def woK (b : Bk) (bad : List Int) (es : List (PV × PV)) (k : Nat) : AS := ⟨[(1, .pv (.lst false 1 (bad.map intP))), (6, .ptr (.loc 12 0) 0), (18, .pv (.lst false 1 (bad.map intP))), (19, .pv (.int .i64 bad.length)), (20, .pv (.int .i64 k))],
  [(.loc 12 0, .cells (wkC b (.loc 12 1) (badZ (bad.take k)))), (.loc 12 1, .map es)]⟩
theorem take4 {a b c d : AV} {Z : List AV} {n : Nat} : (a :: b :: c :: d :: Z).take (4 + n) = a :: b :: c :: d :: Z.take n := by rw [Nat.add_comm]; rfl
theorem drop3 {b c d : AV} {Z : List AV} {n : Nat} : (b :: c :: d :: Z).drop (4 + n) = Z.drop (n + 1) := by rw [Nat.add_comm]; rfl
theorem set_split {Z : List AV} {n : Nat} {v : AV} (h : n < Z.length) : Z.take n ++ v :: Z.drop (n + 1) = Z.set n v := by rw [List.set_eq_take_append_cons_drop, if_pos h]
attribute [local simp] AS.exp expG Box.ren AV.map AV.mapL noRet Site.isRet Box.allS AV.allS AV.allSL dropL AS.adds renL outG outOk lentBx inG fnOf lookA List.findIdx?_cons
attribute [local simp] Box.purge Site.isLoc
set_option maxHeartbeats 16000000 in
theorem without_c (b : Bk) (hi : b.items.length ≤ 1000) (hc : b.certs.length ≤ 1000) (bad : List Int) (hbl : bad.length ≤ 1000) : CallsA Try.prog 50 [.pv b.pv, .pv (.lst false 1 (bad.map intP))] [] (woR b bad) := by
  have hr := read_c b hi hc
  refine calls_of_awpE mixed L50_ok (Nat.le_of_ble_eq_true rfl) ?_
  generalize hR : woR b bad = R
  simp [-getElem?_pos, L50, Bk.pv]
  refine call_lent (as' := [.pv b.pv]) (B := []) (fs := []) (cs := []) 12 [] ?_ rfl rfl rfl ?_ ?_ hr ?_
  · rfl
  · rfl
  · rfl
  rintro r0 B0 (⟨h0, rfl, rfl⟩ | ⟨h0, es, hes, rfl, rfl⟩)
  · refine ⟨rfl, by simp, ?_⟩
    have hd : decide (b.fault = 0) = false := by simpa using h0
    simp [-getElem?_pos, -decide_eq_true_eq, -decide_eq_false_iff_not, hd]
    refine ⟨[], ?_⟩
    simp [retB, outsOk]
    rw [← hR]
    exact .inl ⟨h0, rfl, rfl⟩
  refine ⟨rfl, by simp [wkC, badZ_nil, badZ_all], ?_⟩
  simp [-getElem?_pos, -List.getElem?_map, wkC, badZ_nil, badZ_map, badZ_purge]
  refine awp_loopS (fun n τ => ∃ k : Nat, k ≤ bad.length ∧ n = bad.length - k ∧ (∀ j, j < k → okAt bad j = true) ∧ τ = woK b bad es k) ⟨bad.length, woK b bad es 0, Sub.mk (by simp [woK]) (by simp [woK, wkC, badZ_purge]), 0, Nat.zero_le _, rfl, (fun j hj => by omega), rfl⟩ ?_
  rintro J hJ n τ ⟨k, hk, rfl, hinv, rfl⟩
  by_cases hlt : k < bad.length
  · obtain ⟨x, hx⟩ : ∃ x, bad[k]? = some x := ⟨bad[k], List.getElem?_eq_getElem hlt⟩
    have hgx : (bad.map intP)[k]? = some (.int .i64 x) := by rw [List.getElem?_map, hx]; rfl
    have hw := wrapK (k := k) (by omega)
    have hmeas : bad.length - (k + 1) < bad.length - k := by omega
    have hok : okAt bad k = (inB x 1 999 && (decide (k = 0) || decide ((bad[k - 1]?).getD 0 < x))) := by unfold okAt; rw [hx]
    have herr : okAt bad k = false → ∃ outs, retB outs [.tm 4, .tm 5] R ⟨[(5, .pv (.int .i64 2)), (4, .pv .nilp)], []⟩ := fun h => ⟨[], by
      simp [retB, outsOk]
      rw [← hR]
      exact .inr (.inl ⟨h0, areB_no hlt h, rfl, rfl⟩)⟩
    have hnum := number_c x
    have hlt' : decide ((k : Int) < (bad.length : Int)) = true := by simp; omega
    simp [-getElem?_pos, -List.getElem?_map, -decide_eq_true_eq, -decide_eq_false_iff_not, woK, wkC, hlt, hlt', hgx]
    refine call_gives (k := 0) (fs := []) (xs := [.int .i64 x]) (cs := []) rfl rfl hnum rfl ?_
    cases e1 : inB x 1 999
    · rw [e1, Bool.false_and] at hok
      simp [-getElem?_pos, -List.getElem?_map, -decide_eq_true_eq, -decide_eq_false_iff_not]
      refine ⟨[], ?_⟩
      simp [retB, outsOk]
      rw [← hR]
      exact .inr (.inl ⟨h0, areB_no hlt hok, rfl, rfl⟩)
    rw [e1, Bool.true_and] at hok
    have hx1 : 1 ≤ x ∧ x ≤ 999 := by unfold inB at e1; simp only [Bool.and_eq_true, decide_eq_true_eq] at e1; exact e1
    obtain ⟨nn, rfl⟩ : ∃ nn : Nat, x = nn := ⟨x.toNat, by omega⟩
    have hnn : nn < 1000 := by omega
    have hset := badZ_set (l := bad.take k) hnn
    have htk : bad.take (k + 1) = bad.take k ++ [(nn : Int)] := by rw [List.take_add_one, hx]; rfl
    rw [← htk, ← set_split (by rw [badZ_len]; exact hnn)] at hset
    have hle : 4 + nn ≤ 1003 := by omega
    have hround := fun h : okAt bad k = true => hJ _ _ ⟨k + 1, hlt, rfl, (fun j hj => by
      rcases Nat.lt_succ_iff_lt_or_eq.1 hj with h' | h'
      · exact hinv j h'
      · subst h'; exact h), rfl⟩
    by_cases hz : k = 0
    · have hround := hround (by rw [hok, hz]; rfl)
      subst hz
      have hw0 : IntKind.i64.wrap 1 = 1 := rfl
      simp only [List.take_zero, Nat.zero_add] at hset
      simp [hw0, -getElem?_pos, -List.getElem?_map, -decide_eq_true_eq, -decide_eq_false_iff_not, wkC, badZ_purge, hw, nblt, nble, hnn, take4, drop3, hle, hset, badZ_len]
      exact ⟨_, _, hmeas, Sub.mk (by simp [woK]) (by simp [woK, wkC, badZ_purge]), hround⟩
    · obtain ⟨j, hj1⟩ : ∃ j, j + 1 = k := ⟨k - 1, by omega⟩
      obtain ⟨y, hy⟩ : ∃ y, bad[j]? = some y := ⟨bad[j]'(by omega), List.getElem?_eq_getElem _⟩
      have hgy : (bad.map intP)[j]? = some (.int .i64 y) := by rw [List.getElem?_map, hy]; rfl
      have hw1 : IntKind.i64.wrap ((k : Int) - 1) = (j : Int) := by rw [wrap64 (by omega)]; omega
      have hpos : decide ((0 : Int) < (k : Int)) = true := by simp; omega
      have hpos2 : 0 < k := by omega
      have hjl : j < bad.length := by omega
      have hok' : okAt bad k = decide (y < (nn : Int)) := by
        rw [hok, show k - 1 = j by omega, hy, decide_eq_false hz, Bool.false_or]; rfl
      cases e2 : decide (y < (nn : Int))
      · have e3 : decide ((nn : Int) ≤ y) = true := by simp at e2 ⊢; omega
        simp [-getElem?_pos, -List.getElem?_map, -decide_eq_true_eq, -decide_eq_false_iff_not, hpos, hpos2, hw1, hjl, hgy, e3]
        refine ⟨[], ?_⟩
        simp [retB, outsOk]
        rw [← hR]
        exact .inr (.inl ⟨h0, areB_no hlt (by rw [hok', e2]), rfl, rfl⟩)
      · have e3 : decide ((nn : Int) ≤ y) = false := by simp at e2 ⊢; omega
        have hround := hround (by rw [hok', e2])
        simp [-getElem?_pos, -List.getElem?_map, -decide_eq_true_eq, -decide_eq_false_iff_not, hpos, hpos2, hw1, hjl, hgy, e3, wkC, badZ_purge, hw, nblt, nble, hnn, take4, drop3, hle, hset, badZ_len]
        exact ⟨_, _, hmeas, Sub.mk (by simp [woK]) (by simp [woK, wkC, badZ_purge]), hround⟩
  · have he : k = bad.length := by omega
    subst he
    clear hJ
    simp [-getElem?_pos, -List.getElem?_map, woK, wkC]
    refine ⟨[.loc 12 0, .loc 12 1], ?_⟩
    simp [retB, outsOk, badZ_all, badZ_map]
    rw [← hR]
    refine .inr (.inr ⟨h0, areB_yes hinv, es, hes, rfl, ?_⟩)
    simp [wkC]
end Go.Proofs.Ytcgdopjmbadonaa
/-! Contracts of layer 2 (chain): copies; numbers are deleted by a closure. Printed by gen_delc.py. -/
namespace Go.Proofs.Ytcgdopjmbadonaa
open Go.RowKit
set_option maxRecDepth 10000
set_option linter.unusedSimpArgs false
section
attribute [local simp] Box.purge Site.isLoc
theorem clone_c (l : List Int) (h0 : l ≠ []) (hl : l.length ≤ 1000000) : CallsA Try.prog 54 [.pv (.lst false 1 (l.map intP))] [] (fun r B => r = .vec (.ret 0) 1 0 l.length ∧ B = [(.ret 0, .arr 3 1 (l.map intP))]) := by
  refine calls_of_awpB [.loc 7 0] mixed L54_ok (Nat.le_of_ble_eq_true rfl) ?_
  cases l with
  | nil => exact absurd rfl h0
  | cons a l =>
    have h1 : l.length + 1 ≤ 1000000 := by simpa using hl
    have hm : (l.map intP).take l.length = l.map intP := List.take_of_length_le (by simp)
    simp [-getElem?_pos, L54, nilOf, nble, h1, hm, retB, outsOk, AS.exp, expG, Box.ren, AV.map, AV.mapL, noRet, Site.isRet, Box.allS, AV.allS, AV.allSL, List.findIdx?_cons]
attribute [local simp] retFz frzL AS.frz AV.frz AV.frzL Box.frz AS.tidy AS.frzC
theorem clone0_c : Gives Try.prog 54 [.lst false 1 []] (.lst false 1 []) := by
  refine CallsA.weak2 ?_
  refine calls_of_awpF [.loc 7 0] mixed L54_ok (Nat.le_of_ble_eq_true rfl) ?_
  simp [-getElem?_pos, L54, nilOf, maybeNil, nble, opWp, osel]
  exact fun m v h => emp_lst h
end
attribute [local simp] AS.exp expG Box.ren AV.map AV.mapL outsOk noRet Site.isRet Box.allS AV.allS AV.allSL retB dropL AS.adds renL outG outOk lentBx inG fnOf lookA List.findIdx?_cons
attribute [local simp] Box.purge Site.isLoc
theorem intV_set {X : List Int} {w : Nat} {r : Int} : (X.map intP).set w (.int .i64 r) = (X.set w r).map intP := by rw [List.map_set]; rfl
theorem find_next {l : List Int} {k : Nat} {x : Int} {p : Int → Bool} (h : l[k]? = some x) (hp : p x = true) (hinv : ∀ (j : Nat) (y : Int), j < k → l[j]? = some y → p y = false) : l.findIdx? p = some k := by
  obtain ⟨hlt, e⟩ := List.getElem?_eq_some_iff.1 h
  rw [List.findIdx?_eq_some_iff_getElem]
  refine ⟨hlt, by rw [e]; exact hp, fun j hj => ?_⟩
  have := hinv j l[j] hj (List.getElem?_eq_getElem (by omega))
  simp [this]
theorem find_no {l : List Int} {p : Int → Bool} (hinv : ∀ (j : Nat) (y : Int), j < l.length → l[j]? = some y → p y = false) : l.findIdx? p = none := by
  rw [List.findIdx?_eq_none_iff]
  intro x hx
  obtain ⟨j, hj⟩ := List.mem_iff_getElem?.1 hx
  exact hinv j x (List.getElem?_eq_some_iff.1 hj).1 hj
def ixI : Option Nat → Int
  | some i => i
  | none => -1
theorem find_take {l : List Int} {p : Int → Bool} {i : Nat} (h : l.findIdx? p = some i) : i < l.length ∧ l.take i = (l.take (i + 1)).filter (fun n => !p n) := by
  obtain ⟨h1, h2, h3⟩ := List.findIdx?_eq_some_iff_getElem.1 h
  refine ⟨h1, ?_⟩
  rw [List.take_add_one, List.getElem?_eq_getElem h1, List.filter_append]
  have e : (Option.some l[i]).toList.filter (fun n => !p n) = [] := by simp [h2]
  rw [e, List.append_nil, List.filter_eq_self.2]
  intro x hx
  obtain ⟨j, hj⟩ := List.mem_iff_getElem?.1 hx
  rw [List.getElem?_take] at hj
  split at hj
  · rename_i hji
    obtain ⟨q1, q2⟩ := List.getElem?_eq_some_iff.1 hj
    have := h3 j hji
    rw [q2] at this
    simpa using this
  · cases hj
theorem filter_none {l : List Int} {p : Int → Bool} (h : l.findIdx? p = none) : l.filter (fun n => !p n) = l := by
  rw [List.filter_eq_self]
  intro x hx
  have := List.findIdx?_eq_none_iff.1 h x hx
  simp [this]
def hdB (hs : List (PV × PV)) (m : Nat) : List Box := [.cells [.mp (.par (m + 1))], .map hs]
theorem predH (H : Int → Bool) (hs : List (PV × PV)) (hH : HMap H hs) (n : Int) (_ : True) : CallsA Try.prog 64 [.pv (.int .i64 n), .ptr (.par 0) 0] (laid 0 (hdB hs 0)) (fun r B => r = .pv (.bool (!H n)) ∧ B = laid 0 (hdB hs 0)) := by
  have hf := hH.f n
  have hk := hH.k
  refine calls_of_awpB [.par 0, .par 1] mixed L64_ok (Nat.le_of_ble_eq_true rfl) ?_
  simp [-getElem?_pos, L64, hdB, laid, hf, hk]
section
theorem ixH (H : Int → Bool) (hs : List (PV × PV)) (hH : HMap H hs) (l : List Int) (hl : l.length ≤ 1000) (hin : ∀ n ∈ l, True) :
    CallsA Try.prog 81 [.vec (.par 0) 1 0 l.length, (.fn 64 [] [.ptr (.par 1) 0])] (laid 0 (.arr 3 1 (l.map intP) :: hdB hs 1)) (fun x B => x = .pv (.int .i64 (ixI (l.findIdx? (fun n => !H n)))) ∧ B = laid 0 (.arr 3 1 (l.map intP) :: hdB hs 1)) := by
  refine calls_of_awpB [.par 0, .par 1, .par 2] mixed L81_ok (Nat.le_of_ble_eq_true rfl) ?_
  generalize hR : (fun (x : AV) (B : List (Site × Box)) => x = .pv (.int .i64 (ixI (l.findIdx? (fun n => !H n)))) ∧ B = laid 0 (.arr 3 1 (l.map intP) :: hdB hs 1)) = R
  simp [-getElem?_pos, L81, hdB, laid]
  refine awp_loopS (fun n τ => ∃ k : Nat, k ≤ l.length ∧ n = l.length - k ∧ (∀ (j : Nat) (y : Int), j < k → l[j]? = some y → (fun n => !H n) y = false) ∧ τ = ⟨[(0, .vec (.par 0) 1 0 l.length), (1, (.fn 64 [] [.ptr (.par 1) 0])), (7, .pv (.int .i64 l.length)), (8, .pv (.int .i64 k))], laid 0 (.arr 3 1 (l.map intP) :: hdB hs 1)⟩)
    ⟨l.length, ⟨[(0, .vec (.par 0) 1 0 l.length), (1, (.fn 64 [] [.ptr (.par 1) 0])), (7, .pv (.int .i64 l.length)), (8, .pv (.int .i64 0))], laid 0 (.arr 3 1 (l.map intP) :: hdB hs 1)⟩, Sub.mk (by simp) (by simp [hdB, laid]), 0, Nat.zero_le _, rfl, (fun j y hj => by omega), rfl⟩ ?_
  rintro J hJ n τ ⟨k, hk, rfl, hinv, rfl⟩
  by_cases hlt : k < l.length
  · obtain ⟨r, hx⟩ : ∃ x, l[k]? = some x := ⟨l[k], List.getElem?_eq_getElem hlt⟩
    have hg : (l.map intP)[k]? = some (.int .i64 r) := by rw [List.getElem?_map, hx]; rfl
    have hw := wrapK (k := k) (by omega)
    have hmeas : l.length - (k + 1) < l.length - k := by omega
    have hC := predH H hs hH r (hin r (List.mem_of_getElem? hx))
    have hnext : (fun n => !H n) r = false → J (l.length - (k + 1)) _ := fun hn => hJ _ _ ⟨k + 1, hlt, rfl, (fun j y hj hy => by
      rcases Nat.lt_succ_iff_lt_or_eq.1 hj with h | h
      · exact hinv j y h hy
      · subst h; rw [hx] at hy; cases hy; exact hn), rfl⟩
    clear hJ
    simp [-getElem?_pos, -List.getElem?_map, hdB, laid, hlt, hg, nblt, nble]
    refine call_lent (as' := [.pv (.int .i64 r), .ptr (.par 0) 0]) (B := laid 0 (hdB hs 0)) (fs := []) (cs := [.ptr (.par 1) 0]) 16 [.par 1, .par 2] ?_ rfl rfl ?_ ?_ ?_ hC ?_
    · rfl
    · simp [hdB, laid]
    · rfl
    · rfl
    rintro r0 B0 ⟨rfl, rfl⟩
    refine ⟨rfl, by simp [hdB, laid], ?_⟩
    cases hgv : (fun n => !H n) r with
    | false =>
      have hround := hnext hgv
      have hgv' : (!H r) = false := hgv
      simp [-getElem?_pos, -List.getElem?_map, hdB, laid, hw, hgv']
      refine ⟨_, _, hmeas, Sub.mk ?_ ?_, hround⟩
      · simp
      · simp [hdB, laid]
    | true =>
      have hf := find_next hx hgv hinv
      have hgv' : (!H r) = true := hgv
      simp [-getElem?_pos, -List.getElem?_map, hdB, laid, hgv']
      rw [← hR, hf]
      simp [hdB, laid, ixI]
  · have he : k = l.length := by omega
    subst he
    have hf := find_no hinv
    clear hJ
    simp [-getElem?_pos, -List.getElem?_map, hdB, laid]
    rw [← hR, hf]
    simp [hdB, laid, ixI]
set_option maxHeartbeats 8000000 in
theorem delH (H : Int → Bool) (hs : List (PV × PV)) (hH : HMap H hs) (l : List Int) (hl : l.length ≤ 1000) (hin : ∀ n ∈ l, True) :
    CallsA Try.prog 53 [.vec (.par 0) 1 0 l.length, (.fn 64 [] [.ptr (.par 1) 0])] (laid 0 (.arr 3 1 (l.map intP) :: hdB hs 1)) (fun x B => x = .vec (.par 0) 1 0 (l.filter (fun n => !(fun n => !H n) n)).length ∧ ∃ X : List Int, X.take (l.filter (fun n => !(fun n => !H n) n)).length = l.filter (fun n => !(fun n => !H n) n) ∧ B = laid 0 (.arr 3 1 (X.map intP) :: hdB hs 1)) := by
  have hC := ixH H hs hH l hl hin
  refine calls_of_awpB [.par 0, .par 1, .par 2] mixed L53_ok (Nat.le_of_ble_eq_true rfl) ?_
  generalize hR : (fun (x : AV) (B : List (Site × Box)) => x = .vec (.par 0) 1 0 (l.filter (fun n => !(fun n => !H n) n)).length ∧ ∃ X : List Int, X.take (l.filter (fun n => !(fun n => !H n) n)).length = l.filter (fun n => !(fun n => !H n) n) ∧ B = laid 0 (.arr 3 1 (X.map intP) :: hdB hs 1)) = R
  simp [-getElem?_pos, L53, hdB, laid]
  refine call_lent (as' := [.vec (.par 0) 1 0 l.length, (.fn 64 [] [.ptr (.par 1) 0])]) (B := laid 0 (.arr 3 1 (l.map intP) :: hdB hs 1)) (fs := []) (cs := []) 10 [.par 0, .par 1, .par 2] ?_ rfl rfl ?_ ?_ ?_ hC ?_
  · rfl
  · simp [hdB, laid]
  · rfl
  · rfl
  rintro r0 B0 ⟨rfl, rfl⟩
  refine ⟨rfl, by simp [hdB, laid], ?_⟩
  cases hx : l.findIdx? (fun n => !H n) with
  | none =>
    have hfl := filter_none hx
    simp [-getElem?_pos, hdB, laid, ixI]
    rw [← hR, hfl]
    exact ⟨rfl, l, by simp, by simp [hdB, laid]⟩
  | some i =>
    obtain ⟨hi, hti⟩ := find_take hx
    have hw1 := wrapK (k := i) (by omega)
    have hni : ¬ ((i : Int) = -1) := by omega
    clear hC
    simp [-getElem?_pos, hdB, laid, ixI, hw1, hni]
    refine awp_loopS (fun n τ => ∃ (j : Nat) (X K : List Int), j ≤ l.length ∧ n = l.length - j ∧ X.length = l.length ∧ K = (l.take j).filter (fun n => !(fun n => !H n) n) ∧ X.take K.length = K ∧ X.drop j = l.drop j ∧ K.length < j ∧ τ = ⟨[(0, .vec (.par 0) 1 0 l.length), (1, (.fn 64 [] [.ptr (.par 1) 0])), (5, .pv (.int .i64 K.length)), (6, .pv (.int .i64 j))], laid 0 (.arr 3 1 (X.map intP) :: hdB hs 1)⟩)
      ⟨l.length - (i + 1), ⟨[(0, .vec (.par 0) 1 0 l.length), (1, (.fn 64 [] [.ptr (.par 1) 0])), (5, .pv (.int .i64 i)), (6, .pv (.int .i64 (i + 1 : Nat)))], laid 0 (.arr 3 1 (l.map intP) :: hdB hs 1)⟩, Sub.mk (by simp) (by simp [hdB, laid]), i + 1, l, l.take i, by omega, rfl, rfl, hti, by simp, rfl, by rw [List.length_take]; omega, by rw [List.length_take, Nat.min_eq_left (by omega)]⟩ ?_
    clear hx hw1 hni hti
    rintro J hJ n τ ⟨j, X, K, hj, rfl, hXl, hKe, hXt, hXd, hKj, rfl⟩
    by_cases hlt : j < l.length
    · obtain ⟨r, hxr⟩ : ∃ x, l[j]? = some x := ⟨l[j], List.getElem?_eq_getElem hlt⟩
      have hXr : X[j]? = some r := by
        have h1 : (X.drop j)[0]? = (l.drop j)[0]? := by rw [hXd]
        rw [List.getElem?_drop, List.getElem?_drop, Nat.add_zero] at h1
        rw [h1]; exact hxr
      have hg : (X.map intP)[j]? = some (.int .i64 r) := by rw [List.getElem?_map, hXr]; rfl
      have hw := wrapK (k := j) (by omega)
      have hw2 := wrapK (k := K.length) (by omega)
      have hmeas : l.length - (j + 1) < l.length - j := by omega
      have hC := predH H hs hH r (hin r (List.mem_of_getElem? hxr))
      have hdn : X.drop (j + 1) = l.drop (j + 1) := by
        have := congrArg List.tail hXd
        simpa [List.tail_drop] using this
      have hKl : K.length < X.length := by omega
      have htn : (l.take (j + 1)).filter (fun n => !(fun n => !H n) n) = K ++ (if (!(fun n => !H n) r) = true then [r] else []) := by
        rw [List.take_add_one, hxr, List.filter_append, ← hKe]
        congr 1
        simp only [Option.toList, List.filter_cons, List.filter_nil]
      have hset : ∀ Y, Y = X.set K.length r → (fun n => !H n) r = false → J (l.length - (j + 1)) ⟨[(0, .vec (.par 0) 1 0 l.length), (1, (.fn 64 [] [.ptr (.par 1) 0])), (5, .pv (.int .i64 (K.length + 1 : Nat))), (6, .pv (.int .i64 (j + 1 : Nat)))], laid 0 (.arr 3 1 (Y.map intP) :: hdB hs 1)⟩ := fun Y hY hn => hJ _ _ ⟨j + 1, Y, K ++ [r], hlt, rfl, by rw [hY, List.length_set]; exact hXl, by rw [htn, if_pos (by simp [hn])], by
        rw [hY, List.length_append]
        show List.take (K.length + 1) _ = _
        rw [List.take_add_one, List.getElem?_set_self hKl, List.take_set_of_le (Nat.le_refl _), hXt]; rfl, by rw [hY, List.drop_set_of_lt (by omega)]; exact hdn, by simp; omega, by simp⟩
      have hgot : (fun n => !H n) r = true → J (l.length - (j + 1)) ⟨[(0, .vec (.par 0) 1 0 l.length), (1, (.fn 64 [] [.ptr (.par 1) 0])), (5, .pv (.int .i64 K.length)), (6, .pv (.int .i64 (j + 1 : Nat)))], laid 0 (.arr 3 1 (X.map intP) :: hdB hs 1)⟩ := fun hn => hJ _ _ ⟨j + 1, X, K, hlt, rfl, hXl, by rw [htn, if_neg (by simp [hn]), List.append_nil], hXt, hdn, by omega, rfl⟩
      clear hJ
      have hKn : K.length < l.length := by omega
      have hlt2 : j < X.length := by omega
      have hKx : (X.map intP)[K.length]? = some (.int .i64 X[K.length]) := by rw [List.getElem?_map, List.getElem?_eq_getElem hKl]; rfl
      have hst := intV_set (X := X) (w := K.length) (r := r)
      simp [-getElem?_pos, -List.getElem?_map, hdB, laid, hlt, hg, hXl, nblt, nble]
      refine call_lent (as' := [.pv (.int .i64 r), .ptr (.par 0) 0]) (B := laid 0 (hdB hs 0)) (fs := []) (cs := [.ptr (.par 1) 0]) 28 [.par 1, .par 2] ?_ rfl rfl ?_ ?_ ?_ hC ?_
      · rfl
      · simp [hdB, laid]
      · rfl
      · rfl
      rintro r0 B0 ⟨rfl, rfl⟩
      refine ⟨rfl, by simp [hdB, laid], ?_⟩
      cases hgv : (fun n => !H n) r with
      | false =>
        have hround := hset _ rfl hgv
        have hgv' : (!H r) = false := hgv
        simp [-getElem?_pos, -List.getElem?_map, hdB, laid, hgv', hw, hw2, hKn, hKx, hst, nblt, nble, setAt]
        refine ⟨_, _, hmeas, Sub.mk ?_ ?_, hround⟩
        · simp
        · simp [hdB, laid]
      | true =>
        have hround := hgot hgv
        have hgv' : (!H r) = true := hgv
        simp [-getElem?_pos, -List.getElem?_map, hdB, laid, hgv', hw]
        refine ⟨_, _, hmeas, Sub.mk ?_ ?_, hround⟩
        · simp
        · simp [hdB, laid]
    · have he : j = l.length := by omega
      subst he
      rw [List.take_length] at hKe
      clear hJ
      have hK2 : K.length ≤ l.length := by omega
      have hKs : K.length + (l.length - K.length) = l.length := by omega
      have hsp : splice (X.map intP) K.length (List.replicate (l.length - K.length) (PV.int .i64 0)) = (K ++ List.replicate (l.length - K.length) 0).map intP := by
        unfold splice
        rw [List.length_replicate, hKs, List.drop_eq_nil_of_le (by simp; omega), List.append_nil, ← List.map_take, hXt, List.map_append, List.map_replicate]
        rfl
      simp [-getElem?_pos, -List.getElem?_map, -splice, hdB, laid, nblt, nble, hK2, hKs, hXl, hsp]
      rw [← hR, ← hKe]
      exact ⟨rfl, K ++ List.replicate (l.length - K.length) 0, by simp, by simp [hdB, laid]⟩
/-- Of no numbers. -/
theorem del0H (hs : List (PV × PV)) : CallsA Try.prog 53 [.pv (.lst false 1 []), (.fn 64 [] [.ptr (.par 0) 0])] (laid 0 (hdB hs 0)) (fun x B => x = .pv (.lst false 1 []) ∧ B = laid 0 (hdB hs 0)) := by
  have hC : CallsA Try.prog 81 [.pv (.lst false 1 []), (.fn 64 [] [.ptr (.par 0) 0])] (laid 0 (hdB hs 0)) (fun x B => x = .pv (.int .i64 (-1)) ∧ B = laid 0 (hdB hs 0)) := by
    refine calls_of_awpB [.par 0, .par 1] mixed L81_ok (Nat.le_of_ble_eq_true rfl) ?_
    simp [-getElem?_pos, L81, hdB, laid]
    refine awp_loopS (fun n τ => n = 0 ∧ τ = ⟨[(0, .pv (.lst false 1 [])), (1, (.fn 64 [] [.ptr (.par 0) 0])), (7, .pv (.int .i64 0)), (8, .pv (.int .i64 0))], laid 0 (hdB hs 0)⟩) ⟨0, ⟨[(0, .pv (.lst false 1 [])), (1, (.fn 64 [] [.ptr (.par 0) 0])), (7, .pv (.int .i64 0)), (8, .pv (.int .i64 0))], laid 0 (hdB hs 0)⟩, Sub.mk (by simp) (by simp [hdB, laid]), rfl, rfl⟩ ?_
    rintro J hJ n τ ⟨rfl, rfl⟩
    simp [-getElem?_pos, hdB, laid]
  refine calls_of_awpB [.par 0, .par 1] mixed L53_ok (Nat.le_of_ble_eq_true rfl) ?_
  simp [-getElem?_pos, L53, hdB, laid]
  refine call_lent (as' := [.pv (.lst false 1 []), (.fn 64 [] [.ptr (.par 0) 0])]) (B := laid 0 (hdB hs 0)) (fs := []) (cs := []) 10 [.par 0, .par 1] ?_ rfl rfl ?_ ?_ ?_ hC ?_
  · rfl
  · simp [hdB, laid]
  · rfl
  · rfl
  rintro r0 B0 ⟨rfl, rfl⟩
  refine ⟨rfl, by simp [hdB, laid], ?_⟩
  simp [-getElem?_pos, hdB, laid]
end
end Go.Proofs.Ytcgdopjmbadonaa
/-! Contracts of layer 2 (chain): the deletion of Hung. Printed by gen_delc.py. -/
namespace Go.Proofs.Ytcgdopjmbadonaa
open Go.RowKit
set_option maxRecDepth 10000
set_option linter.unusedSimpArgs false
attribute [local simp] AS.exp expG Box.ren AV.map AV.mapL outsOk noRet Site.isRet Box.allS AV.allS AV.allSL retB dropL AS.adds renL outG outOk lentBx inG fnOf lookA List.findIdx?_cons
attribute [local simp] Box.purge Site.isLoc
attribute [local simp] badZ_has badZ_all badZ_purge badZ_map
def huB (b : Bk) (bad : List Int) (es h1 h2 : List (PV × PV)) (m : Nat) : List Box := [.cells [.fn 52 [] [.ptr (.par (m + 1)) 0, .ptr (.par (m + 2)) 0, .ptr (.par (m + 3)) 0]], .cells [.mp (.par (m + 4))], .cells [.mp (.par (m + 5))], .cells [.ptr (.par (m + 6)) 0], .map h1, .map h2, .cells (wkC b (.par (m + 7)) (badZ bad)), .map es]
theorem hung_c (b : Bk) (bad : List Int) (es h1 h2 : List (PV × PV)) (H1 H2 : Int → Bool) (k1 : HMap H1 h1) (k2 : HMap H2 h2) (n : Int) (hn : 1 ≤ n ∧ n ≤ 999) : CallsA Try.prog 52 [.pv (.int .i64 n), .ptr (.par 1) 0, .ptr (.par 2) 0, .ptr (.par 3) 0] (laid 0 (huB b bad es h1 h2 0)) (fun r B => r = .pv (.bool (H1 n && (!H2 n && !bad.contains n))) ∧ B = laid 0 (huB b bad es h1 h2 0)) := by
  have f1 := k1.f n
  have f2 := k2.f n
  have q1 := k1.k
  have q2 := k2.k
  obtain ⟨nn, rfl⟩ : ∃ nn : Nat, n = nn := ⟨n.toNat, by omega⟩
  have hnn : nn < 1000 := by omega
  have hbz := badZ_get (l := bad) hnn
  generalize bad.contains (nn : Int) = bc at *
  refine calls_of_awpB [.par 0, .par 1, .par 2, .par 3, .par 4, .par 5, .par 6, .par 7] mixed L52_ok (Nat.le_of_ble_eq_true rfl) ?_
  cases e1 : H1 (nn : Int)
  · rw [e1] at f1
    simp [-getElem?_pos, L52, huB, laid, f1, q1, wkC]
  rw [e1] at f1
  cases e2 : H2 (nn : Int)
  · rw [e2] at f2
    simp [-getElem?_pos, L52, huB, laid, f1, f2, q1, q2, wkC, nblt, nble, hnn, get4, hbz]
  · rw [e2] at f2
    simp [-getElem?_pos, L52, huB, laid, f1, f2, q1, q2, wkC]
theorem predU (b : Bk) (bad : List Int) (es h1 h2 : List (PV × PV)) (H1 H2 V : Int → Bool) (k1 : HMap H1 h1) (k2 : HMap H2 h2) (hV : ∀ n, (H1 n && (!H2 n && !bad.contains n)) = V n) (n : Int) (hn : 1 ≤ n ∧ n ≤ 999) : CallsA Try.prog 55 [.pv (.int .i64 n), .ptr (.par 0) 0] (laid 0 (huB b bad es h1 h2 0)) (fun r B => r = .pv (.bool (!V n)) ∧ B = laid 0 (huB b bad es h1 h2 0)) := by
  have hC := hung_c b bad es h1 h2 H1 H2 k1 k2 n hn
  rw [hV n] at hC
  generalize V n = v at *
  refine calls_of_awpB [.par 0, .par 1, .par 2, .par 3, .par 4, .par 5, .par 6, .par 7] mixed L55_ok (Nat.le_of_ble_eq_true rfl) ?_
  simp [-getElem?_pos, L55, huB, laid, wkC]
  refine call_lent (as' := [.pv (.int .i64 n), .ptr (.par 1) 0, .ptr (.par 2) 0, .ptr (.par 3) 0]) (B := laid 0 (huB b bad es h1 h2 0)) (fs := []) (cs := [.ptr (.par 1) 0, .ptr (.par 2) 0, .ptr (.par 3) 0]) 6 [.par 0, .par 1, .par 2, .par 3, .par 4, .par 5, .par 6, .par 7] ?_ rfl rfl ?_ ?_ ?_ hC ?_
  · rfl
  · simp [huB, laid, wkC]
  · rfl
  · rfl
  rintro r0 B0 ⟨rfl, rfl⟩
  refine ⟨rfl, by simp [huB, laid, wkC], ?_⟩
  simp [-getElem?_pos, huB, laid, wkC]
section
theorem ixU (b : Bk) (bad : List Int) (es h1 h2 : List (PV × PV)) (H1 H2 V : Int → Bool) (k1 : HMap H1 h1) (k2 : HMap H2 h2) (hV : ∀ n, (H1 n && (!H2 n && !bad.contains n)) = V n) (l : List Int) (hl : l.length ≤ 1000) (hin : ∀ n ∈ l, 1 ≤ n ∧ n ≤ 999) :
    CallsA Try.prog 81 [.vec (.par 0) 1 0 l.length, (.fn 55 [] [.ptr (.par 1) 0])] (laid 0 (.arr 3 1 (l.map intP) :: huB b bad es h1 h2 1)) (fun x B => x = .pv (.int .i64 (ixI (l.findIdx? (fun n => !V n)))) ∧ B = laid 0 (.arr 3 1 (l.map intP) :: huB b bad es h1 h2 1)) := by
  refine calls_of_awpB [.par 0, .par 1, .par 2, .par 3, .par 4, .par 5, .par 6, .par 7, .par 8] mixed L81_ok (Nat.le_of_ble_eq_true rfl) ?_
  generalize hR : (fun (x : AV) (B : List (Site × Box)) => x = .pv (.int .i64 (ixI (l.findIdx? (fun n => !V n)))) ∧ B = laid 0 (.arr 3 1 (l.map intP) :: huB b bad es h1 h2 1)) = R
  simp [-getElem?_pos, L81, huB, wkC, laid]
  refine awp_loopS (fun n τ => ∃ k : Nat, k ≤ l.length ∧ n = l.length - k ∧ (∀ (j : Nat) (y : Int), j < k → l[j]? = some y → (fun n => !V n) y = false) ∧ τ = ⟨[(0, .vec (.par 0) 1 0 l.length), (1, (.fn 55 [] [.ptr (.par 1) 0])), (7, .pv (.int .i64 l.length)), (8, .pv (.int .i64 k))], laid 0 (.arr 3 1 (l.map intP) :: huB b bad es h1 h2 1)⟩)
    ⟨l.length, ⟨[(0, .vec (.par 0) 1 0 l.length), (1, (.fn 55 [] [.ptr (.par 1) 0])), (7, .pv (.int .i64 l.length)), (8, .pv (.int .i64 0))], laid 0 (.arr 3 1 (l.map intP) :: huB b bad es h1 h2 1)⟩, Sub.mk (by simp) (by simp [huB, wkC, laid]), 0, Nat.zero_le _, rfl, (fun j y hj => by omega), rfl⟩ ?_
  rintro J hJ n τ ⟨k, hk, rfl, hinv, rfl⟩
  by_cases hlt : k < l.length
  · obtain ⟨r, hx⟩ : ∃ x, l[k]? = some x := ⟨l[k], List.getElem?_eq_getElem hlt⟩
    have hg : (l.map intP)[k]? = some (.int .i64 r) := by rw [List.getElem?_map, hx]; rfl
    have hw := wrapK (k := k) (by omega)
    have hmeas : l.length - (k + 1) < l.length - k := by omega
    have hC := predU b bad es h1 h2 H1 H2 V k1 k2 hV r (hin r (List.mem_of_getElem? hx))
    have hnext : (fun n => !V n) r = false → J (l.length - (k + 1)) _ := fun hn => hJ _ _ ⟨k + 1, hlt, rfl, (fun j y hj hy => by
      rcases Nat.lt_succ_iff_lt_or_eq.1 hj with h | h
      · exact hinv j y h hy
      · subst h; rw [hx] at hy; cases hy; exact hn), rfl⟩
    clear hJ
    simp [-getElem?_pos, -List.getElem?_map, huB, wkC, laid, hlt, hg, nblt, nble]
    refine call_lent (as' := [.pv (.int .i64 r), .ptr (.par 0) 0]) (B := laid 0 (huB b bad es h1 h2 0)) (fs := []) (cs := [.ptr (.par 1) 0]) 16 [.par 1, .par 2, .par 3, .par 4, .par 5, .par 6, .par 7, .par 8] ?_ rfl rfl ?_ ?_ ?_ hC ?_
    · rfl
    · simp [huB, wkC, laid]
    · rfl
    · rfl
    rintro r0 B0 ⟨rfl, rfl⟩
    refine ⟨rfl, by simp [huB, wkC, laid], ?_⟩
    cases hgv : (fun n => !V n) r with
    | false =>
      have hround := hnext hgv
      have hgv' : (!V r) = false := hgv
      simp [-getElem?_pos, -List.getElem?_map, huB, wkC, laid, hw, hgv']
      refine ⟨_, _, hmeas, Sub.mk ?_ ?_, hround⟩
      · simp
      · simp [huB, wkC, laid]
    | true =>
      have hf := find_next hx hgv hinv
      have hgv' : (!V r) = true := hgv
      simp [-getElem?_pos, -List.getElem?_map, huB, wkC, laid, hgv']
      rw [← hR, hf]
      simp [huB, wkC, laid, ixI]
  · have he : k = l.length := by omega
    subst he
    have hf := find_no hinv
    clear hJ
    simp [-getElem?_pos, -List.getElem?_map, huB, wkC, laid]
    rw [← hR, hf]
    simp [huB, wkC, laid, ixI]
set_option maxHeartbeats 8000000 in
theorem delU (b : Bk) (bad : List Int) (es h1 h2 : List (PV × PV)) (H1 H2 V : Int → Bool) (k1 : HMap H1 h1) (k2 : HMap H2 h2) (hV : ∀ n, (H1 n && (!H2 n && !bad.contains n)) = V n) (l : List Int) (hl : l.length ≤ 1000) (hin : ∀ n ∈ l, 1 ≤ n ∧ n ≤ 999) :
    CallsA Try.prog 53 [.vec (.par 0) 1 0 l.length, (.fn 55 [] [.ptr (.par 1) 0])] (laid 0 (.arr 3 1 (l.map intP) :: huB b bad es h1 h2 1)) (fun x B => x = .vec (.par 0) 1 0 (l.filter (fun n => !(fun n => !V n) n)).length ∧ ∃ X : List Int, X.take (l.filter (fun n => !(fun n => !V n) n)).length = l.filter (fun n => !(fun n => !V n) n) ∧ B = laid 0 (.arr 3 1 (X.map intP) :: huB b bad es h1 h2 1)) := by
  have hC := ixU b bad es h1 h2 H1 H2 V k1 k2 hV l hl hin
  refine calls_of_awpB [.par 0, .par 1, .par 2, .par 3, .par 4, .par 5, .par 6, .par 7, .par 8] mixed L53_ok (Nat.le_of_ble_eq_true rfl) ?_
  generalize hR : (fun (x : AV) (B : List (Site × Box)) => x = .vec (.par 0) 1 0 (l.filter (fun n => !(fun n => !V n) n)).length ∧ ∃ X : List Int, X.take (l.filter (fun n => !(fun n => !V n) n)).length = l.filter (fun n => !(fun n => !V n) n) ∧ B = laid 0 (.arr 3 1 (X.map intP) :: huB b bad es h1 h2 1)) = R
  simp [-getElem?_pos, L53, huB, wkC, laid]
  refine call_lent (as' := [.vec (.par 0) 1 0 l.length, (.fn 55 [] [.ptr (.par 1) 0])]) (B := laid 0 (.arr 3 1 (l.map intP) :: huB b bad es h1 h2 1)) (fs := []) (cs := []) 10 [.par 0, .par 1, .par 2, .par 3, .par 4, .par 5, .par 6, .par 7, .par 8] ?_ rfl rfl ?_ ?_ ?_ hC ?_
  · rfl
  · simp [huB, wkC, laid]
  · rfl
  · rfl
  rintro r0 B0 ⟨rfl, rfl⟩
  refine ⟨rfl, by simp [huB, wkC, laid], ?_⟩
  cases hx : l.findIdx? (fun n => !V n) with
  | none =>
    have hfl := filter_none hx
    simp [-getElem?_pos, huB, wkC, laid, ixI]
    rw [← hR, hfl]
    exact ⟨rfl, l, by simp, by simp [huB, wkC, laid]⟩
  | some i =>
    obtain ⟨hi, hti⟩ := find_take hx
    have hw1 := wrapK (k := i) (by omega)
    have hni : ¬ ((i : Int) = -1) := by omega
    clear hC
    simp [-getElem?_pos, huB, wkC, laid, ixI, hw1, hni]
    refine awp_loopS (fun n τ => ∃ (j : Nat) (X K : List Int), j ≤ l.length ∧ n = l.length - j ∧ X.length = l.length ∧ K = (l.take j).filter (fun n => !(fun n => !V n) n) ∧ X.take K.length = K ∧ X.drop j = l.drop j ∧ K.length < j ∧ τ = ⟨[(0, .vec (.par 0) 1 0 l.length), (1, (.fn 55 [] [.ptr (.par 1) 0])), (5, .pv (.int .i64 K.length)), (6, .pv (.int .i64 j))], laid 0 (.arr 3 1 (X.map intP) :: huB b bad es h1 h2 1)⟩)
      ⟨l.length - (i + 1), ⟨[(0, .vec (.par 0) 1 0 l.length), (1, (.fn 55 [] [.ptr (.par 1) 0])), (5, .pv (.int .i64 i)), (6, .pv (.int .i64 (i + 1 : Nat)))], laid 0 (.arr 3 1 (l.map intP) :: huB b bad es h1 h2 1)⟩, Sub.mk (by simp) (by simp [huB, wkC, laid]), i + 1, l, l.take i, by omega, rfl, rfl, hti, by simp, rfl, by rw [List.length_take]; omega, by rw [List.length_take, Nat.min_eq_left (by omega)]⟩ ?_
    clear hx hw1 hni hti
    rintro J hJ n τ ⟨j, X, K, hj, rfl, hXl, hKe, hXt, hXd, hKj, rfl⟩
    by_cases hlt : j < l.length
    · obtain ⟨r, hxr⟩ : ∃ x, l[j]? = some x := ⟨l[j], List.getElem?_eq_getElem hlt⟩
      have hXr : X[j]? = some r := by
        have h1 : (X.drop j)[0]? = (l.drop j)[0]? := by rw [hXd]
        rw [List.getElem?_drop, List.getElem?_drop, Nat.add_zero] at h1
        rw [h1]; exact hxr
      have hg : (X.map intP)[j]? = some (.int .i64 r) := by rw [List.getElem?_map, hXr]; rfl
      have hw := wrapK (k := j) (by omega)
      have hw2 := wrapK (k := K.length) (by omega)
      have hmeas : l.length - (j + 1) < l.length - j := by omega
      have hC := predU b bad es h1 h2 H1 H2 V k1 k2 hV r (hin r (List.mem_of_getElem? hxr))
      have hdn : X.drop (j + 1) = l.drop (j + 1) := by
        have := congrArg List.tail hXd
        simpa [List.tail_drop] using this
      have hKl : K.length < X.length := by omega
      have htn : (l.take (j + 1)).filter (fun n => !(fun n => !V n) n) = K ++ (if (!(fun n => !V n) r) = true then [r] else []) := by
        rw [List.take_add_one, hxr, List.filter_append, ← hKe]
        congr 1
        simp only [Option.toList, List.filter_cons, List.filter_nil]
      have hset : ∀ Y, Y = X.set K.length r → (fun n => !V n) r = false → J (l.length - (j + 1)) ⟨[(0, .vec (.par 0) 1 0 l.length), (1, (.fn 55 [] [.ptr (.par 1) 0])), (5, .pv (.int .i64 (K.length + 1 : Nat))), (6, .pv (.int .i64 (j + 1 : Nat)))], laid 0 (.arr 3 1 (Y.map intP) :: huB b bad es h1 h2 1)⟩ := fun Y hY hn => hJ _ _ ⟨j + 1, Y, K ++ [r], hlt, rfl, by rw [hY, List.length_set]; exact hXl, by rw [htn, if_pos (by simp [hn])], by
        rw [hY, List.length_append]
        show List.take (K.length + 1) _ = _
        rw [List.take_add_one, List.getElem?_set_self hKl, List.take_set_of_le (Nat.le_refl _), hXt]; rfl, by rw [hY, List.drop_set_of_lt (by omega)]; exact hdn, by simp; omega, by simp⟩
      have hgot : (fun n => !V n) r = true → J (l.length - (j + 1)) ⟨[(0, .vec (.par 0) 1 0 l.length), (1, (.fn 55 [] [.ptr (.par 1) 0])), (5, .pv (.int .i64 K.length)), (6, .pv (.int .i64 (j + 1 : Nat)))], laid 0 (.arr 3 1 (X.map intP) :: huB b bad es h1 h2 1)⟩ := fun hn => hJ _ _ ⟨j + 1, X, K, hlt, rfl, hXl, by rw [htn, if_neg (by simp [hn]), List.append_nil], hXt, hdn, by omega, rfl⟩
      clear hJ
      have hKn : K.length < l.length := by omega
      have hlt2 : j < X.length := by omega
      have hKx : (X.map intP)[K.length]? = some (.int .i64 X[K.length]) := by rw [List.getElem?_map, List.getElem?_eq_getElem hKl]; rfl
      have hst := intV_set (X := X) (w := K.length) (r := r)
      simp [-getElem?_pos, -List.getElem?_map, huB, wkC, laid, hlt, hg, hXl, nblt, nble]
      refine call_lent (as' := [.pv (.int .i64 r), .ptr (.par 0) 0]) (B := laid 0 (huB b bad es h1 h2 0)) (fs := []) (cs := [.ptr (.par 1) 0]) 28 [.par 1, .par 2, .par 3, .par 4, .par 5, .par 6, .par 7, .par 8] ?_ rfl rfl ?_ ?_ ?_ hC ?_
      · rfl
      · simp [huB, wkC, laid]
      · rfl
      · rfl
      rintro r0 B0 ⟨rfl, rfl⟩
      refine ⟨rfl, by simp [huB, wkC, laid], ?_⟩
      cases hgv : (fun n => !V n) r with
      | false =>
        have hround := hset _ rfl hgv
        have hgv' : (!V r) = false := hgv
        simp [-getElem?_pos, -List.getElem?_map, huB, wkC, laid, hgv', hw, hw2, hKn, hKx, hst, nblt, nble, setAt]
        refine ⟨_, _, hmeas, Sub.mk ?_ ?_, hround⟩
        · simp
        · simp [huB, wkC, laid]
      | true =>
        have hround := hgot hgv
        have hgv' : (!V r) = true := hgv
        simp [-getElem?_pos, -List.getElem?_map, huB, wkC, laid, hgv', hw]
        refine ⟨_, _, hmeas, Sub.mk ?_ ?_, hround⟩
        · simp
        · simp [huB, wkC, laid]
    · have he : j = l.length := by omega
      subst he
      rw [List.take_length] at hKe
      clear hJ
      have hK2 : K.length ≤ l.length := by omega
      have hKs : K.length + (l.length - K.length) = l.length := by omega
      have hsp : splice (X.map intP) K.length (List.replicate (l.length - K.length) (PV.int .i64 0)) = (K ++ List.replicate (l.length - K.length) 0).map intP := by
        unfold splice
        rw [List.length_replicate, hKs, List.drop_eq_nil_of_le (by simp; omega), List.append_nil, ← List.map_take, hXt, List.map_append, List.map_replicate]
        rfl
      simp [-getElem?_pos, -List.getElem?_map, -splice, huB, wkC, laid, nblt, nble, hK2, hKs, hXl, hsp]
      rw [← hR, ← hKe]
      exact ⟨rfl, K ++ List.replicate (l.length - K.length) 0, by simp, by simp [huB, wkC, laid]⟩
/-- Of no numbers. -/
theorem del0U (b : Bk) (bad : List Int) (es h1 h2 : List (PV × PV)) : CallsA Try.prog 53 [.pv (.lst false 1 []), (.fn 55 [] [.ptr (.par 0) 0])] (laid 0 (huB b bad es h1 h2 0)) (fun x B => x = .pv (.lst false 1 []) ∧ B = laid 0 (huB b bad es h1 h2 0)) := by
  have hC : CallsA Try.prog 81 [.pv (.lst false 1 []), (.fn 55 [] [.ptr (.par 0) 0])] (laid 0 (huB b bad es h1 h2 0)) (fun x B => x = .pv (.int .i64 (-1)) ∧ B = laid 0 (huB b bad es h1 h2 0)) := by
    refine calls_of_awpB [.par 0, .par 1, .par 2, .par 3, .par 4, .par 5, .par 6, .par 7] mixed L81_ok (Nat.le_of_ble_eq_true rfl) ?_
    simp [-getElem?_pos, L81, huB, wkC, laid]
    refine awp_loopS (fun n τ => n = 0 ∧ τ = ⟨[(0, .pv (.lst false 1 [])), (1, (.fn 55 [] [.ptr (.par 0) 0])), (7, .pv (.int .i64 0)), (8, .pv (.int .i64 0))], laid 0 (huB b bad es h1 h2 0)⟩) ⟨0, ⟨[(0, .pv (.lst false 1 [])), (1, (.fn 55 [] [.ptr (.par 0) 0])), (7, .pv (.int .i64 0)), (8, .pv (.int .i64 0))], laid 0 (huB b bad es h1 h2 0)⟩, Sub.mk (by simp) (by simp [huB, wkC, laid]), rfl, rfl⟩ ?_
    rintro J hJ n τ ⟨rfl, rfl⟩
    simp [-getElem?_pos, huB, wkC, laid]
  refine calls_of_awpB [.par 0, .par 1, .par 2, .par 3, .par 4, .par 5, .par 6, .par 7] mixed L53_ok (Nat.le_of_ble_eq_true rfl) ?_
  simp [-getElem?_pos, L53, huB, wkC, laid]
  refine call_lent (as' := [.pv (.lst false 1 []), (.fn 55 [] [.ptr (.par 0) 0])]) (B := laid 0 (huB b bad es h1 h2 0)) (fs := []) (cs := []) 10 [.par 0, .par 1, .par 2, .par 3, .par 4, .par 5, .par 6, .par 7] ?_ rfl rfl ?_ ?_ ?_ hC ?_
  · rfl
  · simp [huB, wkC, laid]
  · rfl
  · rfl
  rintro r0 B0 ⟨rfl, rfl⟩
  refine ⟨rfl, by simp [huB, wkC, laid], ?_⟩
  simp [-getElem?_pos, huB, wkC, laid]
end
end Go.Proofs.Ytcgdopjmbadonaa
/-! Contracts of layer 2 (chain): Held. -/
namespace Go.Proofs.Ytcgdopjmbadonaa
open Go.RowKit
set_option maxRecDepth 10000
set_option linter.unusedSimpArgs false
theorem held_filter {b : Bk} (hb : b.ok) {bad : List Int} : b.nums.filter (fun n => (b.held bad).contains n) = b.held bad := by
  refine inc_ext (nums_sorted.filter _) (heldU_sorted 1000).1 (fun x => ?_)
  rw [List.mem_filter, List.contains_iff_mem]
  exact ⟨fun h => h.2, fun h => ⟨heldIn hb h, h⟩⟩
attribute [local irreducible] Bk.held Bk.nums
/-- What Held answers. -/
def Bk.heldM (b : Bk) (bad : List Int) : List Int × Int := if b.fault = 0 then (if areB bad = true then (b.held bad, 0) else ([], 2)) else ([], b.fault)
def lstE (x : List Int × Int) : PV := .tup [.lst false 1 (x.1.map intP), .int .i64 x.2]
theorem lstE_wk {e : Int} {l : List Int × Int} (h : l = ([], e)) : ∀ m v, RdP m v (.tup [.emp (some true), .int .i64 e]) → RdP m v (lstE l) := by
  subst h
  intro m v hv
  refine tup_wk (cs := [.emp (some true), .int .i64 e]) (cs' := [.lst false 1 [], .int .i64 e]) rfl ?_ hv
  intro j c c' d h1 h2 hr
  match j with
  | 0 => simp at h1 h2; subst h1 h2; exact emp_lst hr
  | 1 => simp at h1 h2; subst h1 h2; exact hr
  | j + 2 => simp at h1
attribute [local simp] AS.exp expG Box.ren AV.map AV.mapL outsOk noRet Site.isRet Box.allS AV.allS AV.allSL retB dropL AS.adds renL outG outOk lentBx inG fnOf lookA List.findIdx?_cons
attribute [local simp] Box.purge Site.isLoc
attribute [local simp] badZ_has badZ_all badZ_purge badZ_map badZ_frz
attribute [local simp] retFz frzL AS.frz AV.frz AV.frzL Box.frz AS.tidy AS.frzC
set_option maxHeartbeats 16000000 in
theorem Held_c (b : Bk) (hi : b.items.length ≤ 1000) (hc : b.certs.length ≤ 1000) (bad : List Int) (hbl : bad.length ≤ 1000) : CallsA Try.prog 34 [.pv b.pv, .pv (.lst false 1 (bad.map intP))] [] (fun r B => r = .pv (lstE (b.heldM bad)) ∧ B = []) := by
  have hr := without_c b hi hc bad hbl
  refine CallsA.weak2 ?_
  refine calls_of_awpF [.loc 24 0] mixed L34_ok (Nat.le_of_ble_eq_true rfl) ?_
  generalize hR : (fun (r : AV) (B : List (Site × Box)) => ∃ x, r = AV.pv x ∧ B = [] ∧ ∀ m v, RdP m v x → RdP m v (lstE (b.heldM bad))) = R
  simp [-getElem?_pos, L34, Bk.pv]
  refine call_lent (as' := [.pv b.pv, .pv (.lst false 1 (bad.map intP))]) (B := []) (fs := []) (cs := []) 12 [] ?_ rfl rfl rfl ?_ ?_ hr ?_
  · rfl
  · rfl
  · rfl
  rintro r0 B0 (⟨h0, rfl, rfl⟩ | ⟨h0, h1, rfl, rfl⟩ | ⟨h0, h1, es, hes, rfl, rfl⟩)
  · refine ⟨rfl, by simp, ?_⟩
    have hd : decide (b.fault = 0) = false := by simpa using h0
    simp [-getElem?_pos, -decide_eq_true_eq, -decide_eq_false_iff_not, hd]
    rw [← hR]
    exact ⟨_, rfl, rfl, lstE_wk (by unfold Bk.heldM; rw [if_neg h0])⟩
  · refine ⟨rfl, by simp, ?_⟩
    simp [-getElem?_pos]
    rw [← hR]
    exact ⟨_, rfl, rfl, lstE_wk (by unfold Bk.heldM; rw [if_pos h0, if_neg (by simp [h1])])⟩
  have hb : b.ok := Bk.ok_iff.1 h0
  have hM : b.heldM bad = (b.held bad, 0) := by unfold Bk.heldM; rw [if_pos h0, if_pos h1]
  refine ⟨rfl, by simp [wkC], ?_⟩
  simp [-getElem?_pos, -List.getElem?_map, wkC]
  refine call_lent (as' := [.ptr (.par 0) 0]) (B := laid 0 (wkB b bad es)) (fs := []) (cs := []) 19 [.loc 12 0, .loc 12 1] ?_ rfl rfl ?_ ?_ ?_ (held_c b hb bad es hes) ?_
  · rfl
  · simp [laid, wkB, wkC]
  · rfl
  · rfl
  rintro r0 B0 ⟨rfl, rfl⟩
  refine ⟨rfl, by simp [laid, wkB, wkC], ?_⟩
  have hH := hEnt_full hb bad
  have hf := held_filter hb (bad := bad)
  generalize hEnt b bad b.nums.length = hs at *
  simp [-getElem?_pos, -List.getElem?_map, laid, wkB, wkC]
  by_cases hn : b.nums = []
  · have hhe : b.held bad = [] := by rw [← hf, hn]; rfl
    rw [hn]
    simp only [List.map_nil]
    refine .inl (call_pv [] (fs := []) (xs := [.lst false 1 []]) (cs := []) rfl rfl clone0_c ?_)
    simp [-getElem?_pos, -List.getElem?_map, frzsL]
    refine call_lent (as' := [.pv (.lst false 1 []), .fn 64 [] [.ptr (.par 0) 0]]) (B := laid 0 (hdB hs 0)) (fs := []) (cs := []) 26 [.loc 8 0, .loc 19 0] ?_ rfl rfl ?_ ?_ ?_ (del0H hs) ?_
    · rfl
    · simp [laid, hdB]
    · rfl
    · rfl
    rintro r0 B0 ⟨rfl, rfl⟩
    refine ⟨rfl, by simp [laid, hdB], ?_⟩
    simp [-getElem?_pos, -List.getElem?_map, laid, hdB]
    rw [← hR, hM, hhe]
    exact ⟨_, rfl, rfl, fun m v h => h⟩
  · have hl := nums_len (b := b)
    refine call_lent (as' := [.pv (.lst false 1 (b.nums.map intP))]) (B := []) (fs := []) (cs := []) 24 [] ?_ rfl rfl rfl ?_ ?_ (clone_c b.nums hn (by omega)) ?_
    · rfl
    · rfl
    · rfl
    rintro r0 B0 ⟨rfl, rfl⟩
    refine ⟨rfl, by simp, ?_⟩
    simp [-getElem?_pos, -List.getElem?_map]
    refine call_lent (as' := [.vec (.par 0) 1 0 b.nums.length, .fn 64 [] [.ptr (.par 1) 0]]) (B := laid 0 (.arr 3 1 (b.nums.map intP) :: hdB hs 1)) (fs := []) (cs := []) 26 [.loc 24 0, .loc 8 0, .loc 19 0] ?_ rfl rfl ?_ ?_ ?_ (delH _ hs hH b.nums hl (fun _ _ => trivial)) ?_
    · rfl
    · simp [laid, hdB]
    · rfl
    · rfl
    rintro r0 B0 ⟨rfl, X, hX, rfl⟩
    have hff : (b.nums.filter fun n => !(fun n => !(b.held bad).contains n) n) = b.held bad := by
      refine Eq.trans (List.filter_congr fun n _ => ?_) hf
      exact Bool.not_not _
    rw [hff] at hX
    simp only [hff]
    refine ⟨rfl, by simp [laid, hdB], ?_⟩
    have hXm : (X.map intP).take (b.held bad).length = (b.held bad).map intP := by rw [← List.map_take, hX]
    have hXl : (b.held bad).length ≤ X.length := by
      have := congrArg List.length hX
      rw [List.length_take] at this; omega
    simp [-getElem?_pos, -List.getElem?_map, laid, hdB, hXm, hXl]
    rw [← hR, hM]
    exact ⟨_, rfl, rfl, fun m v h => h⟩
end Go.Proofs.Ytcgdopjmbadonaa
/-! Contracts of layer 2 (chain): Hung. -/
namespace Go.Proofs.Ytcgdopjmbadonaa
open Go.RowKit
set_option maxRecDepth 10000
set_option linter.unusedSimpArgs false
attribute [local irreducible] Bk.held Bk.nums
def Bk.hungB (b : Bk) (bad : List Int) (n : Int) : Bool := (b.held []).contains n && (!(b.held bad).contains n && !bad.contains n)
/-- What Hung answers. -/
def Bk.hungM (b : Bk) (bad : List Int) : List Int × Int := if b.fault = 0 then (if areB bad = true then (b.nums.filter (b.hungB bad), 0) else ([], 2)) else ([], b.fault)
theorem without0_c (b : Bk) (hi : b.items.length ≤ 1000) (hc : b.certs.length ≤ 1000) : CallsA Try.prog 50 [.pv b.pv, .pv (.emp (some true))] [] (woR b []) := by
  have h := without_c b hi hc [] (Nat.zero_le _)
  refine CallsA.weakArgs (xs := [b.pv, .emp (some true)]) (ys := [b.pv, .lst false 1 []]) h rfl ?_
  intro j x y m v h1 h2 hr
  match j with
  | 0 => simp at h1 h2; subst h1 h2; exact hr
  | 1 => simp at h1 h2; subst h1 h2; exact emp_lst hr
  | j + 2 => simp at h1
theorem nums_bd {b : Bk} (hb : b.ok) : ∀ n ∈ b.nums, 1 ≤ n ∧ n ≤ 999 := fun n hn => by
  obtain ⟨c, hc, rfl⟩ := (mem_nums hb).1 hn
  have := cert_bds hb hc
  omega
attribute [local simp] AS.exp expG Box.ren AV.map AV.mapL outsOk noRet Site.isRet Box.allS AV.allS AV.allSL retB dropL AS.adds renL outG outOk lentBx inG fnOf lookA List.findIdx?_cons
attribute [local simp] Box.purge Site.isLoc
attribute [local simp] badZ_has badZ_all badZ_purge badZ_map badZ_frz
attribute [local simp] retFz frzL AS.frz AV.frz AV.frzL Box.frz AS.tidy AS.frzC
set_option maxHeartbeats 16000000 in
theorem Hung_c (b : Bk) (hi : b.items.length ≤ 1000) (hc : b.certs.length ≤ 1000) (bad : List Int) (hbl : bad.length ≤ 1000) : CallsA Try.prog 19 [.pv b.pv, .pv (.lst false 1 (bad.map intP))] [] (fun r B => r = .pv (lstE (b.hungM bad)) ∧ B = []) := by
  have hr := without_c b hi hc bad hbl
  have hr0 := without0_c b hi hc
  refine CallsA.weak2 ?_
  refine calls_of_awpF [.loc 36 0] mixed L19_ok (Nat.le_of_ble_eq_true rfl) ?_
  generalize hR : (fun (r : AV) (B : List (Site × Box)) => ∃ x, r = AV.pv x ∧ B = [] ∧ ∀ m v, RdP m v x → RdP m v (lstE (b.hungM bad))) = R
  simp [-getElem?_pos, L19, Bk.pv]
  refine call_lent (as' := [.pv b.pv, .pv (.lst false 1 (bad.map intP))]) (B := []) (fs := []) (cs := []) 16 [] ?_ rfl rfl rfl ?_ ?_ hr ?_
  · rfl
  · rfl
  · rfl
  rintro r0 B0 (⟨h0, rfl, rfl⟩ | ⟨h0, h1, rfl, rfl⟩ | ⟨h0, h1, es, hes, rfl, rfl⟩)
  · refine ⟨rfl, by simp, ?_⟩
    have hd : decide (b.fault = 0) = false := by simpa using h0
    simp [-getElem?_pos, -decide_eq_true_eq, -decide_eq_false_iff_not, hd]
    rw [← hR]
    exact ⟨_, rfl, rfl, lstE_wk (by unfold Bk.hungM; rw [if_neg h0])⟩
  · refine ⟨rfl, by simp, ?_⟩
    simp [-getElem?_pos]
    rw [← hR]
    exact ⟨_, rfl, rfl, lstE_wk (by unfold Bk.hungM; rw [if_pos h0, if_neg (by simp [h1])])⟩
  have hb : b.ok := Bk.ok_iff.1 h0
  have hM : b.hungM bad = (b.nums.filter (b.hungB bad), 0) := by unfold Bk.hungM; rw [if_pos h0, if_pos h1]
  refine ⟨rfl, by simp [wkC], ?_⟩
  simp [-getElem?_pos, -List.getElem?_map, wkC]
  refine call_lent (as' := [.ptr (.par 0) 0]) (B := laid 0 (wkB b bad es)) (fs := []) (cs := []) 23 [.loc 16 0, .loc 16 1] ?_ rfl rfl ?_ ?_ ?_ (held_c b hb bad es hes) ?_
  · rfl
  · simp [laid, wkB, wkC]
  · rfl
  · rfl
  rintro r0 B0 ⟨rfl, rfl⟩
  refine ⟨rfl, by simp [laid, wkB, wkC], ?_⟩
  have hH2 := hEnt_full hb bad
  generalize hEnt b bad b.nums.length = hs2 at *
  simp [-getElem?_pos, -List.getElem?_map, laid, wkB, wkC]
  refine call_lent (as' := [.pv b.pv, .pv (.emp (some true))]) (B := []) (fs := []) (cs := []) 26 [] ?_ rfl rfl rfl ?_ ?_ hr0 ?_
  · rfl
  · rfl
  · rfl
  rintro r0 B0 (⟨k0, rfl, rfl⟩ | ⟨k0, k1, rfl, rfl⟩ | ⟨k0, k1, es2, hes2, rfl, rfl⟩)
  · exact absurd h0 k0
  · cases k1
  refine ⟨rfl, by simp [wkC], ?_⟩
  simp [-getElem?_pos, -List.getElem?_map, wkC]
  refine call_lent (as' := [.ptr (.par 0) 0]) (B := laid 0 (wkB b [] es2)) (fs := []) (cs := []) 30 [.loc 26 0, .loc 26 1] ?_ rfl rfl ?_ ?_ ?_ (held_c b hb [] es2 hes2) ?_
  · rfl
  · simp [laid, wkB, wkC]
  · rfl
  · rfl
  rintro r0 B0 ⟨rfl, rfl⟩
  refine ⟨rfl, by simp [laid, wkB, wkC], ?_⟩
  have hH1 := hEnt_full hb []
  generalize hEnt b [] b.nums.length = hs1 at *
  simp [-getElem?_pos, -List.getElem?_map, laid, wkB, wkC]
  by_cases hn : b.nums = []
  · have hhe : b.nums.filter (b.hungB bad) = [] := by rw [hn]; rfl
    rw [hn]
    simp only [List.map_nil]
    refine .inl (call_pv [] (fs := []) (xs := [.lst false 1 []]) (cs := []) rfl rfl clone0_c ?_)
    simp [-getElem?_pos, -List.getElem?_map, frzsL]
    have hd := del0U b bad es hs1 hs2
    refine call_lent (as' := [.pv (.lst false 1 []), .fn 55 [] [.ptr (.par 0) 0]]) (B := laid 0 (huB b bad es hs1 hs2 0)) (fs := []) (cs := []) 38 [.loc 12 0, .loc 11 0, .loc 8 0, .loc 6 0, .loc 30 0, .loc 23 0, .loc 16 0, .loc 16 1] ?_ rfl rfl ?_ ?_ ?_ hd ?_
    · rfl
    · simp [laid, huB, wkC, hn]
    · rfl
    · rfl
    rintro r0 B0 ⟨rfl, rfl⟩
    refine ⟨rfl, by simp [laid, huB, wkC], ?_⟩
    simp [-getElem?_pos, -List.getElem?_map, laid, huB, wkC]
    rw [← hR, hM, hhe]
    exact ⟨_, rfl, rfl, fun m v h => h⟩
  · have hl := nums_len (b := b)
    refine call_lent (as' := [.pv (.lst false 1 (b.nums.map intP))]) (B := []) (fs := []) (cs := []) 36 [] ?_ rfl rfl rfl ?_ ?_ (clone_c b.nums hn (by omega)) ?_
    · rfl
    · rfl
    · rfl
    rintro r0 B0 ⟨rfl, rfl⟩
    refine ⟨rfl, by simp, ?_⟩
    simp [-getElem?_pos, -List.getElem?_map]
    have hd := delU b bad es hs1 hs2 _ _ (b.hungB bad) hH1 hH2 (fun n => rfl) b.nums hl (nums_bd hb)
    refine call_lent (as' := [.vec (.par 0) 1 0 b.nums.length, .fn 55 [] [.ptr (.par 1) 0]]) (B := laid 0 (.arr 3 1 (b.nums.map intP) :: huB b bad es hs1 hs2 1)) (fs := []) (cs := []) 38 [.loc 36 0, .loc 12 0, .loc 11 0, .loc 8 0, .loc 6 0, .loc 30 0, .loc 23 0, .loc 16 0, .loc 16 1] ?_ rfl rfl ?_ ?_ ?_ hd ?_
    · rfl
    · simp [laid, huB, wkC]
    · rfl
    · rfl
    rintro r0 B0 ⟨rfl, X, hX, rfl⟩
    have hff : (b.nums.filter fun n => !(fun n => !b.hungB bad n) n) = b.nums.filter (b.hungB bad) := List.filter_congr fun n _ => Bool.not_not _
    rw [hff] at hX
    simp only [hff]
    generalize b.nums.filter (b.hungB bad) = RES at *
    refine ⟨rfl, by simp [laid, huB, wkC], ?_⟩
    have hXm : (X.map intP).take RES.length = RES.map intP := by rw [← List.map_take, hX]
    have hXl : RES.length ≤ X.length := by
      have := congrArg List.length hX
      rw [List.length_take] at this; omega
    simp [-getElem?_pos, -List.getElem?_map, laid, huB, wkC, hXm, hXl]
    rw [← hR, hM]
    exact ⟨_, rfl, rfl, fun m v h => h⟩
end Go.Proofs.Ytcgdopjmbadonaa
/-! Contracts of layer 2's reference and law (chain): lists, what holds. -/
namespace Go.Proofs.Ytcgdopjmbadonaa
open Go.RowKit
attribute [local simp] Box.purge Site.isLoc
set_option maxRecDepth 10000
set_option linter.unusedSimpArgs false
theorem pre_next {α : Type} {l : List α} {p : α → Bool} {k : Nat} {x : α} (h : ∀ (j : Nat) (x : α), j < k → l[j]? = some x → p x = true) (hx : l[k]? = some x) (hp : p x = true) : ∀ (j : Nat) (x : α), j < k + 1 → l[j]? = some x → p x = true := fun j y hj hy => by
  rcases Nat.lt_succ_iff_lt_or_eq.1 hj with e | e
  · exact h j y e hy
  · subst e; rw [hx] at hy; cases hy; exact hp
theorem all_no {α : Type} {l : List α} {p : α → Bool} {k : Nat} {x : α} (hx : l[k]? = some x) (hp : p x = false) : l.all p = false := by
  rw [List.all_eq_false]
  exact ⟨x, List.mem_of_getElem? hx, by simp [hp]⟩
theorem all_pre {α : Type} {l : List α} {p : α → Bool} (h : ∀ (j : Nat) (x : α), j < l.length → l[j]? = some x → p x = true) : l.all p = true := by
  rw [List.all_eq_true]
  intro x hx
  obtain ⟨j, hj⟩ := List.mem_iff_getElem?.1 hx
  exact h j x (List.getElem?_eq_some_iff.1 hj).1 hj
def Ct.cells (c : Ct) : List AV := [.pv (.int .i64 c.num), .pv (.int .i64 c.it), .pv (.int .i64 c.src), .pv (.int .i64 c.day), .pv (.int .i64 c.valid), .pv (.int .i64 c.diff.lo), .pv (.int .i64 c.diff.hi)]
theorem item_at {b : Bk} {i : Int} (h0 : 0 ≤ i) (h1 : i < b.items.length) : ∃ j : Nat, i = j ∧ j < b.items.length ∧ ∃ z, b.items[j]? = some z ∧ b.item i = z ∧ (b.items.map It.pv)[j]? = some (.agg [.int .i64 z.drift, .bool z.std, .int .i64 z.val.lo, .int .i64 z.val.hi]) := by
  have hz : b.items[i.toNat]? = some (b.items[i.toNat]'(by omega)) := List.getElem?_eq_getElem _
  refine ⟨i.toNat, by omega, by omega, _, hz, ?_, ?_⟩
  · unfold Bk.item; rw [hz]; rfl
  · rw [List.getElem?_map, hz]; rfl
theorem ct_at {b : Bk} {k : Nat} (h : k < b.certs.length) : ∃ o, b.certs[k]? = some o ∧ o ∈ b.certs ∧ (b.certs.map Ct.pv)[k]? = some (.agg [.int .i64 o.num, .int .i64 o.it, .int .i64 o.src, .int .i64 o.day, .int .i64 o.valid, .int .i64 o.diff.lo, .int .i64 o.diff.hi]) := by
  have hz : b.certs[k]? = some (b.certs[k]'h) := List.getElem?_eq_getElem _
  exact ⟨_, hz, List.mem_of_getElem? hz, by rw [List.getElem?_map, hz]; rfl⟩
theorem ints_c (a b : List Int) (ha : a.length ≤ 1000000) : Gives Try.prog 26 [.lst false 1 (a.map intP), .lst false 1 (b.map intP)] (.bool (decide (a = b))) := by
  obtain ⟨T, hT⟩ : ∃ T, T = decide (a = b) := ⟨_, rfl⟩
  rw [← hT]
  refine calls_of_awpS mixed L26_ok (Nat.le_of_ble_eq_true rfl) ?_
  by_cases hlen : a.length = b.length
  · simp [-getElem?_pos, L26, hlen]
    refine awp_loopS (fun n τ => ∃ k : Nat, k ≤ a.length ∧ n = a.length - k ∧ (∀ j : Nat, j < k → a[j]? = b[j]?) ∧ τ = ⟨[(0, .pv (.lst false 1 (a.map intP))), (1, .pv (.lst false 1 (b.map intP))), (5, .pv (.int .i64 k))], []⟩)
      ⟨a.length, ⟨[(0, .pv (.lst false 1 (a.map intP))), (1, .pv (.lst false 1 (b.map intP))), (5, .pv (.int .i64 0))], []⟩, Sub.mk (by simp) (by simp), 0, Nat.zero_le _, rfl, (fun j hj => by omega), rfl⟩ ?_
    rintro J hJ n τ ⟨k, hk, rfl, hinv, rfl⟩
    by_cases hlt : k < a.length
    · obtain ⟨x, hx⟩ : ∃ l, a[k]? = some l := ⟨a[k], List.getElem?_eq_getElem hlt⟩
      obtain ⟨y, hy⟩ : ∃ l, b[k]? = some l := ⟨b[k], List.getElem?_eq_getElem (by omega)⟩
      have hg1 : (a.map intP)[k]? = some (.int .i64 x) := by rw [List.getElem?_map, hx]; rfl
      have hg2 : (b.map intP)[k]? = some (.int .i64 y) := by rw [List.getElem?_map, hy]; rfl
      have hw := wrapK (k := k) (by omega)
      by_cases hxy : x = y
      · subst hxy
        have hround := hJ _ _ ⟨k + 1, hlt, rfl, (fun j hj => by
          rcases Nat.lt_succ_iff_lt_or_eq.1 hj with h | h
          · exact hinv j h
          · subst h; rw [hx, hy]), rfl⟩
        simp [-getElem?_pos, -List.getElem?_map, hlt, hg1, hg2, hw]
        exact ⟨_, _, (by omega : a.length - (k + 1) < a.length - k), Sub.mk (by simp) (by simp), hround⟩
      · have hne : a ≠ b := fun e => by subst e; rw [hx] at hy; cases hy; exact hxy rfl
        have hd : decide (x = y) = false := by simpa using hxy
        simp [-getElem?_pos, -List.getElem?_map, hlt, hg1, hg2, hxy]
        simp [hT, hne]
    · have he : k = a.length := by omega
      have heq : a = b := by
        apply List.ext_getElem?
        intro j
        by_cases hj : j < a.length
        · exact hinv j (by omega)
        · rw [List.getElem?_eq_none (by omega), List.getElem?_eq_none (by omega)]
      subst he
      simp [-getElem?_pos, -List.getElem?_map]
      simp [hT, heq]
  · have hne : a ≠ b := fun e => hlen (by rw [e])
    have h1 : ¬ ((a.length : Int) = (b.length : Int)) := by omega
    simp [-getElem?_pos, L26, h1, hlen]
    simp [hT, hne]
theorem thin_c (b : Bk) : Gives Try.prog 17 [b.pv] (.bool (decide (b.items.length ≤ 10) && decide (b.certs.length ≤ 28))) := by
  refine calls_of_awpS mixed L17_ok (Nat.le_of_ble_eq_true rfl) ?_
  have e1 : decide ((b.items.length : Int) ≤ 10) = decide (b.items.length ≤ 10) := by rw [Bool.eq_iff_iff]; simp; omega
  have e2 : decide ((b.certs.length : Int) ≤ 28) = decide (b.certs.length ≤ 28) := by rw [Bool.eq_iff_iff]; simp; omega
  cases h1 : decide (b.items.length ≤ 10)
  · rw [h1] at e1
    simp [-getElem?_pos, -decide_eq_true_eq, -decide_eq_false_iff_not, L17, Bk.pv, itsP, ctsP, e1]
  · rw [h1] at e1
    simp [-getElem?_pos, -decide_eq_true_eq, -decide_eq_false_iff_not, L17, Bk.pv, itsP, ctsP, e1, e2]
section
attribute [local simp] retFz frzL AS.frz AV.frz AV.frzL Box.frz AS.tidy AS.frzC
end
end Go.Proofs.Ytcgdopjmbadonaa
