/- Contracts of layer 2's reference (chain): the error of a book. (Several texts in one.) -/
import Derived.Test.YtaffbiibcfeigaaGreatChC
import Derived.Test.YtaffbiibcfeigaaGreatBaseD
import Derived.Test.YtaffbiibcfeigaaGreatChD
import Derived.Test.YtaffbiibcfeigaaGreatChE
import Derived.Test.YtaffbiibcfeigaaGreatChB
set_option linter.unusedVariables false
set_option linter.unusedSimpArgs false
/-! Contracts of layer 2's reference (chain): the error of a book. -/
namespace Go.Proofs.YtaffbiibcfeigaaGreat
open Go.RowKit
attribute [local simp] Box.purge Site.isLoc
set_option maxRecDepth 10000
set_option linter.unusedSimpArgs false
theorem rspan_ok (r : Cr) : (inB r.lo (-100000) r.hi && decide (r.hi ≤ 100000)) = r.okB := by
  unfold Cr.okB valB inB
  rw [Bool.eq_iff_iff]
  simp
  omega
def It.lowB (x : It) : Bool := inB x.drift 0 100 && x.val.okB && (x.std || (decide (x.val.lo = 0) && decide (x.val.hi = 0)))
theorem It.low_is (x : It) : x.okB = x.lowB := by
  unfold It.okB It.lowB
  congr 2
  obtain ⟨d, s, ⟨lo, hi⟩⟩ := x
  rw [Bool.eq_iff_iff]
  simp
def pairB (x y : Ct) : Bool := (decide (x.num = y.num) && decide (x ≠ y)) || (decide (y.num < x.num) && decide (x.day < y.day))
theorem twice_all {b : Bk} : b.twice = !(b.certs.all fun x => b.certs.all fun y => !pairB x y) := by
  have e : b.twice = b.certs.any fun x => b.certs.any fun y => pairB x y := rfl
  rw [e, Bool.eq_iff_iff]
  simp
set_option maxHeartbeats 16000000 in
theorem rfault_c (b : Bk) (h1 : b.items.length ≤ 1000) (h2 : b.certs.length ≤ 1000) : Gives Tryz.prog 8 [b.pv] (.int .i64 b.fault) := by
  have hbig : b.big = (decide (8 < b.items.length) || decide (24 < b.certs.length)) := rfl
  have hbad : b.bad = (!(b.items.all It.okB) || !(b.certs.all b.certB)) := rfl
  obtain ⟨F, hF⟩ : ∃ F, b.fault = F := ⟨_, rfl⟩
  have f3 : b.big = true → F = 3 := fun h => by rw [← hF, fault_big h]
  have f1 : b.big = false → b.bad = true → F = 1 := fun h h' => by rw [← hF, fault_bad h h']
  have f6 : b.big = false → b.bad = false → b.twice = true → F = 6 := fun h h' h'' => by rw [← hF, fault_two h h' h'']
  have f0 : b.big = false → b.bad = false → b.twice = false → F = 0 := fun h h' h'' => by rw [← hF, fault_no h h' h'']
  rw [hF]
  clear hF
  refine calls_of_awpS mixed L8_ok (Nat.le_of_ble_eq_true rfl) ?_
  by_cases c1 : 8 < b.items.length
  · have k1 : (8 : Int) < (b.items.length : Int) := by omega
    have k1' : ¬ ((b.items.length : Int) ≤ 8) := by omega
    simp [-getElem?_pos, L8, Bk.pv, itsP, ctsP, k1, k1', f3 (by rw [hbig]; simp [c1])]
  have d1 : decide ((8 : Int) < (b.items.length : Int)) = false := by simp; omega
  by_cases c2 : 24 < b.certs.length
  · have d2 : decide ((24 : Int) < (b.certs.length : Int)) = true := by simp; omega
    simp [-getElem?_pos, -decide_eq_true_eq, -decide_eq_false_iff_not, L8, Bk.pv, itsP, ctsP, d1, d2, f3 (by rw [hbig]; simp [c2])]
  have d2 : decide ((24 : Int) < (b.certs.length : Int)) = false := by simp; omega
  have nbig : b.big = false := by rw [hbig]; simp [c1, c2]
  have f1 := f1 nbig
  have f6 := f6 nbig
  have f0 := f0 nbig
  clear f3 hbig nbig
  simp [-getElem?_pos, -decide_eq_true_eq, -decide_eq_false_iff_not, L8, Bk.pv, itsP, ctsP, d1, d2]
  refine awp_loopS (fun n τ => ∃ k : Nat, k ≤ b.items.length ∧ n = b.items.length - k ∧ (∀ (j : Nat) (x : It), j < k → b.items[j]? = some x → x.okB = true) ∧ τ = ⟨[(1, .ptr (.loc 1 0) 0), (3, .pv (.int .i64 k))], [(.loc 1 0, .cells b.cells)]⟩)
    ⟨b.items.length, ⟨[(1, .ptr (.loc 1 0) 0), (3, .pv (.int .i64 0))], [(.loc 1 0, .cells b.cells)]⟩, Sub.mk (by simp) (by simp [Bk.cells, itsP, ctsP]), 0, by omega, rfl, (fun j x hj => by omega), rfl⟩ ?_
  rintro J hJ n τ ⟨k, hk, rfl, hinv, rfl⟩
  by_cases hlt : k < b.items.length
  · obtain ⟨z, hz⟩ : ∃ z, b.items[k]? = some z := ⟨b.items[k], List.getElem?_eq_getElem hlt⟩
    have hgz : (b.items.map It.pv)[k]? = some (.agg [.int .i64 z.drift, .bool z.std, .int .i64 z.val.lo, .int .i64 z.val.hi]) := by rw [List.getElem?_map, hz]; rfl
    have hw := wrapK (k := k) (by omega)
    have hok := It.low_is z
    unfold It.lowB at hok
    have hbd : z.okB = false → F = 1 := fun h => f1 (by rw [hbad, all_no hz h]; rfl)
    have hround := fun h : z.okB = true => hJ _ _ ⟨k + 1, hlt, rfl, pre_next hinv hz h, rfl⟩
    have hin := in_c z.drift 0 100
    have hsp := rspan_c z.val
    rw [rspan_ok] at hsp
    have hmeas : b.items.length - (k + 1) < b.items.length - k := by omega
    clear hJ
    simp [-getElem?_pos, -List.getElem?_map, -decide_eq_true_eq, -decide_eq_false_iff_not, Bk.cells, itsP, ctsP, hlt, hgz, hw]
    refine call_gives (k := 0) (fs := []) (xs := [.int .i64 z.drift, .int .i64 0, .int .i64 100]) (cs := []) rfl rfl hin rfl ?_
    cases e1 : inB z.drift 0 100
    · rw [e1] at hok
      simp [-getElem?_pos, hbd hok]
    simp [-getElem?_pos, -List.getElem?_map, -decide_eq_true_eq, -decide_eq_false_iff_not]
    refine call_gives (k := 0) (fs := []) (xs := [z.val.pv]) (cs := []) rfl rfl hsp rfl ?_
    cases e2 : z.val.okB
    · rw [e1, e2] at hok
      simp [-getElem?_pos, hbd hok]
    rw [e1, e2] at hok
    cases e3 : z.std
    · cases e4 : decide (z.val.lo = 0)
      · rw [e3, e4] at hok
        simp [-getElem?_pos, -List.getElem?_map, -decide_eq_true_eq, -decide_eq_false_iff_not, e3, e4, hbd hok]
      · cases e5 : decide (z.val.hi = 0)
        · rw [e3, e4, e5] at hok
          simp [-getElem?_pos, -List.getElem?_map, -decide_eq_true_eq, -decide_eq_false_iff_not, e3, e4, e5, hbd hok]
        · rw [e3, e4, e5] at hok
          have hround := hround hok
          simp [-getElem?_pos, -List.getElem?_map, -decide_eq_true_eq, -decide_eq_false_iff_not, e3, e4, e5, hw]
          exact ⟨_, _, hmeas, Sub.mk (by simp) (by simp [Bk.cells, itsP, ctsP]), hround⟩
    · rw [e3] at hok
      have hround := hround hok
      simp [-getElem?_pos, -List.getElem?_map, -decide_eq_true_eq, -decide_eq_false_iff_not, e3, hw]
      exact ⟨_, _, hmeas, Sub.mk (by simp) (by simp [Bk.cells, itsP, ctsP]), hround⟩
  have he : k = b.items.length := by omega
  subst he
  have hall := all_pre hinv
  rw [hall] at hbad
  clear hJ hinv
  have hits : ∀ i : Int, b.hasItem i = true → ∃ j : Nat, i = j ∧ j < b.items.length ∧ ∃ z, b.items[j]? = some z ∧ b.item i = z := fun i hi => by
    unfold Bk.hasItem inB at hi
    simp only [Bool.and_eq_true, decide_eq_true_eq] at hi
    refine ⟨i.toNat, by omega, by omega, b.items[i.toNat]'(by omega), List.getElem?_eq_getElem _, ?_⟩
    unfold Bk.item
    rw [List.getElem?_eq_getElem (by omega)]; rfl
  have hlw : IntKind.i64.wrap ((b.items.length : Int) - 1) = (b.items.length : Int) - 1 := wrap64 (by omega)
  simp [-getElem?_pos, -List.getElem?_map, Bk.cells, itsP, ctsP]
  refine awp_loopS (fun n τ => ∃ k : Nat, k ≤ b.certs.length ∧ n = b.certs.length - k ∧ (∀ (j : Nat) (x : Ct), j < k → b.certs[j]? = some x → b.certB x = true) ∧ τ = ⟨[(1, .ptr (.loc 1 0) 0), (5, .pv (.int .i64 k))], [(.loc 1 0, .cells b.cells)]⟩)
    ⟨b.certs.length, ⟨[(1, .ptr (.loc 1 0) 0), (5, .pv (.int .i64 0))], [(.loc 1 0, .cells b.cells)]⟩, Sub.mk (by simp) (by simp [Bk.cells, itsP, ctsP]), 0, by omega, rfl, (fun j x hj => by omega), rfl⟩ ?_
  rintro J hJ n τ ⟨k, hk, rfl, hinv, rfl⟩
  by_cases hlt : k < b.certs.length
  · obtain ⟨c, hc⟩ : ∃ c, b.certs[k]? = some c := ⟨b.certs[k], List.getElem?_eq_getElem hlt⟩
    have hgc : (b.certs.map Ct.pv)[k]? = some (.agg [.int .i64 c.num, .int .i64 c.it, .int .i64 c.src, .int .i64 c.day, .int .i64 c.valid, .int .i64 c.diff.lo, .int .i64 c.diff.hi]) := by rw [List.getElem?_map, hc]; rfl
    have hw := wrapK (k := k) (by omega)
    have hok : b.certB c = (inB c.num 1 999 && b.hasItem c.it && !(b.item c.it).std && b.hasItem c.src && decide (c.src ≠ c.it) && inB c.day 0 1000 && inB c.valid 0 1000 && c.diff.okB) := rfl
    have hbd : b.certB c = false → F = 1 := fun h => f1 (by rw [hbad, all_no hc h]; rfl)
    have hround := fun h : b.certB c = true => hJ _ _ ⟨k + 1, hlt, rfl, pre_next hinv hc h, rfl⟩
    have hin1 := in_c c.num 1 999
    have hin2 : Gives Tryz.prog 46 [.int .i64 c.it, .int .i64 0, .int .i64 ((b.items.length : Int) - 1)] (.bool (b.hasItem c.it)) := in_c c.it 0 _
    have hin3 : Gives Tryz.prog 46 [.int .i64 c.src, .int .i64 0, .int .i64 ((b.items.length : Int) - 1)] (.bool (b.hasItem c.src)) := in_c c.src 0 _
    have hin4 := in_c c.day 0 1000
    have hin5 := in_c c.valid 0 1000
    have hsp := rspan_c c.diff
    rw [rspan_ok] at hsp
    have hi4 := hits c.it
    have hmeas : b.certs.length - (k + 1) < b.certs.length - k := by omega
    clear hJ
    simp [-getElem?_pos, -List.getElem?_map, -decide_eq_true_eq, -decide_eq_false_iff_not, Bk.cells, itsP, ctsP, hlt, hgc, hw]
    refine call_gives (k := 0) (fs := []) (xs := [.int .i64 c.num, .int .i64 1, .int .i64 999]) (cs := []) rfl rfl hin1 rfl ?_
    cases e1 : inB c.num 1 999
    · rw [e1] at hok
      simp [-getElem?_pos, hbd (by rw [hok]; simp)]
    simp [-getElem?_pos, -List.getElem?_map, -decide_eq_true_eq, -decide_eq_false_iff_not, hlw]
    refine call_gives (k := 0) (fs := []) (xs := [.int .i64 c.it, .int .i64 0, .int .i64 ((b.items.length : Int) - 1)]) (cs := []) rfl rfl hin2 rfl ?_
    cases e2 : b.hasItem c.it
    · rw [e2] at hok
      simp [-getElem?_pos, hbd (by rw [hok]; simp)]
    obtain ⟨j, hj, hjl, z, hz, hbz⟩ := hi4 e2
    have hgz : (b.items.map It.pv)[j]? = some (.agg [.int .i64 z.drift, .bool z.std, .int .i64 z.val.lo, .int .i64 z.val.hi]) := by rw [List.getElem?_map, hz]; rfl
    simp [-getElem?_pos, -List.getElem?_map, -decide_eq_true_eq, -decide_eq_false_iff_not, hlw]
    refine call_gives (k := 0) (fs := []) (xs := [.int .i64 c.src, .int .i64 0, .int .i64 ((b.items.length : Int) - 1)]) (cs := []) rfl rfl hin3 rfl ?_
    cases e3 : b.hasItem c.src
    · rw [e3] at hok
      simp [-getElem?_pos, hbd (by rw [hok]; simp)]
    cases e4 : decide (c.src = c.it)
    case true =>
      have e4' : decide (c.src ≠ c.it) = false := by simpa using e4
      simp [-getElem?_pos, -List.getElem?_map, -decide_eq_true_eq, -decide_eq_false_iff_not, e4, hbd (by rw [hok, e4']; simp)]
    case false =>
    have e4' : decide (c.src ≠ c.it) = true := by simpa using e4
    rw [e1, e2, e3, e4', hbz] at hok
    have e4j : decide (c.src = (j : Int)) = false := by rw [← hj]; exact e4
    cases e5 : z.std
    case true =>
      rw [e5] at hok hgz
      simp [-getElem?_pos, -List.getElem?_map, -decide_eq_true_eq, -decide_eq_false_iff_not, e4j, hj, hgz, hjl, hbd (by rw [hok]; simp)]
    case false =>
    rw [e5] at hok hgz
    simp [-getElem?_pos, -List.getElem?_map, -decide_eq_true_eq, -decide_eq_false_iff_not, e4j, hj, hgz, hjl]
    refine call_gives (k := 0) (fs := []) (xs := [.int .i64 c.day, .int .i64 0, .int .i64 1000]) (cs := []) rfl rfl hin4 rfl ?_
    cases e6 : inB c.day 0 1000
    · rw [e6] at hok
      simp [-getElem?_pos, hbd (by rw [hok]; simp)]
    simp [-getElem?_pos, -List.getElem?_map, -decide_eq_true_eq, -decide_eq_false_iff_not]
    refine call_gives (k := 0) (fs := []) (xs := [.int .i64 c.valid, .int .i64 0, .int .i64 1000]) (cs := []) rfl rfl hin5 rfl ?_
    cases e7 : inB c.valid 0 1000
    · rw [e7] at hok
      simp [-getElem?_pos, hbd (by rw [hok]; simp)]
    simp [-getElem?_pos, -List.getElem?_map, -decide_eq_true_eq, -decide_eq_false_iff_not]
    refine call_gives (k := 0) (fs := []) (xs := [c.diff.pv]) (cs := []) rfl rfl hsp rfl ?_
    cases e8 : c.diff.okB
    · rw [e8] at hok
      simp [-getElem?_pos, hbd (by rw [hok]; simp)]
    rw [e6, e7, e8] at hok
    have hround := hround (by rw [hok]; rfl)
    simp [-getElem?_pos, -List.getElem?_map, -decide_eq_true_eq, -decide_eq_false_iff_not, hw]
    exact ⟨_, _, hmeas, Sub.mk (by simp) (by simp [Bk.cells, itsP, ctsP]), hround⟩
  have he : k = b.certs.length := by omega
  subst he
  have hall := all_pre hinv
  rw [hall] at hbad
  clear hJ hinv
  have f6 := f6 hbad
  have f0 := f0 hbad
  clear f1
  have htw := twice_all (b := b)
  simp [-getElem?_pos, -List.getElem?_map, Bk.cells, itsP, ctsP]
  refine awp_loopS (fun n τ => ∃ k : Nat, k ≤ b.certs.length ∧ n = b.certs.length - k ∧ (∀ (j : Nat) (x : Ct), j < k → b.certs[j]? = some x → (b.certs.all fun y => !pairB x y) = true) ∧ τ = ⟨[(1, .ptr (.loc 1 0) 0), (7, .pv (.int .i64 k))], [(.loc 1 0, .cells b.cells)]⟩)
    ⟨b.certs.length, ⟨[(1, .ptr (.loc 1 0) 0), (7, .pv (.int .i64 0))], [(.loc 1 0, .cells b.cells)]⟩, Sub.mk (by simp) (by simp [Bk.cells, itsP, ctsP]), 0, by omega, rfl, (fun j x hj => by omega), rfl⟩ ?_
  rintro J hJ n τ ⟨k, hk, rfl, hinv, rfl⟩
  by_cases hlt : k < b.certs.length
  · obtain ⟨c, hc⟩ : ∃ c, b.certs[k]? = some c := ⟨b.certs[k], List.getElem?_eq_getElem hlt⟩
    have hgc : (b.certs.map Ct.pv)[k]? = some (.agg [.int .i64 c.num, .int .i64 c.it, .int .i64 c.src, .int .i64 c.day, .int .i64 c.valid, .int .i64 c.diff.lo, .int .i64 c.diff.hi]) := by rw [List.getElem?_map, hc]; rfl
    have hw := wrapK (k := k) (by omega)
    have hround := fun h : (b.certs.all fun y => !pairB c y) = true => hJ _ _ ⟨k + 1, hlt, rfl, pre_next (p := fun x => b.certs.all fun y => !pairB x y) hinv hc h, rfl⟩
    have hno : (b.certs.all fun y => !pairB c y) = false → F = 6 := fun h => f6 (by rw [htw, all_no (p := fun x => b.certs.all fun y => !pairB x y) hc h]; rfl)
    have hmeas : b.certs.length - (k + 1) < b.certs.length - k := by omega
    clear hJ
    simp [-getElem?_pos, -List.getElem?_map, Bk.cells, itsP, ctsP, hlt]
    refine awp_loopS (fun n τ => ∃ i : Nat, i ≤ b.certs.length ∧ n = b.certs.length - i ∧ (∀ (j : Nat) (x : Ct), j < i → b.certs[j]? = some x → (!pairB c x) = true) ∧ τ = ⟨[(1, .ptr (.loc 1 0) 0), (7, .pv (.int .i64 k)), (8, .pv (.int .i64 i))], [(.loc 1 0, .cells b.cells)]⟩)
      ⟨b.certs.length, ⟨[(1, .ptr (.loc 1 0) 0), (7, .pv (.int .i64 k)), (8, .pv (.int .i64 0))], [(.loc 1 0, .cells b.cells)]⟩, Sub.mk (by simp) (by simp [Bk.cells, itsP, ctsP]), 0, by omega, rfl, (fun j x hj => by omega), rfl⟩ ?_
    rintro J2 hJ2 n τ ⟨i, hi, rfl, hinv2, rfl⟩
    by_cases hlt2 : i < b.certs.length
    · obtain ⟨y, hy⟩ : ∃ c, b.certs[i]? = some c := ⟨b.certs[i], List.getElem?_eq_getElem hlt2⟩
      have hgy : (b.certs.map Ct.pv)[i]? = some (.agg [.int .i64 y.num, .int .i64 y.it, .int .i64 y.src, .int .i64 y.day, .int .i64 y.valid, .int .i64 y.diff.lo, .int .i64 y.diff.hi]) := by rw [List.getElem?_map, hy]; rfl
      have hwi := wrapK (k := i) (by omega)
      have hround2 := fun h : (!pairB c y) = true => hJ2 _ _ ⟨i + 1, hlt2, rfl, pre_next (p := fun x => !pairB c x) hinv2 hy h, rfl⟩
      have hno2 : (!pairB c y) = false → F = 6 := fun h => hno (all_no (p := fun x => !pairB c x) hy h)
      have hP : pairB c y = ((decide (c.num = y.num) && !decide (c = y)) || (decide (y.num < c.num) && decide (c.day < y.day))) := by simp [pairB]
      have heq : eqK (.agg [.int .i64 c.num, .int .i64 c.it, .int .i64 c.src, .int .i64 c.day, .int .i64 c.valid, .int .i64 c.diff.lo, .int .i64 c.diff.hi]) (.agg [.int .i64 y.num, .int .i64 y.it, .int .i64 y.src, .int .i64 y.day, .int .i64 y.valid, .int .i64 y.diff.lo, .int .i64 y.diff.hi]) = decide (c = y) := eqK_ct
      have hmeas2 : b.certs.length - (i + 1) < b.certs.length - i := by omega
      clear hJ2
      simp [-getElem?_pos, -List.getElem?_map, -decide_eq_true_eq, -decide_eq_false_iff_not, Bk.cells, itsP, ctsP, hlt, hlt2, hgc, hgy, hwi]
      refine ltS_seq ⟨[(1, .ptr (.loc 1 0) 0), (7, .pv (.int .i64 k)), (8, .pv (.int .i64 i)), (9, .ptr (.loc 9 0) 0), (10, .ptr (.loc 10 0) 0), (151, .pv y.pv)], [(.loc 1 0, .cells b.cells), (.loc 9 0, .cells c.cells), (.loc 10 0, .cells (List.replicate 7 (.pv (.int .i64 0))))]⟩ ?_ ?_
      · simp [-getElem?_pos, -List.getElem?_map, ltS_alt, ltS_no, hlt, hlt2, hgc, hgy]
        repeat' (with_reducible refine And.intro ?_ ?_)
        all_goals
          refine Sub.mk ?_ ?_
          · simp [Ct.pv]
          · simp [Ct.cells, Bk.cells, itsP, ctsP, List.replicate]
      · cases a1 : decide (c.num = y.num)
        · simp [-getElem?_pos, -List.getElem?_map, -decide_eq_true_eq, -decide_eq_false_iff_not, ltS_alt, ltS_no, Ct.pv, Ct.cells, Bk.cells, List.replicate, heq, -eqK, a1]
          trace_state
          cases a3 : decide (y.num < c.num)
          · have hround2 := hround2 (by rw [hP, a1, a3]; rfl)
            simp [-getElem?_pos, -List.getElem?_map, -decide_eq_true_eq, -decide_eq_false_iff_not, Ct.pv, Ct.cells, Bk.cells, itsP, ctsP, heq, -eqK, hwi, a1, a3]
            exact ⟨_, _, hmeas2, Sub.mk (by simp) (by simp [Bk.cells, itsP, ctsP, Ct.cells]), hround2⟩
          · cases a4 : decide (c.day < y.day)
            · have hround2 := hround2 (by rw [hP, a1, a3, a4]; rfl)
              simp [-getElem?_pos, -List.getElem?_map, -decide_eq_true_eq, -decide_eq_false_iff_not, Ct.pv, Ct.cells, Bk.cells, itsP, ctsP, heq, -eqK, hwi, a1, a3, a4]
              exact ⟨_, _, hmeas2, Sub.mk (by simp) (by simp [Bk.cells, itsP, ctsP, Ct.cells]), hround2⟩
            · have hF := hno2 (by rw [hP, a1, a3, a4]; rfl)
              simp [-getElem?_pos, -List.getElem?_map, -decide_eq_true_eq, -decide_eq_false_iff_not, Ct.pv, Ct.cells, Bk.cells, itsP, ctsP, heq, -eqK, hwi, a1, a3, a4, hF]
        · cases a2 : decide (c = y)
          · have hF := hno2 (by rw [hP, a1, a2]; rfl)
            simp [-getElem?_pos, -List.getElem?_map, -decide_eq_true_eq, -decide_eq_false_iff_not, ltS_alt, ltS_no, Ct.pv, Ct.cells, Bk.cells, List.replicate, heq, -eqK, a1, a2, hF]
          · simp [-getElem?_pos, -List.getElem?_map, -decide_eq_true_eq, -decide_eq_false_iff_not, ltS_alt, ltS_no, Ct.pv, Ct.cells, Bk.cells, List.replicate, heq, -eqK, a1, a2]
            cases a3 : decide (y.num < c.num)
            · have hround2 := hround2 (by rw [hP, a1, a2, a3]; rfl)
              simp [-getElem?_pos, -List.getElem?_map, -decide_eq_true_eq, -decide_eq_false_iff_not, Ct.pv, Ct.cells, Bk.cells, itsP, ctsP, heq, -eqK, hwi, a1, a2, a3]
              exact ⟨_, _, hmeas2, Sub.mk (by simp) (by simp [Bk.cells, itsP, ctsP, Ct.cells]), hround2⟩
            · cases a4 : decide (c.day < y.day)
              · have hround2 := hround2 (by rw [hP, a1, a2, a3, a4]; rfl)
                simp [-getElem?_pos, -List.getElem?_map, -decide_eq_true_eq, -decide_eq_false_iff_not, Ct.pv, Ct.cells, Bk.cells, itsP, ctsP, heq, -eqK, hwi, a1, a2, a3, a4]
                exact ⟨_, _, hmeas2, Sub.mk (by simp) (by simp [Bk.cells, itsP, ctsP, Ct.cells]), hround2⟩
              · have hF := hno2 (by rw [hP, a1, a2, a3, a4]; rfl)
                simp [-getElem?_pos, -List.getElem?_map, -decide_eq_true_eq, -decide_eq_false_iff_not, Ct.pv, Ct.cells, Bk.cells, itsP, ctsP, heq, -eqK, hwi, a1, a2, a3, a4, hF]
    · have he : i = b.certs.length := by omega
      subst he
      have hround := hround (all_pre (p := fun x => !pairB c x) hinv2)
      simp [-getElem?_pos, -List.getElem?_map, Bk.cells, itsP, ctsP, hw]
      exact ⟨_, _, hmeas, Sub.mk (by simp) (by simp [Bk.cells, itsP, ctsP]), hround⟩
  have he : k = b.certs.length := by omega
  subst he
  have hF := f0 (by rw [htw, all_pre (p := fun x => b.certs.all fun y => !pairB x y) hinv]; rfl)
  simp [-getElem?_pos, -List.getElem?_map, Bk.cells, itsP, ctsP, hF]
end Go.Proofs.YtaffbiibcfeigaaGreat
/-! Contracts of layer 2's reference (chain): what holds. -/
namespace Go.Proofs.YtaffbiibcfeigaaGreat
open Go.RowKit
attribute [local simp] Box.purge Site.isLoc
attribute [local irreducible] Bk.held Bk.nums Bk.heldU
set_option maxRecDepth 10000
set_option linter.unusedSimpArgs false
end Go.Proofs.YtaffbiibcfeigaaGreat
/-! Contracts of layer 2's reference (chain): all that holds. -/
namespace Go.Proofs.YtaffbiibcfeigaaGreat
open Go.RowKit
attribute [local simp] Box.purge Site.isLoc
set_option maxRecDepth 10000
set_option linter.unusedSimpArgs false
attribute [local irreducible] Bk.held Bk.nums Bk.heldU
attribute [local simp] retFz frzL AS.frz AV.frz AV.frzL Box.frz AS.tidy AS.frzC
end Go.Proofs.YtaffbiibcfeigaaGreat
/-! Contracts of layer 2's law and reference (chain): Book, fault, IsHeld. -/
namespace Go.Proofs.YtaffbiibcfeigaaGreat
open Go.RowKit
attribute [local simp] Box.purge Site.isLoc
attribute [local irreducible] Bk.held Bk.nums Bk.heldU
set_option maxRecDepth 10000
set_option linter.unusedSimpArgs false
section
attribute [local simp] retFz frzL AS.frz AV.frz AV.frzL Box.frz AS.tidy AS.frzC
def bkK (b : Bk) (k : Nat) : AS := ⟨[(1, .ptr (.loc 1 0) 0), (2, .ptr (.loc 2 0) 0), (3, .ptr (.loc 3 0) 0), (4, .pv (.int .i64 k))], [(.loc 35 0, .arr 150 4 ((b.items.take k).map It.pv)), (.loc 3 0, .cells [.vec (.loc 35 0) 4 0 k, .pv (.emp (some true))]), (.loc 1 0, .cells b.cells), (.loc 2 0, .cells [.pv (.emp (some true)), .pv (.emp (some true))])]⟩
def bkR (b : Bk) (k : Nat) : AS := ⟨[(1, .ptr (.loc 1 0) 0), (2, .ptr (.loc 2 0) 0), (3, .ptr (.loc 3 0) 0), (6, .pv (.int .i64 k))], [(.loc 70 0, .arr 161 7 ((b.certs.take k).map Ct.pv)), (.loc 35 0, .arr 150 4 (b.items.map It.pv)), (.loc 3 0, .cells [.vec (.loc 35 0) 4 0 b.items.length, .vec (.loc 70 0) 7 0 k]), (.loc 1 0, .cells b.cells), (.loc 2 0, .cells [.pv (.emp (some true)), .pv (.emp (some true))])]⟩
set_option maxHeartbeats 16000000 in
theorem book_c (b : Bk) (h1 : b.items.length ≤ 1000) (h2 : b.certs.length ≤ 1000) : CallsA Tryz.prog 15 ([b.pv].map .pv) [] (fun r B => r = .pv b.pv ∧ B = []) := by
  refine calls_of_awpF [.loc 35 0, .loc 70 0] mixed L15_ok (Nat.le_of_ble_eq_true rfl) ?_
  generalize hR : (fun (r : AV) (B : List (Site × Box)) => r = .pv b.pv ∧ B = []) = R
  simp [-getElem?_pos, L15, Bk.pv]
  refine awp_loopS (fun n τ => ∃ k : Nat, k ≤ b.items.length ∧ n = b.items.length - k ∧ τ = bkK b k) ⟨b.items.length, bkK b 0, Sub.trans' (Sub.mk (by simp [bkK, AS.vecC]) (by simp [bkK, AS.vecC, Bk.cells])) (vecC 35 150 4 (s := .loc 3 0) (cs := [.pv (.emp (some true)), .pv (.emp (some true))]) 0 rfl rfl (by decide)), 0, by omega, rfl, rfl⟩ ?_
  rintro J hJ n τ ⟨k, hk, rfl, rfl⟩
  by_cases hlt : k < b.items.length
  · obtain ⟨x, hx⟩ : ∃ x, b.items[k]? = some x := ⟨b.items[k], List.getElem?_eq_getElem hlt⟩
    have hg : (b.items.map It.pv)[k]? = some (.agg [.int .i64 x.drift, .bool x.std, .int .i64 x.val.lo, .int .i64 x.val.hi]) := by rw [List.getElem?_map, hx]; rfl
    have hw := wrapK (k := k) (by omega)
    have hround := hJ _ _ ⟨k + 1, hlt, rfl, rfl⟩
    have htk : (b.items.take (k + 1)).map It.pv = (b.items.take k).map It.pv ++ [.agg [.int .i64 x.drift, .bool x.std, .int .i64 x.val.lo, .int .i64 x.val.hi]] := by rw [List.take_add_one, hx]; simp [It.pv]
    have hk6 : k + 1 ≤ 1000000 := by omega
    have htl : ((b.items.take k).map It.pv).length = k := by rw [List.length_map, List.length_take]; omega
    have hmeas : b.items.length - (k + 1) < b.items.length - k := by omega
    clear hJ
    generalize hTL : (b.items.take k).map It.pv = TL at *
    simp [-getElem?_pos, -List.getElem?_map, -decide_eq_true_eq, bkK, Bk.cells, itsP, ctsP, hlt, hg, nble, nblt, hw, hk6, hTL, htl]
    refine ⟨_, _, hmeas, Sub.mk ?_ ?_, hround⟩
    · simp [bkK]
    · simp [bkK, Bk.cells, itsP, ctsP, -List.map_take, -List.take_succ_cons, htk, hTL]
  have he : k = b.items.length := by omega
  subst he
  clear hJ
  simp [-getElem?_pos, -List.getElem?_map, -decide_eq_true_eq, bkK, Bk.cells, itsP, ctsP]
  refine awp_loopS (fun n τ => ∃ k : Nat, k ≤ b.certs.length ∧ n = b.certs.length - k ∧ τ = bkR b k) ⟨b.certs.length, bkR b 0, Sub.trans' (Sub.mk (by simp [bkR, AS.vecC]) (by simp [bkR, AS.vecC, Bk.cells, itsP, ctsP])) (vecC 70 161 7 (s := .loc 3 0) (cs := [.vec (.loc 35 0) 4 0 b.items.length, .pv (.emp (some true))]) 1 rfl rfl (by decide)), 0, by omega, rfl, rfl⟩ ?_
  rintro J hJ n τ ⟨k, hk, rfl, rfl⟩
  by_cases hlt : k < b.certs.length
  · obtain ⟨c, hc, hcm, hg⟩ := ct_at hlt
    have hw := wrapK (k := k) (by omega)
    have hround := hJ _ _ ⟨k + 1, hlt, rfl, rfl⟩
    have htk : (b.certs.take (k + 1)).map Ct.pv = (b.certs.take k).map Ct.pv ++ [.agg [.int .i64 c.num, .int .i64 c.it, .int .i64 c.src, .int .i64 c.day, .int .i64 c.valid, .int .i64 c.diff.lo, .int .i64 c.diff.hi]] := by rw [List.take_add_one, hc]; simp [Ct.pv]
    have hk6 : k + 1 ≤ 1000000 := by omega
    have htl : ((b.certs.take k).map Ct.pv).length = k := by rw [List.length_map, List.length_take]; omega
    have hmeas : b.certs.length - (k + 1) < b.certs.length - k := by omega
    clear hJ
    generalize hTL : (b.certs.take k).map Ct.pv = TL at *
    simp [-getElem?_pos, -List.getElem?_map, -decide_eq_true_eq, bkR, Bk.cells, itsP, ctsP, hlt, hg, nble, nblt, hw, hk6, hTL, htl]
    refine ⟨_, _, hmeas, Sub.mk ?_ ?_, hround⟩
    · simp [bkR]
    · simp [bkR, Bk.cells, itsP, ctsP, -List.map_take, -List.take_succ_cons, htk, hTL]
  have he : k = b.certs.length := by omega
  subst he
  clear hJ
  have hm1 : (b.items.map It.pv).take b.items.length = b.items.map It.pv := List.take_of_length_le (by simp)
  have hm2 : (b.certs.map Ct.pv).take b.certs.length = b.certs.map Ct.pv := List.take_of_length_le (by simp)
  simp [-getElem?_pos, -List.getElem?_map, -decide_eq_true_eq, bkR, Bk.cells, hm1, hm2]
  rw [← hR]
  simp [Bk.pv, itsP, ctsP]
  exact ⟨hm1, hm2⟩
end
end Go.Proofs.YtaffbiibcfeigaaGreat
/-! Contracts of layer 2's reference (chain): the span of an item. -/
namespace Go.Proofs.YtaffbiibcfeigaaGreat
open Go.RowKit
set_option maxRecDepth 10000
set_option linter.unusedSimpArgs false
/-- The cells of a thousand ranges, and of a list. -/
def szP (S : Int → Cr) (H : List Int) (i : Nat) : PV := if i < 2000 then (.int .i64 (if i % 2 = 0 then (S ((i / 2 : Nat) : Int)).lo else (S ((i / 2 : Nat) : Int)).hi)) else .lst false 1 (H.map intP)
def szL (S : Int → Cr) (H : List Int) : List AV := (List.range 2001).map fun i : Nat => .pv (szP S H i)
variable {S : Int → Cr} {H : List Int}
theorem szL_len : (szL S H).length = 2001 := by unfold szL; simp
theorem szL_get {i : Nat} (h : i < 2001) : (szL S H)[i]? = some (.pv (szP S H i)) := by
  unfold szL
  rw [List.getElem?_map, List.getElem?_range h]; rfl
theorem szL_last : (szL S H)[2000]? = some (.pv (.lst false 1 (H.map intP))) := by
  rw [szL_get (by omega)]
  unfold szP
  rw [if_neg (by omega)]
theorem szL_has (d : Nat) : AV.hasL d (szL S H) = false := mapPV_has _
theorem szL_all (q : Site → Bool) : AV.allSL q (szL S H) = true := mapPV_all _
theorem szL_purge (d : Nat) : (szL S H).map (AV.purge d) = szL S H := mapPV_purge _
theorem szL_map (g : Site → Site) : AV.mapL g (szL S H) = szL S H := mapPV_map _
attribute [irreducible] szL
attribute [local irreducible] Bk.held Bk.nums Bk.heldU Bk.span
attribute [local simp] AS.exp expG Box.ren AV.map AV.mapL outsOk noRet Site.isRet Box.allS AV.allS AV.allSL retB dropL AS.adds renL outG outOk lentBx inG fnOf lookA List.findIdx?_cons
attribute [local simp] Box.purge Site.isLoc
attribute [local simp] szL_has szL_all szL_purge szL_map szL_last szL_len
end Go.Proofs.YtaffbiibcfeigaaGreat
/-! Contracts of layer 2's reference (chain): all spans. -/
namespace Go.Proofs.YtaffbiibcfeigaaGreat
open Go.RowKit
set_option maxRecDepth 10000
set_option linter.unusedSimpArgs false
/-- The spans of the first that hold. -/
def Bk.spK (b : Bk) (k : Nat) (m : Int) : Cr := if ((b.held []).take k).contains m = true then b.span (b.held []) m else ⟨0, 0⟩
theorem held_sorted {b : Bk} {bad : List Int} : (b.held bad).Pairwise (· < ·) := (heldU_sorted 1000).1
attribute [local irreducible] Bk.held Bk.nums Bk.heldU Bk.span
/-- The spans in the midst of a round. -/
def Bk.spI (b : Bk) (k : Nat) (n : Int) (i : Nat) : Int → Cr := if ((b.certs.take i).any fun c => decide (c.num = n)) = true then b.spK (k + 1) else b.spK k
def szPs (S : Int → Cr) (H : List Int) : List PV := (List.range 2001).map (szP S H)
attribute [irreducible] szPs
attribute [local irreducible] Bk.spK Bk.spI
attribute [local simp] AS.exp expG Box.ren AV.map AV.mapL outsOk noRet Site.isRet Box.allS AV.allS AV.allSL retB dropL AS.adds renL outG outOk lentBx inG fnOf lookA List.findIdx?_cons
attribute [local simp] Box.purge Site.isLoc
attribute [local simp] szL_has szL_all szL_purge szL_map szL_last szL_len
end Go.Proofs.YtaffbiibcfeigaaGreat
/-! Contracts of layer 2's reference (chain): contradictory; what is asked. -/
namespace Go.Proofs.YtaffbiibcfeigaaGreat
open Go.RowKit
set_option maxRecDepth 10000
set_option linter.unusedSimpArgs false
attribute [local irreducible] Bk.held Bk.nums Bk.heldU Bk.span
attribute [local simp] AS.exp expG Box.ren AV.map AV.mapL outsOk noRet Site.isRet Box.allS AV.allS AV.allSL retB dropL AS.adds renL outG outOk lentBx inG fnOf lookA List.findIdx?_cons
attribute [local simp] Box.purge Site.isLoc
attribute [local simp] szL_has szL_all szL_purge szL_map szL_last szL_len
end Go.Proofs.YtaffbiibcfeigaaGreat
/-! Contracts of layer 2's law (chain): asked; the house of the examples. -/
namespace Go.Proofs.YtaffbiibcfeigaaGreat
open Go.RowKit
set_option maxRecDepth 10000
set_option linter.unusedSimpArgs false
attribute [local simp] AS.exp expG Box.ren AV.map AV.mapL outsOk noRet Site.isRet Box.allS AV.allS AV.allSL retB dropL AS.adds renL outG outOk lentBx inG fnOf lookA List.findIdx?_cons
attribute [local simp] Box.purge Site.isLoc
attribute [local simp] retFz frzL AS.frz AV.frz AV.frzL Box.frz AS.tidy AS.frzC
end Go.Proofs.YtaffbiibcfeigaaGreat
/-! Layer 2 (chain): it wakes. -/
namespace Go.Proofs.YtaffbiibcfeigaaGreat
open Go.RowKit
set_option maxRecDepth 10000
set_option linter.unusedSimpArgs false
attribute [local simp] AS.exp expG Box.ren AV.map AV.mapL outsOk noRet Site.isRet Box.allS AV.allS AV.allSL retB dropL AS.adds renL outG outOk lentBx inG fnOf lookA List.findIdx?_cons
attribute [local simp] Box.purge Site.isLoc
attribute [local simp] retFz frzL AS.frz AV.frz AV.frzL Box.frz AS.tidy AS.frzC
end Go.Proofs.YtaffbiibcfeigaaGreat
/-! Layer 2 (chain): facts of the program that every statement asks; lists among the arguments. -/
namespace Go.Proofs.YtaffbiibcfeigaaGreat
open Go.RowKit Go.ChangeShapes Go.WideShapes Go.Deep
theorem own : ownKnob Tryz.prog.godebug = none := by kernel_rfl
theorem laidP : laidOutB Tryz.prog = true := by kernel_rfl
theorem rowedP : mapsRowed Tryz.prog = true := by kernel_rfl
theorem fullP : ((List.range Tryz.prog.types.size).all fun t => match Tryz.prog.underlying t with | some (.slice e) => decide (0 < Tryz.prog.cellsOf e) | _ => true) = true := by kernel_rfl
set_option maxRecDepth 100000
theorem ku8 {n : Int} (h0 : (Lit.int .u8 n).wf = true) : 0 ≤ n ∧ n ≤ 255 := by
  have e1 : IntKind.u8.min = 0 := by decide
  have e2 : IntKind.u8.max = 255 := by decide
  have h := kind_range h0
  omega
theorem ku16 {n : Int} (h0 : (Lit.int .u16 n).wf = true) : 0 ≤ n ∧ n ≤ 65535 := by
  have e1 : IntKind.u16.min = 0 := by decide
  have e2 : IntKind.u16.max = 65535 := by decide
  have h := kind_range h0
  omega
theorem ku32 {n : Int} (h0 : (Lit.int .u32 n).wf = true) : 0 ≤ n ∧ n ≤ 4294967295 := by
  have e1 : IntKind.u32.min = 0 := by decide
  have e2 : IntKind.u32.max = 4294967295 := by decide
  have h := kind_range h0
  omega
section
variable {H : Type} {enc : TypeId × Value → H} {W : World} {sp : Nat → Bool} {held : Bool} {r : Reach} {base : Nat}
theorem cq16 : Tryz.prog.cellsOf 32 = 1 := by kernel_rfl
theorem kq16 {n : Int} (h : IntKind.u16.min ≤ n ∧ n ≤ IntKind.u16.max) : 0 ≤ n ∧ n < 65536 := by
  have e1 : IntKind.u16.min = 0 := by decide
  have e2 : IntKind.u16.max = 65535 := by decide
  omega
theorem rd_u16s {v : Value} {fuel : Nat} {x : DataW H × List MemPlace} (hok : Value.okWide Tryz.prog W r base 31 v) (h : DataW.trod enc Tryz.prog W 0 sp held fuel 31 v.cells.toList = some x) :
    ∃ l : List Int, (∀ y ∈ l, 0 ≤ y ∧ y < 65536) ∧ l.length ≤ 9223372036854775807 ∧ RdP W.mem v (.lst false 1 (l.map (PV.int .u16))) := by
  obtain ⟨_, _, _, rfl⟩ := okWide_slice Tryz.underlying31 hok
  exact rd_slice2 (PV.int .u16) (fun y => 0 ≤ y ∧ y < 65536) Tryz.underlying31 cq16 (by omega) h (fun k cs y hy hl => by
    obtain ⟨m, e, g, hr⟩ := rd_int Tryz.underlying32 hy
    exact ⟨m, kq16 g, hr⟩)
end
end Go.Proofs.YtaffbiibcfeigaaGreat
