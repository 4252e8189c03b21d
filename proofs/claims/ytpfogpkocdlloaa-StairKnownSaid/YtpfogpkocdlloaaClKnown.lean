/- The statement StairKnown answers true. (Several texts in one.) -/
import Derived.Test.YtpfogpkocdlloaaStD
import Derived.Test.YtpfogpkocdlloaaRows
import Derived.WalkKit
import Derived.ProofKit
import Derived.OpenShut
import Derived.Test.YtpfogpkocdlloaaStC
set_option linter.unusedVariables false
set_option linter.unusedSimpArgs false
/-! The statement StairKnown answers true. -/
namespace Go.Proofs.Ytpfogpkocdlloaa
open Go.RowKit
attribute [local simp] Box.purge Site.isLoc

set_option maxRecDepth 10000
set_option linter.unusedSimpArgs false

attribute [local simp] retFz frzL AS.frz AV.frz AV.frzL Box.frz AS.tidy
theorem hist_g' (s : St) (hl : s.runs.length ≤ 1000000) : Gives Try.prog 24 [s.pv] (.tup [.int .i64 s.many, .int .i64 s.possible]) := hist_c s hl
theorem any_take {l : List Rn} {k : Nat} {r : Rn} (h : l[k]? = some r) : (l.take (k + 1)).any (fun r => decide (r.res = 3)) = ((l.take k).any (fun r => decide (r.res = 3)) || decide (r.res = 3)) := by
  rw [List.take_add_one, h]
  simp
theorem St.loose_set {s : St} {level : Bool} {k : Nat} {r : Rn} (h : s.runs[k]? = some r) : (s.loose level k).runs.map Rn.pv = (s.runs.map Rn.pv).set k (r.loose level).pv := by
  unfold St.loose
  simp only
  rw [List.map_set, h]
  rfl
/-- The head of the loop that looks for a lost result. -/
def knH (s : St) (level : Bool) (k n : Nat) (j : Nat) : AS :=
  ⟨[(4, .ptr (.loc 4 0) 0), (10, .pv (.int .i64 n)), (11, .ptr (.loc 11 0) 0), (12, .pv (.int .i64 s.many)), (13, .pv (.int .i64 s.possible)), (14, .pv (.bool ((s.runs.take j).any fun r => decide (r.res = 3)))), (15, .pv (.int .i64 j))],
    [(.loc 52 0, .arr 43 2 ((s.loose level k).runs.map Rn.pv)), (.loc 11 0, .cells [.pv (.int .i64 s.levels), .pv (.int .i64 s.start), .vec (.loc 52 0) 2 0 s.runs.length]), (.loc 4 0, .cells s.cells)]⟩
set_option maxHeartbeats 16000000 in
theorem known_law (s : St) (w r : Int) (level : Bool) (hw0 : 0 ≤ w ∧ w ≤ 255) (hr0 : 0 ≤ r ∧ r ≤ 255) : Gives Try.prog 4 [s.pv, .int .u8 w, .int .u8 r, .bool level] (.bool true) := by
  refine calls_of_awpS mixed L4_ok (Nat.le_of_ble_eq_true rfl) ?_
  simp [-getElem?_pos, L4, St.pv]
  refine call_gives (k := 0) (fs := []) (xs := [s.pv]) (cs := []) rfl rfl (ready_c s) rfl ?_
  cases hrd : decide (s.runs.length ≤ 20) && decide (s.check = 0)
  · simp [-getElem?_pos]
    refine call_gives (k := 0) (fs := []) (xs := []) (cs := []) rfl rfl awake_c rfl ?_
    simp [-getElem?_pos]
  · have hrd' : s.runs.length ≤ 20 ∧ s.check = 0 := by simpa using hrd
    obtain ⟨hn, hc⟩ := hrd'
    by_cases hne : s.runs.length = 0
    · simp [-getElem?_pos, hne]
      refine call_gives (k := 0) (fs := []) (xs := []) (cs := []) rfl rfl awake_c rfl ?_
      simp [-getElem?_pos]
    · have hz : ¬ (s.runs.length : Int) = 0 := by omega
      have hw1 : IntKind.i64.wrap w = w := wrap64 (by omega)
      have hr1 : IntKind.i64.wrap r = r := wrap64 (by omega)
      obtain ⟨k, hk, hkl⟩ : ∃ k : Nat, w.tmod s.runs.length = (k : Int) ∧ k < s.runs.length := by
        have h1 := Int.tmod_nonneg (s.runs.length : Int) hw0.1
        have h2 := Int.tmod_lt_of_pos w (show (0 : Int) < s.runs.length by omega)
        exact ⟨(w.tmod s.runs.length).toNat, by omega, by omega⟩
      obtain ⟨n, hnn, hnl⟩ : ∃ n : Nat, r.tmod s.runs.length = (n : Int) ∧ n < s.runs.length := by
        have h1 := Int.tmod_nonneg (s.runs.length : Int) hr0.1
        have h2 := Int.tmod_lt_of_pos r (show (0 : Int) < s.runs.length by omega)
        exact ⟨(r.tmod s.runs.length).toNat, by omega, by omega⟩
      have hnil : ¬ s.runs = [] := fun e => hne (by rw [e]; rfl)
      have h6 : s.runs.length ≤ 1000000 := by omega
      have hxk : s.runs[k]? = some s.runs[k] := List.getElem?_eq_getElem hkl
      generalize s.runs[k] = q at hxk
      have hset := fun level => St.loose_set (s := s) (level := level) hxk
      obtain ⟨lv, rs⟩ := q
      have hgr : (s.runs.map Rn.pv)[k]? = some (.agg [.int .i64 lv, .int .u8 rs]) := by rw [List.getElem?_map, hxk]; rfl
      have hmay := fun level => St.loose_len (s := s) (level := level) (k := k)
      cases level with
      | true =>
        have hs1 : (s.runs.map Rn.pv).set k (.agg [.int .i64 (-1), .int .u8 rs]) = (s.loose true k).runs.map Rn.pv := (hset true).symm
        have hlen := hmay true
        have hxl : (s.loose true k).levels = s.levels := rfl
        have hxs : (s.loose true k).start = s.start := rfl
        have htk : List.take s.runs.length ((s.loose true k).runs.map Rn.pv) = (s.loose true k).runs.map Rn.pv := List.take_of_length_le (by simp [hlen])
        simp [-getElem?_pos, -List.getElem?_map, hz, hw1, hr1, hk, hnn, nble, nblt, h6, hkl, hnil, hgr, setAt, hs1]
        refine .inl (call_pv [] (fs := []) (xs := [s.pv]) (cs := []) rfl rfl (stairs_c s (by omega)) ?_)
        simp [-getElem?_pos, frzsL]
        refine call_gives (k := 0) (fs := []) (xs := [s.pv]) (cs := []) rfl rfl (hist_g' s (by omega)) rfl ?_
        simp [-getElem?_pos]
        refine awp_loopS (fun m τ => ∃ j : Nat, j ≤ s.runs.length ∧ m = s.runs.length - j ∧ τ = knH s true k n j) ⟨s.runs.length, _, Sub.mk (by simp [knH]) (by simp [knH, St.cells]), 0, by omega, rfl, rfl⟩ ?_
        rintro J hJ m τ ⟨j, hj, rfl, rfl⟩
        by_cases hlt : j < s.runs.length
        · have hx : s.runs[j]? = some s.runs[j] := List.getElem?_eq_getElem hlt
          generalize s.runs[j] = q at hx
          have hat := any_take hx
          obtain ⟨lu, ru⟩ := q
          have hgj : (s.runs.map Rn.pv)[j]? = some (.agg [.int .i64 lu, .int .u8 ru]) := by rw [List.getElem?_map, hx]; rfl
          have hw : IntKind.i64.wrap ((j : Int) + 1) = ((j + 1 : Nat) : Int) := by rw [wrap64 (by omega)]; omega
          have hround := hJ _ _ ⟨j + 1, hlt, rfl, rfl⟩
          cases ha : (s.runs.take j).any fun r => decide (r.res = 3)
          · rw [ha, Bool.false_or] at hat
            simp [-getElem?_pos, -List.getElem?_map, -List.any_eq_true, -List.any_eq_false, knH, St.cells, hlt, nblt, hgj, hw, ha]
            refine ⟨_, _, (by omega : s.runs.length - (j + 1) < s.runs.length - j), Sub.mk ?_ ?_, hround⟩
            · simp [-List.any_eq_true, -List.any_eq_false, knH, hat]
            · simp [knH, St.cells]
          · rw [ha, Bool.true_or] at hat
            simp [-getElem?_pos, -List.getElem?_map, -List.any_eq_true, -List.any_eq_false, knH, St.cells, hlt, nblt, hgj, hw, ha]
            refine ⟨_, _, (by omega : s.runs.length - (j + 1) < s.runs.length - j), Sub.mk ?_ ?_, hround⟩
            · simp [-List.any_eq_true, -List.any_eq_false, knH, hat]
            · simp [knH, St.cells]
        · have he : j = s.runs.length := by omega
          subst he
          have hK : knH s true k n s.runs.length = ⟨[(4, .ptr (.loc 4 0) 0), (10, .pv (.int .i64 n)), (11, .ptr (.loc 11 0) 0), (12, .pv (.int .i64 s.many)), (13, .pv (.int .i64 s.possible)), (14, .pv (.bool (s.runs.any fun r => decide (r.res = 3)))), (15, .pv (.int .i64 s.runs.length))],
              [(.loc 52 0, .arr 43 2 ((s.loose true k).runs.map Rn.pv)), (.loc 11 0, .cells [.pv (.int .i64 s.levels), .pv (.int .i64 s.start), .vec (.loc 52 0) 2 0 s.runs.length]), (.loc 4 0, .cells s.cells)]⟩ := by
            unfold knH; rw [List.take_length]
          rw [hK]
          have hmany1 : (s.runs.any fun r => decide (r.res = 3)) = false → s.many ≤ 1 := fun h => by
            rw [St.many_all']
            split
            · exact St.many_lost (lostN_zero h)
            · omega
          generalize hlo : (s.runs.any fun r => decide (r.res = 3)) = lost at *
          by_cases hp : s.possible = 0
          · have hm0 : 0 < s.many := by rw [St.many_all', if_pos hp]; exact List.length_pos_iff.2 (St.all_ne hp)
            simp [-getElem?_pos, St.cells, hp]
            refine call_gives (k := 1) (fs := []) (xs := [(s.loose true k).pv]) (cs := []) rfl (by simp [snapW, AV.snap, AV.snap0, St.pv, hxl, hxs, htk, hlen]) (ready_c (s.loose true k)) rfl ?_
            cases hrx : decide ((s.loose true k).runs.length ≤ 20) && decide ((s.loose true k).check = 0)
            · cases lost with
              | true =>
                simp [-getElem?_pos]
                refine call_gives (k := 0) (fs := []) (xs := []) (cs := []) rfl rfl awake_c rfl ?_
                simp [-getElem?_pos]
              | false =>
                have hle := hmany1 rfl
                have hle' : decide ((s.many : Int) ≤ 1) = true := by simp; omega
                simp [-getElem?_pos, -decide_eq_true_eq, hle']
                refine call_gives (k := 0) (fs := []) (xs := []) (cs := []) rfl rfl awake_c rfl ?_
                simp [-getElem?_pos]
            · have hcx : (s.loose true k).check = 0 := by simp at hrx; exact hrx.2
              have hpx := St.loose_pos hp hcx
              have hmx := St.loose_many hp hcx
              have hsp := St.loose_span hp hcx n
              have hmd := St.loose_mid hp hcx
              have ra := rank_c s (by omega) n
              have rb := rank_c (s.loose true k) (by omega) n
              rw [St.rank_at hp hnl] at ra
              rw [St.rank_at hpx (by omega)] at rb
              have ma := middle_c s (by omega)
              have mb := middle_c (s.loose true k) (by omega)
              have hg2 := hist_g' (s.loose true k) (by omega)
              rw [hpx] at hg2
              have hst2 := stairs_c (s.loose true k) (by omega)
              have hpvx : (s.loose true k).pv = .agg [.int .i64 s.levels, .int .i64 s.start, .lst false 2 ((s.loose true k).runs.map Rn.pv)] := rfl
              have hxrl : ((s.loose true k).runs.map Rn.pv).length = s.runs.length := by rw [List.length_map]; exact hlen
              generalize (s.loose true k).runs.map Rn.pv = xr at *
              generalize (s.loose true k).pv = xpv at *
              subst hpvx
              generalize (s.loose true k).many = b at *
              generalize (s.endS n false).lim = lo1 at *
              generalize (s.endS n true).lim = hi1 at *
              generalize ((s.loose true k).endS n false).lim = lo2 at *
              generalize ((s.loose true k).endS n true).lim = hi2 at *
              have d1 : decide (b < s.many) = false := by simp; omega
              have d2 : decide (lo2 > lo1) = false := by simp; omega
              have d3 : decide (hi2 < hi1) = false := by simp; omega
              simp [-getElem?_pos]
              refine .inl (call_pv [.loc 52 0] (fs := []) (xs := [.agg [.int .i64 s.levels, .int .i64 s.start, .lst false 2 xr]]) (cs := []) rfl ?_ hst2 ?_)
              · simp [frzsL, htk, hxrl]
              simp [-getElem?_pos, frzsL, htk, hxrl]
              refine call_gives (k := 0) (fs := []) (xs := [.agg [.int .i64 s.levels, .int .i64 s.start, .lst false 2 xr]]) (cs := []) rfl rfl hg2 rfl ?_
              simp [-getElem?_pos]
              refine .inl (call_pv [] (fs := []) (xs := [s.pv]) (cs := []) rfl rfl (stairs_c s (by omega)) ?_)
              simp [-getElem?_pos, frzsL]
              refine call_gives (k := 0) (fs := []) (xs := [s.pv, .int .i64 n]) (cs := []) rfl rfl ra rfl ?_
              simp [-getElem?_pos, rangeP]
              refine .inl (call_pv [] (fs := []) (xs := [.agg [.int .i64 s.levels, .int .i64 s.start, .lst false 2 xr]]) (cs := []) rfl ?_ hst2 ?_)
              · simp [frzsL, htk, hxrl]
              simp [-getElem?_pos, frzsL]
              refine call_gives (k := 0) (fs := []) (xs := [.agg [.int .i64 s.levels, .int .i64 s.start, .lst false 2 xr], .int .i64 n]) (cs := []) rfl rfl rb rfl ?_
              simp [-getElem?_pos, rangeP]
              refine .inl (call_pv [] (fs := []) (xs := [s.pv]) (cs := []) rfl rfl (stairs_c s (by omega)) ?_)
              simp [-getElem?_pos, frzsL]
              refine call_gives (k := 0) (fs := []) (xs := [s.pv]) (cs := []) rfl rfl ma rfl ?_
              simp [-getElem?_pos, rangeP]
              refine .inl (call_pv [] (fs := []) (xs := [.agg [.int .i64 s.levels, .int .i64 s.start, .lst false 2 xr]]) (cs := []) rfl ?_ hst2 ?_)
              · simp [frzsL, htk, hxrl]
              simp [-getElem?_pos, frzsL]
              refine call_gives (k := 0) (fs := []) (xs := [.agg [.int .i64 s.levels, .int .i64 s.start, .lst false 2 xr]]) (cs := []) rfl rfl mb rfl ?_
              generalize s.middle = md at *
              generalize (s.loose true k).middle = mx at *
              obtain ⟨⟨md1, md2⟩, md3⟩ := md
              obtain ⟨⟨mx1, mx2⟩, mx3⟩ := mx
              simp only at hmd
              have last : lost = true ∨ lost = false ∧ decide (¬ (s.many : Int) = 1) = false := by
                cases lost with
                | true => exact .inl rfl
                | false => exact .inr ⟨rfl, by have := hmany1 rfl; simp; omega⟩
              cases hz3 : decide (md3 = 0)
              · have hz3' : ¬ md3 = 0 := by simpa using hz3
                rcases last with rfl | ⟨rfl, hl1⟩
                · simp [-getElem?_pos, -decide_eq_true_eq, -decide_eq_false_iff_not, -decide_not, rangeP, d1, d2, d3, hz3, hz3']
                  refine call_gives (k := 0) (fs := []) (xs := []) (cs := []) rfl rfl awake_c rfl ?_
                  simp [-getElem?_pos]
                · simp at hl1
                  have d1n : decide ((b : Int) < 1) = false := by simp; omega
                  simp [-getElem?_pos, -decide_eq_true_eq, -decide_eq_false_iff_not, rangeP, d1, d1n, d2, d3, hz3, hz3', hl1]
                  refine call_gives (k := 0) (fs := []) (xs := []) (cs := []) rfl rfl awake_c rfl ?_
                  simp [-getElem?_pos]
              · have hz3' : md3 = 0 := by simpa using hz3
                subst hz3'
                obtain ⟨e1, e2, e3⟩ := hmd rfl
                subst e1
                have e4 : decide (mx1 ≤ md1) = true := by simpa using e2
                have e5 : decide (mx2 ≥ md2) = true := by simpa using e3
                rcases last with rfl | ⟨rfl, hl1⟩
                · simp [-getElem?_pos, -decide_eq_true_eq, -decide_eq_false_iff_not, rangeP, d1, d2, d3, e4, e5]
                  refine call_gives (k := 0) (fs := []) (xs := []) (cs := []) rfl rfl awake_c rfl ?_
                  simp [-getElem?_pos]
                · simp at hl1
                  have d1n : decide ((b : Int) < 1) = false := by simp; omega
                  simp [-getElem?_pos, -decide_eq_true_eq, -decide_eq_false_iff_not, rangeP, d1, d2, d3, e4, e5, hl1, d1n]
                  refine call_gives (k := 0) (fs := []) (xs := []) (cs := []) rfl rfl awake_c rfl ?_
                  simp [-getElem?_pos]
          · have hp9 : s.possible = 9 := by
              have hpos := St.possible_all hc
              rw [hpos] at hp ⊢
              split at hp
              · rename_i h; rw [if_pos h]
              · exact absurd rfl hp
            have hmany0 : s.many = 0 := by rw [St.many_all', if_neg hp]
            simp [-getElem?_pos, St.cells, hp9, hmany0]
            cases lost with
            | true =>
              simp [-getElem?_pos]
              refine call_gives (k := 0) (fs := []) (xs := []) (cs := []) rfl rfl awake_c rfl ?_
              simp [-getElem?_pos]
            | false =>
              simp [-getElem?_pos]
              refine call_gives (k := 0) (fs := []) (xs := []) (cs := []) rfl rfl awake_c rfl ?_
              simp [-getElem?_pos]
      | false =>
        have hs1 : (s.runs.map Rn.pv).set k (.agg [.int .i64 lv, .int .u8 3]) = (s.loose false k).runs.map Rn.pv := (hset false).symm
        have hlen := hmay false
        have hxl : (s.loose false k).levels = s.levels := rfl
        have hxs : (s.loose false k).start = s.start := rfl
        have htk : List.take s.runs.length ((s.loose false k).runs.map Rn.pv) = (s.loose false k).runs.map Rn.pv := List.take_of_length_le (by simp [hlen])
        simp [-getElem?_pos, -List.getElem?_map, hz, hw1, hr1, hk, hnn, nble, nblt, h6, hkl, hnil, hgr, setAt, hs1]
        refine .inl (call_pv [] (fs := []) (xs := [s.pv]) (cs := []) rfl rfl (stairs_c s (by omega)) ?_)
        simp [-getElem?_pos, frzsL]
        refine call_gives (k := 0) (fs := []) (xs := [s.pv]) (cs := []) rfl rfl (hist_g' s (by omega)) rfl ?_
        simp [-getElem?_pos]
        refine awp_loopS (fun m τ => ∃ j : Nat, j ≤ s.runs.length ∧ m = s.runs.length - j ∧ τ = knH s false k n j) ⟨s.runs.length, _, Sub.mk (by simp [knH]) (by simp [knH, St.cells]), 0, by omega, rfl, rfl⟩ ?_
        rintro J hJ m τ ⟨j, hj, rfl, rfl⟩
        by_cases hlt : j < s.runs.length
        · have hx : s.runs[j]? = some s.runs[j] := List.getElem?_eq_getElem hlt
          generalize s.runs[j] = q at hx
          have hat := any_take hx
          obtain ⟨lu, ru⟩ := q
          have hgj : (s.runs.map Rn.pv)[j]? = some (.agg [.int .i64 lu, .int .u8 ru]) := by rw [List.getElem?_map, hx]; rfl
          have hw : IntKind.i64.wrap ((j : Int) + 1) = ((j + 1 : Nat) : Int) := by rw [wrap64 (by omega)]; omega
          have hround := hJ _ _ ⟨j + 1, hlt, rfl, rfl⟩
          cases ha : (s.runs.take j).any fun r => decide (r.res = 3)
          · rw [ha, Bool.false_or] at hat
            simp [-getElem?_pos, -List.getElem?_map, -List.any_eq_true, -List.any_eq_false, knH, St.cells, hlt, nblt, hgj, hw, ha]
            refine ⟨_, _, (by omega : s.runs.length - (j + 1) < s.runs.length - j), Sub.mk ?_ ?_, hround⟩
            · simp [-List.any_eq_true, -List.any_eq_false, knH, hat]
            · simp [knH, St.cells]
          · rw [ha, Bool.true_or] at hat
            simp [-getElem?_pos, -List.getElem?_map, -List.any_eq_true, -List.any_eq_false, knH, St.cells, hlt, nblt, hgj, hw, ha]
            refine ⟨_, _, (by omega : s.runs.length - (j + 1) < s.runs.length - j), Sub.mk ?_ ?_, hround⟩
            · simp [-List.any_eq_true, -List.any_eq_false, knH, hat]
            · simp [knH, St.cells]
        · have he : j = s.runs.length := by omega
          subst he
          have hK : knH s false k n s.runs.length = ⟨[(4, .ptr (.loc 4 0) 0), (10, .pv (.int .i64 n)), (11, .ptr (.loc 11 0) 0), (12, .pv (.int .i64 s.many)), (13, .pv (.int .i64 s.possible)), (14, .pv (.bool (s.runs.any fun r => decide (r.res = 3)))), (15, .pv (.int .i64 s.runs.length))],
              [(.loc 52 0, .arr 43 2 ((s.loose false k).runs.map Rn.pv)), (.loc 11 0, .cells [.pv (.int .i64 s.levels), .pv (.int .i64 s.start), .vec (.loc 52 0) 2 0 s.runs.length]), (.loc 4 0, .cells s.cells)]⟩ := by
            unfold knH; rw [List.take_length]
          rw [hK]
          have hmany1 : (s.runs.any fun r => decide (r.res = 3)) = false → s.many ≤ 1 := fun h => by
            rw [St.many_all']
            split
            · exact St.many_lost (lostN_zero h)
            · omega
          generalize hlo : (s.runs.any fun r => decide (r.res = 3)) = lost at *
          by_cases hp : s.possible = 0
          · have hm0 : 0 < s.many := by rw [St.many_all', if_pos hp]; exact List.length_pos_iff.2 (St.all_ne hp)
            simp [-getElem?_pos, St.cells, hp]
            refine call_gives (k := 1) (fs := []) (xs := [(s.loose false k).pv]) (cs := []) rfl (by simp [snapW, AV.snap, AV.snap0, St.pv, hxl, hxs, htk, hlen]) (ready_c (s.loose false k)) rfl ?_
            cases hrx : decide ((s.loose false k).runs.length ≤ 20) && decide ((s.loose false k).check = 0)
            · cases lost with
              | true =>
                simp [-getElem?_pos]
                refine call_gives (k := 0) (fs := []) (xs := []) (cs := []) rfl rfl awake_c rfl ?_
                simp [-getElem?_pos]
              | false =>
                have hle := hmany1 rfl
                have hle' : decide ((s.many : Int) ≤ 1) = true := by simp; omega
                simp [-getElem?_pos, -decide_eq_true_eq, hle']
                refine call_gives (k := 0) (fs := []) (xs := []) (cs := []) rfl rfl awake_c rfl ?_
                simp [-getElem?_pos]
            · have hcx : (s.loose false k).check = 0 := by simp at hrx; exact hrx.2
              have hpx := St.loose_pos hp hcx
              have hmx := St.loose_many hp hcx
              have hsp := St.loose_span hp hcx n
              have hmd := St.loose_mid hp hcx
              have ra := rank_c s (by omega) n
              have rb := rank_c (s.loose false k) (by omega) n
              rw [St.rank_at hp hnl] at ra
              rw [St.rank_at hpx (by omega)] at rb
              have ma := middle_c s (by omega)
              have mb := middle_c (s.loose false k) (by omega)
              have hg2 := hist_g' (s.loose false k) (by omega)
              rw [hpx] at hg2
              have hst2 := stairs_c (s.loose false k) (by omega)
              have hpvx : (s.loose false k).pv = .agg [.int .i64 s.levels, .int .i64 s.start, .lst false 2 ((s.loose false k).runs.map Rn.pv)] := rfl
              have hxrl : ((s.loose false k).runs.map Rn.pv).length = s.runs.length := by rw [List.length_map]; exact hlen
              generalize (s.loose false k).runs.map Rn.pv = xr at *
              generalize (s.loose false k).pv = xpv at *
              subst hpvx
              generalize (s.loose false k).many = b at *
              generalize (s.endS n false).lim = lo1 at *
              generalize (s.endS n true).lim = hi1 at *
              generalize ((s.loose false k).endS n false).lim = lo2 at *
              generalize ((s.loose false k).endS n true).lim = hi2 at *
              have d1 : decide (b < s.many) = false := by simp; omega
              have d2 : decide (lo2 > lo1) = false := by simp; omega
              have d3 : decide (hi2 < hi1) = false := by simp; omega
              simp [-getElem?_pos]
              refine .inl (call_pv [.loc 52 0] (fs := []) (xs := [.agg [.int .i64 s.levels, .int .i64 s.start, .lst false 2 xr]]) (cs := []) rfl ?_ hst2 ?_)
              · simp [frzsL, htk, hxrl]
              simp [-getElem?_pos, frzsL, htk, hxrl]
              refine call_gives (k := 0) (fs := []) (xs := [.agg [.int .i64 s.levels, .int .i64 s.start, .lst false 2 xr]]) (cs := []) rfl rfl hg2 rfl ?_
              simp [-getElem?_pos]
              refine .inl (call_pv [] (fs := []) (xs := [s.pv]) (cs := []) rfl rfl (stairs_c s (by omega)) ?_)
              simp [-getElem?_pos, frzsL]
              refine call_gives (k := 0) (fs := []) (xs := [s.pv, .int .i64 n]) (cs := []) rfl rfl ra rfl ?_
              simp [-getElem?_pos, rangeP]
              refine .inl (call_pv [] (fs := []) (xs := [.agg [.int .i64 s.levels, .int .i64 s.start, .lst false 2 xr]]) (cs := []) rfl ?_ hst2 ?_)
              · simp [frzsL, htk, hxrl]
              simp [-getElem?_pos, frzsL]
              refine call_gives (k := 0) (fs := []) (xs := [.agg [.int .i64 s.levels, .int .i64 s.start, .lst false 2 xr], .int .i64 n]) (cs := []) rfl rfl rb rfl ?_
              simp [-getElem?_pos, rangeP]
              refine .inl (call_pv [] (fs := []) (xs := [s.pv]) (cs := []) rfl rfl (stairs_c s (by omega)) ?_)
              simp [-getElem?_pos, frzsL]
              refine call_gives (k := 0) (fs := []) (xs := [s.pv]) (cs := []) rfl rfl ma rfl ?_
              simp [-getElem?_pos, rangeP]
              refine .inl (call_pv [] (fs := []) (xs := [.agg [.int .i64 s.levels, .int .i64 s.start, .lst false 2 xr]]) (cs := []) rfl ?_ hst2 ?_)
              · simp [frzsL, htk, hxrl]
              simp [-getElem?_pos, frzsL]
              refine call_gives (k := 0) (fs := []) (xs := [.agg [.int .i64 s.levels, .int .i64 s.start, .lst false 2 xr]]) (cs := []) rfl rfl mb rfl ?_
              generalize s.middle = md at *
              generalize (s.loose false k).middle = mx at *
              obtain ⟨⟨md1, md2⟩, md3⟩ := md
              obtain ⟨⟨mx1, mx2⟩, mx3⟩ := mx
              simp only at hmd
              have last : lost = true ∨ lost = false ∧ decide (¬ (s.many : Int) = 1) = false := by
                cases lost with
                | true => exact .inl rfl
                | false => exact .inr ⟨rfl, by have := hmany1 rfl; simp; omega⟩
              cases hz3 : decide (md3 = 0)
              · have hz3' : ¬ md3 = 0 := by simpa using hz3
                rcases last with rfl | ⟨rfl, hl1⟩
                · simp [-getElem?_pos, -decide_eq_true_eq, -decide_eq_false_iff_not, -decide_not, rangeP, d1, d2, d3, hz3, hz3']
                  refine call_gives (k := 0) (fs := []) (xs := []) (cs := []) rfl rfl awake_c rfl ?_
                  simp [-getElem?_pos]
                · simp at hl1
                  have d1n : decide ((b : Int) < 1) = false := by simp; omega
                  simp [-getElem?_pos, -decide_eq_true_eq, -decide_eq_false_iff_not, rangeP, d1, d1n, d2, d3, hz3, hz3', hl1]
                  refine call_gives (k := 0) (fs := []) (xs := []) (cs := []) rfl rfl awake_c rfl ?_
                  simp [-getElem?_pos]
              · have hz3' : md3 = 0 := by simpa using hz3
                subst hz3'
                obtain ⟨e1, e2, e3⟩ := hmd rfl
                subst e1
                have e4 : decide (mx1 ≤ md1) = true := by simpa using e2
                have e5 : decide (mx2 ≥ md2) = true := by simpa using e3
                rcases last with rfl | ⟨rfl, hl1⟩
                · simp [-getElem?_pos, -decide_eq_true_eq, -decide_eq_false_iff_not, rangeP, d1, d2, d3, e4, e5]
                  refine call_gives (k := 0) (fs := []) (xs := []) (cs := []) rfl rfl awake_c rfl ?_
                  simp [-getElem?_pos]
                · simp at hl1
                  have d1n : decide ((b : Int) < 1) = false := by simp; omega
                  simp [-getElem?_pos, -decide_eq_true_eq, -decide_eq_false_iff_not, rangeP, d1, d2, d3, e4, e5, hl1, d1n]
                  refine call_gives (k := 0) (fs := []) (xs := []) (cs := []) rfl rfl awake_c rfl ?_
                  simp [-getElem?_pos]
          · have hp9 : s.possible = 9 := by
              have hpos := St.possible_all hc
              rw [hpos] at hp ⊢
              split at hp
              · rename_i h; rw [if_pos h]
              · exact absurd rfl hp
            have hmany0 : s.many = 0 := by rw [St.many_all', if_neg hp]
            simp [-getElem?_pos, St.cells, hp9, hmany0]
            cases lost with
            | true =>
              simp [-getElem?_pos]
              refine call_gives (k := 0) (fs := []) (xs := []) (cs := []) rfl rfl awake_c rfl ?_
              simp [-getElem?_pos]
            | false =>
              simp [-getElem?_pos]
              refine call_gives (k := 0) (fs := []) (xs := []) (cs := []) rfl rfl awake_c rfl ?_
              simp [-getElem?_pos]
end Go.Proofs.Ytpfogpkocdlloaa

/-! The statement StairKnown holds: for every input the law answers true, and its arguments read behind the call as before. No conditions. -/
namespace Go.Proofs.Ytpfogpkocdlloaa
open Go.ChangeShapes Go.WideShapes Go.ChangeAt Go.RowKit

set_option maxRecDepth 100000 in
theorem walkStairKnown (v0 v1 v2 v3 : Value) (W : World) {H : Type} {enc : TypeId × Value → H} {base : Nat} {sp : Nat → Bool} {hd : Bool} {d0 d1 d2 d3 : DataW H} {p0 p1 p2 p3 : List MemPlace}
    (k0 : Value.okWide Try.prog W .any base 24 v0) (h0 : DataW.Trod enc Try.prog W 0 sp hd 24 v0 d0 p0)
    (k1 : Value.okWide Try.prog W .any base 5 v1) (h1 : DataW.Trod enc Try.prog W 0 sp hd 5 v1 d1 p1)
    (k2 : Value.okWide Try.prog W .any base 5 v2) (h2 : DataW.Trod enc Try.prog W 0 sp hd 5 v2 d2 p2)
    (k3 : Value.okWide Try.prog W .any base 4 v3) (h3 : DataW.Trod enc Try.prog W 0 sp hd 4 v3 d3 p3) :
    Calls Try.prog 4 #[v0, v1, v2, v3] W fun e w' => e = .returned (.bool true) ∧ Keep [] W w' := by
  obtain ⟨n0, h0⟩ := h0
  obtain ⟨s0, w0, l0, r0⟩ := rd_stairs k0 h0
  obtain ⟨s1, rfl, rfl, rfl, w1⟩ := open_int Try.underlying5 k1 h1
  have w1 := kind_range w1
  obtain ⟨s2, rfl, rfl, rfl, w2⟩ := open_int Try.underlying5 k2 h2
  have w2 := kind_range w2
  obtain ⟨s3, rfl, rfl, rfl⟩ := open_bool Try.underlying4 k3 h3
  refine calls_bool (xs := [s0.pv, .int .u8 s1, .int .u8 s2, .bool s3]) (b := true) ((known_law s0 s1 s2 s3 (kr8 w1) (kr8 w2)).mono (fun _ _ h => h.1)) rfl (fun j v x e1 e2 => ?_)
  match j with
  | 0 => simp at e1 e2; subst e1 e2; exact r0
  | 1 => simp at e1 e2; subst e1 e2; exact .int .u8 s1
  | 2 => simp at e1 e2; subst e1 e2; exact .int .u8 s2
  | 3 => simp at e1 e2; subst e1 e2; exact .bool s3
  | j + 4 => simp at e1
set_option maxRecDepth 100000 in
theorem liftedStairKnown (os : Os) (started : os.Started) (H : Type) (enc : TypeId × Value → H) :
    ReturnsInHanded {} Try.checked os 4 .any (Rows.stairKnownSpec.pre6 enc Try.prog Try.f4 Rows.stairKnownRow.domain false) (Rows.stairKnownSpec.post enc Try.prog Try.f4 false true false false) := by
  refine returnsInHanded_of_change (C := Try.checked) own started (by kernel_rfl) Try.func4
    (ChangeSpec.witness6 (enc := enc) (C := Try.checked) false ⟨#[], #[.agg #[.int .i64 0, .int .i64 0, .slice none 0 0], .int .u8 0, .int .u8 0, .bool false], []⟩ 8 (by kernel_rfl) (by kernel_rfl) (by kernel_rfl) (by kernel_rfl)) ?_
  intro W base args ds gs before hval0 hW hcnd _
  have hval : ∀ (j : Nat) t v, Try.f4.params[j]? = some t → args[j]? = some v → Value.okWide Try.prog W .any base t v := hval0
  have hW' := hW
  obtain ⟨p, q, hA0, hV, rfl, hfz, hnd⟩ := hW
  have hA : DataW.TrodAll enc Try.prog W 0 (fun _ => true) true Try.f4.params.toList args.toList ds p := hA0
  rw [Try.params4] at hA hval
  obtain ⟨v0, vs0, d0, ds0, p0, q0, hargs, rfl, rfl, h0, r0⟩ := trodAll_cons hA
  obtain ⟨v1, vs1, d1, ds1, p1, q1, rfl, rfl, rfl, h1, r1⟩ := trodAll_cons r0
  obtain ⟨v2, vs2, d2, ds2, p2, q2, rfl, rfl, rfl, h2, r2⟩ := trodAll_cons r1
  obtain ⟨v3, vs3, d3, ds3, p3, q3, rfl, rfl, rfl, h3, r3⟩ := trodAll_cons r2
  obtain ⟨rfl, rfl, rfl⟩ := trodAll_nil r3
  have hargs' : args = #[v0, v1, v2, v3] := by
    apply Array.ext'
    exact hargs
  subst hargs'
  have k0 := hval 0 _ v0 rfl rfl
  have k1 := hval 1 _ v1 rfl rfl
  have k2 := hval 2 _ v2 rfl rfl
  have k3 := hval 3 _ v3 rfl rfl
  obtain ⟨rfl, rfl⟩ := trodVars_none hV
  refine (walkStairKnown v0 v1 v2 v3 W k0 h0 k1 h1 k2 h2 k3 h3).mono fun e W' ⟨he, hk⟩ => ?_
  subst he
  exact ⟨_, rfl, post_law (tb := 4) laidP rowedP fullP (by decide +kernel) rfl rfl rfl Try.underlying4 hW' hk⟩
theorem overStairKnown : Rows.stairKnownRow.holds Try.pinned (OpenSpec.ofChange Rows.stairKnownSpec) :=
  OpenClaim.holds_of_wide 4 Try.f4 rfl rfl rfl rfl rfl rfl rfl ⟨rfl, rfl, rfl, rfl, rfl⟩ rfl rfl rfl rfl rfl (by kernel_rfl) Try.func4 (by kernel_rfl)
    (of_decide_eq_true (by kernel_rfl)) (by unfold Func.isWrapper; first | (rw [if_pos (by decide +kernel)]; kernel_rfl) | (rw [if_neg (by decide +kernel)]; exact ⟨rfl, rfl⟩))
    (fun os started H enc _ => liftedStairKnown os started H enc)
theorem provedStairKnown : Rows.StairKnownSaid := overStairKnown
end Go.Proofs.Ytpfogpkocdlloaa
