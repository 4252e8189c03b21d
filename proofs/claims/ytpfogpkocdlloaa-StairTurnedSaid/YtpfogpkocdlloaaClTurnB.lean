/- The statement StairTurned answers true. (Several texts in one.) -/
import Derived.Test.YtpfogpkocdlloaaClTurnA
import Derived.Test.YtpfogpkocdlloaaStE
set_option linter.unusedVariables false
set_option linter.unusedSimpArgs false
/-! The statement StairTurned answers true. -/
namespace Go.Proofs.Ytpfogpkocdlloaa
open Go.RowKit
attribute [local simp] Box.purge Site.isLoc

set_option maxRecDepth 10000
set_option linter.unusedSimpArgs false

attribute [local simp] retFz frzL AS.frz AV.frz AV.frzL Box.frz AS.tidy
theorem hist_t (s : St) (hl : s.runs.length ≤ 1000000) : Gives Try.prog 24 [s.pv] (.tup [.int .i64 s.many, .int .i64 s.possible]) := hist_c s hl
/-- The head of the loop that turns the runs. -/
def turH (s : St) : Nat → AS
  | 0 => ⟨[(1, .ptr (.loc 1 0) 0), (3, .ptr (.loc 3 0) 0), (4, .pv (.int .i64 0))], [(.loc 3 0, .cells [.pv (.int .i64 s.levels), .pv (.int .i64 (s.levels - 1 - s.start)), .pv (.emp (some true))]), (.loc 1 0, .cells s.cells)]⟩
  | k + 1 => ⟨[(1, .ptr (.loc 1 0) 0), (3, .ptr (.loc 3 0) 0), (4, .pv (.int .i64 (k + 1 : Nat)))],
      [(.loc 67 0, .arr 43 2 ((s.turn.runs.map Rn.pv).take (k + 1))), (.loc 3 0, .cells [.pv (.int .i64 s.levels), .pv (.int .i64 (s.levels - 1 - s.start)), .vec (.loc 67 0) 2 0 (k + 1)]), (.loc 1 0, .cells s.cells)]⟩
/-- The head of the loop over the ranks. -/
def turL (s : St) (XL LV LX RS RX : List PV) (i : Nat) : AS :=
  ⟨[(1, .ptr (.loc 1 0) 0), (3, .ptr (.loc 3 0) 0), (10, .pv (.lst false 2 LV)), (11, .pv (.lst false 1 RS)), (13, .pv (.lst false 2 LX)), (14, .pv (.lst false 1 RX)), (16, .pv (.int .i64 i))],
   [(.loc 3 0, .cells [.pv (.int .i64 s.levels), .pv (.int .i64 (s.levels - 1 - s.start)), .pv (.lst false 2 XL)]), (.loc 1 0, .cells s.cells)]⟩
theorem St.turn_take {s : St} {k : Nat} {r : Rn} (h : s.runs[k]? = some r) : (s.turn.runs.map Rn.pv).take (k + 1) = (s.turn.runs.map Rn.pv).take k ++ [(r.turn s.levels).pv] := by
  rw [List.take_add_one, List.getElem?_map]
  show _ ++ (Option.map Rn.pv (s.runs.map (Rn.turn s.levels))[k]?).toList = _
  rw [List.getElem?_map, h]
  rfl
theorem St.turn_pk {s : St} (hc : s.check = 0) (hw : ∀ r ∈ s.runs, 0 ≤ r.res) (hp : s.possible = 0) {i : Nat} (hi : i < s.runs.length) :
    ∃ (lo hi' : Int) (W W' : List PV), (s.runS.lv.map pairP)[i]? = some (.agg [.int .i64 lo, .int .i64 hi']) ∧ (s.turn.runS.lv.map pairP)[i]? = some (.agg [.int .i64 (s.levels - 1 - hi'), .int .i64 (s.levels - 1 - lo)]) ∧
      (s.runS.rs.map fun l => PV.lst false 1 (u8L (sortI l)))[i]? = some (.lst false 1 W) ∧ (s.turn.runS.rs.map fun l => PV.lst false 1 (u8L (sortI l)))[i]? = some (.lst false 1 W') ∧ W.length = W'.length ∧ (0 ≤ lo ∧ lo ≤ s.levels - 1) ∧ 0 ≤ hi' ∧ hi' ≤ s.levels - 1 := by
  obtain ⟨lo, hi', q, q', h1, h2, h3, h4, h5, h6, h7⟩ := St.turn_runs hc hw hp hi
  refine ⟨lo, hi', u8L (sortI q), u8L (sortI q'), by rw [List.getElem?_map, h1]; rfl, by rw [List.getElem?_map, h3]; rfl, by rw [List.getElem?_map, h2]; rfl, by rw [List.getElem?_map, h4]; rfl, ?_, h6, h7⟩
  unfold u8L
  rw [List.length_map, List.length_map, h5]
set_option maxHeartbeats 32000000 in
theorem turned_law (s : St) (hres : ∀ r ∈ s.runs, 0 ≤ r.res) : Gives Try.prog 13 [s.pv] (.bool true) := by
  refine calls_of_awpS mixed L13_ok (Nat.le_of_ble_eq_true rfl) ?_
  simp [-getElem?_pos, L13, St.pv]
  refine call_gives (k := 0) (fs := []) (xs := [s.pv]) (cs := []) rfl rfl (ready_c s) rfl ?_
  cases hrd : decide (s.runs.length ≤ 20) && decide (s.check = 0)
  · simp [-getElem?_pos]
    refine call_gives (k := 0) (fs := []) (xs := []) (cs := []) rfl rfl awake_c rfl ?_
    simp [-getElem?_pos]
  · have hrd' : s.runs.length ≤ 20 ∧ s.check = 0 := by simpa using hrd
    obtain ⟨hn, hc⟩ := hrd'
    obtain ⟨q1, q2, _⟩ := St.check0 hc
    have hlw : IntKind.i64.wrap (s.levels - 1) = s.levels - 1 := wrap64 (by omega)
    have hls : IntKind.i64.wrap (s.levels - 1 - s.start) = s.levels - 1 - s.start := wrap64 (by omega)
    simp [-getElem?_pos, hlw, hls]
    refine awp_loopS (fun n τ => ∃ k : Nat, k ≤ s.runs.length ∧ n = s.runs.length - k ∧ τ = turH s k) ⟨s.runs.length, _, Sub.mk (by simp [turH]) (by simp [turH, St.cells]), 0, by omega, rfl, rfl⟩ ?_
    rintro J hJ n τ ⟨k, hk, rfl, rfl⟩
    by_cases hlt : k < s.runs.length
    · have hw : IntKind.i64.wrap ((k : Int) + 1) = ((k + 1 : Nat) : Int) := by rw [wrap64 (by omega)]; omega
      have hround := hJ _ _ ⟨k + 1, hlt, rfl, rfl⟩
      obtain ⟨r, hr⟩ : ∃ r, s.runs[k]? = some r := ⟨s.runs[k], List.getElem?_eq_getElem hlt⟩
      have hgr : (s.runs.map Rn.pv)[k]? = some (.agg [.int .i64 r.level, .int .u8 r.res]) := by rw [List.getElem?_map, hr]; rfl
      obtain ⟨f1, f2, f3⟩ := St.fits hc hres r (List.mem_of_getElem? hr)
      have htk := St.turn_take hr
      have hw8 : IntKind.i64.wrap (s.levels - 1 - r.level) = s.levels - 1 - r.level := wrap64 (by omega)
      have hl20 : k ≤ 20 := by omega
      clear hJ hrd
      by_cases c1 : 0 ≤ r.level <;> by_cases c2 : r.res < 2
      all_goals
        have hpt : (r.turn s.levels).pv = .agg [.int .i64 (if 0 ≤ r.level then s.levels - 1 - r.level else r.level), .int .u8 (if r.res < 2 then 1 - r.res else r.res)] := rfl
        rw [hpt] at htk
        simp only [c1, c2, if_true, if_false] at htk
        have hw7 : r.res < 2 → IntKind.u8.wrap (1 - r.res) = 1 - r.res := fun h => by
          have h2 : r.res = 0 ∨ r.res = 1 := by omega
          rcases h2 with e | e <;> rw [e] <;> rfl
        simp only [c2, true_implies, false_implies] at hw7
        cases k with
        | zero =>
          have hw1 : IntKind.i64.wrap 1 = 1 := rfl
          rw [List.take_zero, List.nil_append] at htk
          simp [-getElem?_pos, -List.getElem?_map, turH, St.cells, hlt, nble, nblt, hw1, hgr, c1, c2, hlw, hw7, hw8]
          refine ⟨_, _, (by omega : s.runs.length - 1 < s.runs.length), Sub.mk ?_ ?_, hround⟩
          · simp [turH]
          · simp [turH, St.cells, -List.map_take, -List.take_succ_cons, htk]
        | succ k =>
          rw [show ((k + 1 : Nat) : Int) = (k : Int) + 1 by omega] at hw
          have hlt' : decide ((k : Int) + 1 < (s.runs.length : Int)) = true := by simp; omega
          have hk6 : k + 1 + 1 ≤ 1000000 := by omega
          have htl : ((s.turn.runs.map Rn.pv).take (k + 1)).length = k + 1 := by rw [List.length_take, List.length_map, St.turn_len]; omega
          generalize hTL : (s.turn.runs.map Rn.pv).take (k + 1) = TL at *
          simp [-getElem?_pos, -decide_eq_true_eq, -List.getElem?_map, turH, St.cells, hlt', hw, nble, nblt, hk6, hgr, c1, c2, hlw, hw7, hw8, hTL, htl]
          refine ⟨_, _, (by omega : s.runs.length - (k + 1 + 1) < s.runs.length - (k + 1)), Sub.mk ?_ ?_, hround⟩
          · simp [turH]
          · simp [turH, St.cells, -List.map_take, -List.take_succ_cons, htk]
    · have he : k = s.runs.length := by omega
      subst he
      have hcx := St.turn_check hc hres
      have hpx := St.turn_possible hc hres
      have hlx := St.turn_len s
      obtain ⟨hl1, hl2⟩ := St.runs_len hc
      obtain ⟨hl3, hl4⟩ := St.runs_len hcx
      have hposs := St.possible_all hc
      have hpv : s.possible = 0 ∨ s.possible = 9 := by rw [hposs]; split <;> simp
      clear hposs hrd
      have hst2 := stairs_c s.turn (by omega)
      have hru2 := runs_c s.turn (by omega)
      have hhi2 := hist_t s.turn (by omega)
      rw [hpx, St.turn_many hc hres] at hhi2
      by_cases hne : s.runs.length = 0
      · have hX : s.turn.pv = .agg [.int .i64 s.levels, .int .i64 (s.levels - 1 - s.start), .lst false 2 []] := by
          unfold St.pv
          rw [(List.eq_nil_of_length_eq_zero (by rw [St.turn_len]; exact hne) : s.turn.runs = [])]
          rfl
        have hst2 : CallsA Try.prog 19 ([.agg [.int .i64 s.levels, .int .i64 (s.levels - 1 - s.start), .emp (some true)]].map .pv) [] (fun r B => r = .pv s.turn.pv ∧ B = []) := by
          refine hst2.weakArgs rfl (fun j x y m v h1 h2 hr => ?_)
          match j with
          | 0 =>
            simp at h1 h2; subst h1 h2
            rw [hX]
            refine agg_wk ?_ ?_ hr
            · rfl
            intro j c c' d h1 h2 hd
            match j with
            | 0 => simp at h1 h2; subst h1 h2; exact hd
            | 1 => simp at h1 h2; subst h1 h2; exact hd
            | 2 => simp at h1 h2; subst h1 h2; exact emp_lst hd
            | j + 3 => simp at h1
          | j + 1 => simp at h1
        rw [hX] at hst2 hru2 hhi2
        rw [hne]
        simp [-getElem?_pos, turH, St.cells, hne]
        have hru := runs_c s (by omega)
        have hhi := hist_t s (by omega)
        have hst := stairs_c s (by omega)
        rcases hpv with hp | hp
        · have hpk := fun (i : Nat) (hi : i < s.runs.length) => St.turn_pk hc hres hp hi
          rw [St.runsP0 hp] at hru
          rw [St.runsP0 (hpx.trans hp)] at hru2
          have hm1 : (s.runS.lv.map pairP).length = s.runs.length := by rw [List.length_map]; exact hl1
          have hm2 : (s.runS.rs.map fun l => PV.lst false 1 (u8L (sortI l))).length = s.runs.length := by rw [List.length_map]; exact hl2
          have hm3 : (s.turn.runS.lv.map pairP).length = s.runs.length := by rw [List.length_map, hl3, hlx]
          have hm4 : (s.turn.runS.rs.map fun l => PV.lst false 1 (u8L (sortI l))).length = s.runs.length := by rw [List.length_map, hl4, hlx]
          rw [hp] at hhi hhi2
          generalize s.runS.lv.map pairP = LV at *
          generalize (s.runS.rs.map fun l => PV.lst false 1 (u8L (sortI l))) = RS at *
          generalize s.turn.runS.lv.map pairP = LX at *
          generalize (s.turn.runS.rs.map fun l => PV.lst false 1 (u8L (sortI l))) = RX at *
          generalize s.many = M at *
          refine .inl (call_pv [] (fs := []) (xs := [s.pv]) (cs := []) rfl rfl hst ?_)
          simp [-getElem?_pos, frzsL]
          refine call_gives (k := 0) (fs := []) (xs := [s.pv]) (cs := []) rfl rfl hhi rfl ?_
          simp [-getElem?_pos]
          refine .inl (call_pv [] (fs := []) (xs := [.agg [.int .i64 s.levels, .int .i64 (s.levels - 1 - s.start), .emp (some true)]]) (cs := []) rfl rfl hst2 ?_)
          simp [-getElem?_pos, frzsL]
          refine call_gives (k := 0) (fs := []) (xs := [.agg [.int .i64 s.levels, .int .i64 (s.levels - 1 - s.start), .lst false 2 []]]) (cs := []) rfl rfl hhi2 rfl ?_
          simp [-getElem?_pos]
          refine .inl (call_pv [] (fs := []) (xs := [s.pv]) (cs := []) rfl rfl hst ?_)
          simp [-getElem?_pos, frzsL]
          refine .inl (call_pv [] (fs := []) (xs := [s.pv]) (cs := []) rfl rfl hru ?_)
          simp [-getElem?_pos, frzsL]
          refine .inl (call_pv [] (fs := []) (xs := [.agg [.int .i64 s.levels, .int .i64 (s.levels - 1 - s.start), .emp (some true)]]) (cs := []) rfl rfl hst2 ?_)
          simp [-getElem?_pos, frzsL]
          refine .inl (call_pv [] (fs := []) (xs := [.agg [.int .i64 s.levels, .int .i64 (s.levels - 1 - s.start), .lst false 2 []]]) (cs := []) rfl rfl hru2 ?_)
          simp [-getElem?_pos, frzsL, hm1, hm2, hm3, hm4]
          refine awp_loopS (fun m τ => m = 0 ∧ τ = ⟨[(10, .pv (.lst false 2 LV)), (16, .pv (.int .i64 0))], []⟩) ⟨0, _, Sub.mk (by simp) (by simp), rfl, rfl⟩ ?_
          clear hJ J
          rintro J hJ m τ ⟨rfl, rfl⟩
          simp [-getElem?_pos, hm1, hne]
          refine call_gives (k := 0) (fs := []) (xs := []) (cs := []) rfl rfl awake_c rfl ?_
          simp [-getElem?_pos]
        · rw [St.runsP9 (by omega), hp] at hru
          rw [St.runsP9 (by omega), hpx, hp] at hru2
          rw [hp] at hhi hhi2
          generalize s.many = M at *
          refine .inl (call_pv [] (fs := []) (xs := [s.pv]) (cs := []) rfl rfl hst ?_)
          simp [-getElem?_pos, frzsL]
          refine call_gives (k := 0) (fs := []) (xs := [s.pv]) (cs := []) rfl rfl hhi rfl ?_
          simp [-getElem?_pos]
          refine .inl (call_pv [] (fs := []) (xs := [.agg [.int .i64 s.levels, .int .i64 (s.levels - 1 - s.start), .emp (some true)]]) (cs := []) rfl rfl hst2 ?_)
          simp [-getElem?_pos, frzsL]
          refine call_gives (k := 0) (fs := []) (xs := [.agg [.int .i64 s.levels, .int .i64 (s.levels - 1 - s.start), .lst false 2 []]]) (cs := []) rfl rfl hhi2 rfl ?_
          simp [-getElem?_pos]
          refine .inl (call_pv [] (fs := []) (xs := [s.pv]) (cs := []) rfl rfl hst ?_)
          simp [-getElem?_pos, frzsL]
          refine .inl (call_pv [] (fs := []) (xs := [s.pv]) (cs := []) rfl rfl hru ?_)
          simp [-getElem?_pos, frzsL]
          refine .inl (call_pv [] (fs := []) (xs := [.agg [.int .i64 s.levels, .int .i64 (s.levels - 1 - s.start), .emp (some true)]]) (cs := []) rfl rfl hst2 ?_)
          simp [-getElem?_pos, frzsL]
          refine .inl (call_pv [] (fs := []) (xs := [.agg [.int .i64 s.levels, .int .i64 (s.levels - 1 - s.start), .lst false 2 []]]) (cs := []) rfl rfl hru2 ?_)
          simp [-getElem?_pos, frzsL]
          refine awp_loopS (fun m τ => m = 0 ∧ τ = ⟨[(10, .pv (.emp (some true))), (16, .pv (.int .i64 0))], []⟩) ⟨0, _, Sub.mk (by simp) (by simp), rfl, rfl⟩ ?_
          clear hJ J
          rintro J hJ m τ ⟨rfl, rfl⟩
          simp [-getElem?_pos]
          refine call_gives (k := 0) (fs := []) (xs := []) (cs := []) rfl rfl awake_c rfl ?_
          simp [-getElem?_pos]
      · obtain ⟨XL, hXL⟩ : ∃ XL, XL = s.turn.runs.map Rn.pv := ⟨_, rfl⟩
        have hXl : XL.length = s.runs.length := by rw [hXL, List.length_map, St.turn_len]
        have hXn : s.runs.length ≤ XL.length := by omega
        have hXt : XL.take s.runs.length = XL := List.take_of_length_le (by omega)
        have hX : s.turn.pv = .agg [.int .i64 s.levels, .int .i64 (s.levels - 1 - s.start), .lst false 2 XL] := by rw [hXL]; rfl
        have hH : turH s s.runs.length = ⟨[(1, .ptr (.loc 1 0) 0), (3, .ptr (.loc 3 0) 0), (4, .pv (.int .i64 s.runs.length))],
            [(.loc 67 0, .arr 43 2 XL), (.loc 3 0, .cells [.pv (.int .i64 s.levels), .pv (.int .i64 (s.levels - 1 - s.start)), .vec (.loc 67 0) 2 0 s.runs.length]), (.loc 1 0, .cells s.cells)]⟩ := by
          obtain ⟨j, hj⟩ : ∃ j, s.runs.length = j + 1 := ⟨s.runs.length - 1, by omega⟩
          have h1 : (s.turn.runs.map Rn.pv).take (j + 1) = XL := by rw [← hj, ← hXL]; exact hXt
          rw [hj]
          simp only [turH]
          rw [h1]
        rw [hH]
        rw [hX] at hst2 hru2 hhi2
        clear hXL
        simp [-getElem?_pos, St.cells]
        have hru := runs_c s (by omega)
        have hhi := hist_t s (by omega)
        have hst := stairs_c s (by omega)
        rcases hpv with hp | hp
        · have hpk := fun (i : Nat) (hi : i < s.runs.length) => St.turn_pk hc hres hp hi
          rw [St.runsP0 hp] at hru
          rw [St.runsP0 (hpx.trans hp)] at hru2
          have hm1 : (s.runS.lv.map pairP).length = s.runs.length := by rw [List.length_map]; exact hl1
          have hm2 : (s.runS.rs.map fun l => PV.lst false 1 (u8L (sortI l))).length = s.runs.length := by rw [List.length_map]; exact hl2
          have hm3 : (s.turn.runS.lv.map pairP).length = s.runs.length := by rw [List.length_map, hl3, hlx]
          have hm4 : (s.turn.runS.rs.map fun l => PV.lst false 1 (u8L (sortI l))).length = s.runs.length := by rw [List.length_map, hl4, hlx]
          rw [hp] at hhi hhi2
          generalize s.runS.lv.map pairP = LV at *
          generalize (s.runS.rs.map fun l => PV.lst false 1 (u8L (sortI l))) = RS at *
          generalize s.turn.runS.lv.map pairP = LX at *
          generalize (s.turn.runS.rs.map fun l => PV.lst false 1 (u8L (sortI l))) = RX at *
          generalize s.many = M at *
          refine .inl (call_pv [] (fs := []) (xs := [s.pv]) (cs := []) rfl rfl hst ?_)
          simp [-getElem?_pos, frzsL]
          refine call_gives (k := 0) (fs := []) (xs := [s.pv]) (cs := []) rfl rfl hhi rfl ?_
          simp [-getElem?_pos]
          refine .inl (call_pv [.loc 67 0] (fs := []) (xs := [.agg [.int .i64 s.levels, .int .i64 (s.levels - 1 - s.start), .lst false 2 XL]]) (cs := []) rfl ?_ hst2 ?_)
          · simp [frzsL, hXt, hXn]
          simp [-getElem?_pos, frzsL, hXt, hXn]
          refine call_gives (k := 0) (fs := []) (xs := [.agg [.int .i64 s.levels, .int .i64 (s.levels - 1 - s.start), .lst false 2 XL]]) (cs := []) rfl rfl hhi2 rfl ?_
          simp [-getElem?_pos]
          refine .inl (call_pv [] (fs := []) (xs := [s.pv]) (cs := []) rfl rfl hst ?_)
          simp [-getElem?_pos, frzsL]
          refine .inl (call_pv [] (fs := []) (xs := [s.pv]) (cs := []) rfl rfl hru ?_)
          simp [-getElem?_pos, frzsL]
          refine .inl (call_pv [] (fs := []) (xs := [.agg [.int .i64 s.levels, .int .i64 (s.levels - 1 - s.start), .lst false 2 XL]]) (cs := []) rfl rfl hst2 ?_)
          simp [-getElem?_pos, frzsL]
          refine .inl (call_pv [] (fs := []) (xs := [.agg [.int .i64 s.levels, .int .i64 (s.levels - 1 - s.start), .lst false 2 XL]]) (cs := []) rfl rfl hru2 ?_)
          simp [-getElem?_pos, frzsL, hm1, hm2, hm3, hm4]
          refine awp_loopS (fun m τ => ∃ i : Nat, i ≤ s.runs.length ∧ m = s.runs.length - i ∧ τ = turL s XL LV LX RS RX i)
            ⟨s.runs.length, _, Sub.mk (by simp [turL]) (by simp [turL, St.cells]), 0, by omega, rfl, rfl⟩ ?_
          clear hJ J
          rintro J hJ m τ ⟨i, hi, rfl, rfl⟩
          by_cases hil : i < s.runs.length
          · obtain ⟨lo, hi', W, W', g1, g2, g3, g4, g5, g6, g7⟩ := hpk i hil
            have hround := hJ _ _ ⟨i + 1, hil, rfl, rfl⟩
            have hwi : IntKind.i64.wrap ((i : Int) + 1) = ((i + 1 : Nat) : Int) := by rw [wrap64 (by omega)]; omega
            have hwa : IntKind.i64.wrap (s.levels - 1 - lo) = s.levels - 1 - lo := wrap64 (by omega)
            have hwb : IntKind.i64.wrap (s.levels - 1 - hi') = s.levels - 1 - hi' := wrap64 (by omega)
            obtain ⟨m, hm⟩ : ∃ m, m = s.runs.length - 1 - i := ⟨_, rfl⟩
            have hwn : IntKind.i64.wrap ((s.runs.length : Int) - 1) = (s.runs.length : Int) - 1 := wrap64 (by omega)
            have hwm : IntKind.i64.wrap ((s.runs.length : Int) - 1 - i) = (m : Int) := by rw [wrap64 (by omega)]; omega
            have hr1 := rank_c s (by omega) i
            have hr2 := rank_c s.turn (by omega) m
            rw [St.rank_at hp hil] at hr1
            rw [St.rank_at (hpx.trans hp) (by omega), hX] at hr2
            obtain ⟨e1, e2⟩ := St.turn_rank hc hres hp hil
            have hsp := St.span_ok hp hil
            rw [← hm] at e1 e2
            rw [e1, e2] at hr2
            generalize (s.endS i false).lim = a at *
            generalize (s.endS i true).lim = b at *
            have hwc : IntKind.i64.wrap (s.levels - a) = s.levels - a := wrap64 (by omega)
            have hwd : IntKind.i64.wrap (s.levels - b) = s.levels - b := wrap64 (by omega)
            simp only [rangeP] at hr1 hr2
            simp [-getElem?_pos, turL, St.cells, hm1, hil, g1, g2, g3, g4, g5, hlw, hwa, hwb]
            refine .inl (call_pv [] (fs := []) (xs := [s.pv]) (cs := []) rfl rfl hst ?_)
            simp [-getElem?_pos, frzsL]
            refine call_gives (k := 0) (fs := []) (xs := [s.pv, .int .i64 i]) (cs := []) rfl rfl hr1 rfl ?_
            simp [-getElem?_pos]
            refine .inl (call_pv [] (fs := []) (xs := [.agg [.int .i64 s.levels, .int .i64 (s.levels - 1 - s.start), .lst false 2 XL]]) (cs := []) rfl rfl hst2 ?_)
            simp [-getElem?_pos, frzsL, hm1, hwn, hwm]
            refine call_gives (k := 0) (fs := []) (xs := [.agg [.int .i64 s.levels, .int .i64 (s.levels - 1 - s.start), .lst false 2 XL], .int .i64 m]) (cs := []) rfl rfl hr2 rfl ?_
            simp [-getElem?_pos, hwc, hwd, hwi]
            refine ⟨_, _, (by omega : s.runs.length - (i + 1) < s.runs.length - i), Sub.mk (by simp [turL]) (by simp [turL, St.cells]), hround⟩
          · have he : i = s.runs.length := by omega
            subst he
            simp [-getElem?_pos, turL, hm1]
            refine call_gives (k := 0) (fs := []) (xs := []) (cs := []) rfl rfl awake_c rfl ?_
            simp [-getElem?_pos]
        · rw [St.runsP9 (by omega), hp] at hru
          rw [St.runsP9 (by omega), hpx, hp] at hru2
          rw [hp] at hhi hhi2
          generalize s.many = M at *
          refine .inl (call_pv [] (fs := []) (xs := [s.pv]) (cs := []) rfl rfl hst ?_)
          simp [-getElem?_pos, frzsL]
          refine call_gives (k := 0) (fs := []) (xs := [s.pv]) (cs := []) rfl rfl hhi rfl ?_
          simp [-getElem?_pos]
          refine .inl (call_pv [.loc 67 0] (fs := []) (xs := [.agg [.int .i64 s.levels, .int .i64 (s.levels - 1 - s.start), .lst false 2 XL]]) (cs := []) rfl ?_ hst2 ?_)
          · simp [frzsL, hXt, hXn]
          simp [-getElem?_pos, frzsL, hXt, hXn]
          refine call_gives (k := 0) (fs := []) (xs := [.agg [.int .i64 s.levels, .int .i64 (s.levels - 1 - s.start), .lst false 2 XL]]) (cs := []) rfl rfl hhi2 rfl ?_
          simp [-getElem?_pos]
          refine .inl (call_pv [] (fs := []) (xs := [s.pv]) (cs := []) rfl rfl hst ?_)
          simp [-getElem?_pos, frzsL]
          refine .inl (call_pv [] (fs := []) (xs := [s.pv]) (cs := []) rfl rfl hru ?_)
          simp [-getElem?_pos, frzsL]
          refine .inl (call_pv [] (fs := []) (xs := [.agg [.int .i64 s.levels, .int .i64 (s.levels - 1 - s.start), .lst false 2 XL]]) (cs := []) rfl rfl hst2 ?_)
          simp [-getElem?_pos, frzsL]
          refine .inl (call_pv [] (fs := []) (xs := [.agg [.int .i64 s.levels, .int .i64 (s.levels - 1 - s.start), .lst false 2 XL]]) (cs := []) rfl rfl hru2 ?_)
          simp [-getElem?_pos, frzsL]
          refine awp_loopS (fun m τ => m = 0 ∧ τ = ⟨[(10, .pv (.emp (some true))), (16, .pv (.int .i64 0))], []⟩) ⟨0, _, Sub.mk (by simp) (by simp), rfl, rfl⟩ ?_
          clear hJ J
          rintro J hJ m τ ⟨rfl, rfl⟩
          simp [-getElem?_pos]
          refine call_gives (k := 0) (fs := []) (xs := []) (cs := []) rfl rfl awake_c rfl ?_
          simp [-getElem?_pos]
end Go.Proofs.Ytpfogpkocdlloaa
