/- The statement StairStopped answers true. (Several texts in one.) -/
import Derived.Test.YtpfogpkocdlloaaClStopA
import Derived.Test.YtpfogpkocdlloaaStE
import Derived.Test.YtpfogpkocdlloaaStD
set_option linter.unusedVariables false
set_option linter.unusedSimpArgs false
/-! The statement StairStopped answers true. -/
namespace Go.Proofs.Ytpfogpkocdlloaa
open Go.RowKit
attribute [local simp] Box.purge Site.isLoc

set_option maxRecDepth 10000
set_option linter.unusedSimpArgs false

attribute [local simp] retFz frzL AS.frz AV.frz AV.frzL Box.frz AS.tidy
def putP (s : St) (k : Nat) : PV := .agg [.int .i64 (match s.runs[k]? with
  | some r => r.level
  | none => -1), .int .u8 2]
theorem St.put_pv (s : St) (k : Nat) : (s.put k).pv = .agg [.int .i64 s.levels, .int .i64 s.start, .lst false 2 ((s.runs.map Rn.pv).take k ++ [putP s k] ++ (s.runs.map Rn.pv).drop k)] := by
  unfold St.pv St.put putRn putP
  simp [Rn.pv, List.map_take, List.map_drop]
  all_goals (cases s.runs[k]? <;> rfl)
noncomputable def stJ (s : St) (w k : Int) (u : PV) (K : Nat) : AS := ⟨[(1, .pv (.int .u8 w)), (2, .ptr (.loc 2 0) 0), (5, .pv (.int .i64 k)), (7, .ptr (.loc 7 0) 0), (53, .vec (.loc 53 0) 2 0 (K + 1)), (57, .pv (.lst false 2 ((s.runs.map Rn.pv).drop K)))],
  [(.loc 53 0, .arr 43 2 ((s.runs.map Rn.pv).take K ++ [u])), (.loc 7 0, .cells s.cells), (.loc 2 0, .cells s.cells)]⟩
set_option maxHeartbeats 32000000 in
theorem stopped_law (s : St) (w : Int) (hw0 : 0 ≤ w ∧ w ≤ 255) : Gives Try.prog 12 [s.pv, .int .u8 w] (.bool true) := by
  refine calls_of_awpS mixed L12_ok (Nat.le_of_ble_eq_true rfl) ?_
  simp [-getElem?_pos, L12, St.pv]
  refine call_gives (k := 0) (fs := []) (xs := [s.pv]) (cs := []) rfl rfl (ready_c s) rfl ?_
  cases hrd : decide (s.runs.length ≤ 20) && decide (s.check = 0)
  · simp [-getElem?_pos]
    refine call_gives (k := 0) (fs := []) (xs := []) (cs := []) rfl rfl awake_c rfl ?_
    simp [-getElem?_pos]
  · have hrd' : s.runs.length ≤ 20 ∧ s.check = 0 := by simpa using hrd
    obtain ⟨hn, hc⟩ := hrd'
    have hz : ¬ ((s.runs.length : Int) + 1) = 0 := by omega
    have hw1 : IntKind.i64.wrap w = w := wrap64 (by omega)
    have hw2 : IntKind.i64.wrap ((s.runs.length : Int) + 1) = (s.runs.length : Int) + 1 := wrap64 (by omega)
    obtain ⟨k, hk, hkl⟩ : ∃ k : Nat, w.tmod ((s.runs.length : Int) + 1) = (k : Int) ∧ k ≤ s.runs.length := by
      have h1 := Int.tmod_nonneg ((s.runs.length : Int) + 1) hw0.1
      have h2 := Int.tmod_lt_of_pos w (show (0 : Int) < (s.runs.length : Int) + 1 by omega)
      exact ⟨(w.tmod ((s.runs.length : Int) + 1)).toNat, by omega, by omega⟩
    simp [-getElem?_pos, hz, hw1, hw2, hk]
    have b0k : Nat.ble 0 k = true := by rw [Nat.ble_eq]; omega
    have bkn : Nat.ble k s.runs.length = true := by rw [Nat.ble_eq]; omega
    have bnn : Nat.ble s.runs.length s.runs.length = true := by rw [Nat.ble_eq]; omega
    have bk6 : Nat.ble k 1000000 = true := by rw [Nat.ble_eq]; omega
    have bk7 : Nat.ble (k + 1) 1000000 = true := by rw [Nat.ble_eq]; omega
    have bk8 : Nat.ble (k + 1 + (s.runs.length - k)) 1000000 = true := by rw [Nat.ble_eq]; omega
    have b16 : Nat.ble 16 1000 = true := rfl
    have hRt : List.take s.runs.length (List.map Rn.pv s.runs) = List.map Rn.pv s.runs := List.take_of_length_le (by simp)
    have hmin : min k s.runs.length = k := by omega
    obtain ⟨XL, hXL⟩ : ∃ XL, XL = (s.runs.map Rn.pv).take k ++ putP s k :: (s.runs.map Rn.pv).drop k := ⟨_, rfl⟩
    have hXl : XL.length = k + (s.runs.length - k + 1) := by rw [hXL]; simp; omega
    have hXl' : XL.length = k + 1 + (s.runs.length - k) := by omega
    have hXt : XL.take (k + 1 + (s.runs.length - k)) = XL := List.take_of_length_le (by omega)
    have hX : (s.put k).pv = .agg [.int .i64 s.levels, .int .i64 s.start, .lst false 2 XL] := by rw [hXL, s.put_pv k]; simp
    by_cases hlt : k < s.runs.length
    · obtain ⟨r, hr⟩ : ∃ r, s.runs[k]? = some r := ⟨s.runs[k], List.getElem?_eq_getElem hlt⟩
      have hgr : (s.runs.map Rn.pv)[k]? = some (.agg [.int .i64 r.level, .int .u8 r.res]) := by rw [List.getElem?_map, hr]; rfl
      have hpp : PV.agg [.int .i64 r.level, .int .u8 2] = putP s k := by unfold putP; rw [hr]
      simp [-getElem?_pos, -List.getElem?_map, hlt, hgr, b0k, bkn]
      refine ltS_seq (stJ s w k (putP s k) k) ?_ ?_
      · simp [-getElem?_pos, ltS_alt, ltS_no, b0k, bkn, bnn, bk6, bk7, b16, hmin, hRt]
        repeat' (with_reducible refine And.intro ?_ ?_)
        all_goals
          refine Sub.mk ?_ ?_
          · simp [stJ]
          · simp [stJ, St.cells, ← hpp]
      · clear hpp hgr hr hlt hk hz hw1 hw2 hrd
        simp [-getElem?_pos, ltS_alt, ltS_no, stJ, bk7, bk8, b16, hmin, St.cells]
        simp only [← hXL]
        have hx58 : k + 1 + (s.runs.length - k) ≤ XL.length := by omega
        clear hXl hXl' b0k bkn bnn bk6 bk7 bk8 hmin hRt
        refine call_gives (k := 1) (fs := []) (xs := [(s.put k).pv]) (cs := []) rfl (by simp [snapW, AV.snap, AV.snap0, hX, hXt, hx58]) (ready_c (s.put k)) rfl ?_
        cases hrx : decide ((s.put k).runs.length ≤ 20) && decide ((s.put k).check = 0)
        · simp [-getElem?_pos]
          refine call_gives (k := 0) (fs := []) (xs := []) (cs := []) rfl rfl awake_c rfl ?_
          simp [-getElem?_pos]
        · have hrx' : (s.put k).runs.length ≤ 20 ∧ (s.put k).check = 0 := by simpa using hrx
          obtain ⟨hnx, hcx⟩ := hrx'
          have hst := stairs_c s (by omega)
          have hst2 := stairs_c (s.put k) (by omega)
          have hru2 := runs_c (s.put k) (by omega)
          have hmi2 := middle_c (s.put k) (by omega)
          have hru := runs_c s (by omega)
          have hmi := middle_c s (by omega)
          rw [St.put_middle hkl hc hcx] at hmi2
          have hposs := St.possible_all hc
          have hlx := St.put_len s hkl
          obtain ⟨hl1, hl2⟩ := St.runs_len hc
          obtain ⟨hl3, hl4⟩ := St.runs_len hcx
          have hpx := St.put_possible hkl hc hcx
          have hpv : s.possible = 0 ∨ s.possible = 9 := by rw [hposs]; split <;> simp
          rw [hX] at hst2 hru2 hmi2
          have hwn : IntKind.i64.wrap ((s.runs.length : Int) + 1) = (s.runs.length : Int) + 1 := wrap64 (by omega)
          have hmd : s.middle.2 = 0 ∨ s.middle.2 = 7 ∨ s.middle.2 = 9 := by
            unfold St.middle
            rcases hpv with e | e
            · rw [e]; simp; split <;> simp
            · rw [e]; simp
          rcases hpv with hp | hp
          · have hpk := fun (i : Nat) (hi : i < s.runs.length) => St.put_pk hkl hc hcx hp hi
            rw [St.runsP0 hp] at hru
            rw [St.runsP0 (hpx.trans hp)] at hru2
            have hm1 : (s.runS.lv.map pairP).length = s.runs.length := by rw [List.length_map]; exact hl1
            have hm2 : (s.runS.rs.map fun l => PV.lst false 1 (u8L (sortI l))).length = s.runs.length := by rw [List.length_map]; exact hl2
            have hm3 : ((s.put k).runS.lv.map pairP).length = s.runs.length + 1 := by rw [List.length_map, hl3, hlx]
            have hm4 : ((s.put k).runS.rs.map fun l => PV.lst false 1 (u8L (sortI l))).length = s.runs.length + 1 := by rw [List.length_map, hl4, hlx]
            generalize s.runS.lv.map pairP = LV at *
            generalize (s.runS.rs.map fun l => PV.lst false 1 (u8L (sortI l))) = RS at *
            generalize (s.put k).runS.lv.map pairP = LX at *
            generalize ((s.put k).runS.rs.map fun l => PV.lst false 1 (u8L (sortI l))) = RX at *
            obtain ⟨⟨⟨md1, md2⟩, md3⟩, hmd'⟩ : ∃ m, m = s.middle := ⟨_, rfl⟩
            rw [← hmd'] at hmi hmi2 hmd
            simp only [rangeP] at hmi hmi2 hmd
            clear hmd'
            simp [-getElem?_pos]
            refine .inl (call_pv [] (fs := []) (xs := [s.pv]) (cs := []) rfl rfl hst ?_)
            simp [-getElem?_pos, frzsL]
            refine .inl (call_pv [] (fs := []) (xs := [s.pv]) (cs := []) rfl rfl hru ?_)
            simp [-getElem?_pos, frzsL]
            refine .inl (call_pv [.loc 58 0] (fs := []) (xs := [.agg [.int .i64 s.levels, .int .i64 s.start, .lst false 2 XL]]) (cs := []) rfl ?_ hst2 ?_)
            · simp [frzsL, hXt, hx58]
            simp [-getElem?_pos, frzsL, hXt, hx58]
            refine .inl (call_pv [] (fs := []) (xs := [.agg [.int .i64 s.levels, .int .i64 s.start, .lst false 2 XL]]) (cs := []) rfl rfl hru2 ?_)
            simp [-getElem?_pos, frzsL]
            refine .inl (call_pv [] (fs := []) (xs := [s.pv]) (cs := []) rfl rfl hst ?_)
            simp [-getElem?_pos, frzsL]
            refine call_gives (k := 0) (fs := []) (xs := [s.pv]) (cs := []) rfl rfl hmi rfl ?_
            simp [-getElem?_pos]
            refine .inl (call_pv [] (fs := []) (xs := [.agg [.int .i64 s.levels, .int .i64 s.start, .lst false 2 XL]]) (cs := []) rfl rfl hst2 ?_)
            simp [-getElem?_pos, frzsL]
            refine call_gives (k := 0) (fs := []) (xs := [.agg [.int .i64 s.levels, .int .i64 s.start, .lst false 2 XL]]) (cs := []) rfl rfl hmi2 rfl ?_
            by_cases hpos : 0 < s.runs.length
            all_goals
              simp [-getElem?_pos, hm1, hm2, hm3, hm4, hwn, hpos]
              refine awp_loopS (fun m τ => ∃ i : Nat, i ≤ s.runs.length ∧ m = s.runs.length - i ∧ τ = ⟨[(5, .pv (.int .i64 k)), (8, .pv (.lst false 2 LV)), (9, .pv (.lst false 1 RS)), (11, .pv (.lst false 2 LX)), (12, .pv (.lst false 1 RX)), (18, .pv (.int .i64 i))], []⟩)
                ⟨s.runs.length, _, Sub.mk (by simp) (by simp), 0, by omega, rfl, rfl⟩ ?_
              rintro J hJ m τ ⟨i, hi, rfl, rfl⟩
              by_cases hil : i < s.runs.length
              · obtain ⟨lo, hi', W, g1, g2, g3, g4, g5⟩ := hpk i hil
                have hround := hJ _ _ ⟨i + 1, hil, rfl, rfl⟩
                have hwi : IntKind.i64.wrap ((i : Int) + 1) = ((i + 1 : Nat) : Int) := by rw [wrap64 (by omega)]; omega
                have hsame := same_c W W (by omega)
                have hd : decide (W = W) = true := by simp
                rw [hd] at hsame
                by_cases hik : i < k
                · have hge : ¬ ((k : Int) ≤ i) := by omega
                  rw [if_pos hik] at g2 g4
                  simp [-getElem?_pos, hm1, hil, hge, g1, g2, g3, g4]
                  refine call_gives (k := 0) (fs := []) (xs := [.lst false 1 (u8L W), .lst false 1 (u8L W)]) (cs := []) rfl rfl hsame rfl ?_
                  simp [-getElem?_pos, hwi]
                  exact ⟨_, _, (by omega : s.runs.length - (i + 1) < s.runs.length - i), Sub.mk (by simp) (by simp), hround⟩
                · have hge : (k : Int) ≤ i := by omega
                  rw [if_neg hik] at g2 g4
                  simp [-getElem?_pos, hm1, hil, hge, g1, g2, g3, g4, hwi]
                  refine call_gives (k := 0) (fs := []) (xs := [.lst false 1 (u8L W), .lst false 1 (u8L W)]) (cs := []) rfl rfl hsame rfl ?_
                  simp [-getElem?_pos, hwi]
                  exact ⟨_, _, (by omega : s.runs.length - (i + 1) < s.runs.length - i), Sub.mk (by simp) (by simp), hround⟩
              · have he : i = s.runs.length := by omega
                subst he
                simp [-getElem?_pos, hm1]
                refine call_gives (k := 0) (fs := []) (xs := []) (cs := []) rfl rfl awake_c rfl ?_
                simp [-getElem?_pos]
          · have hmm := hmi
            have hru' := hru
            rw [St.runsP9 (by omega), hp] at hru
            rw [St.runsP9 (by omega), hpx, hp] at hru2
            have hm9 : s.middle = ((0, 0), 9) := by unfold St.middle; rw [hp]; rfl
            rw [hm9] at hmi hmi2
            simp only [rangeP] at hmi hmi2
            simp [-getElem?_pos]
            refine .inl (call_pv [] (fs := []) (xs := [s.pv]) (cs := []) rfl rfl hst ?_)
            simp [-getElem?_pos, frzsL]
            refine .inl (call_pv [] (fs := []) (xs := [s.pv]) (cs := []) rfl rfl hru ?_)
            simp [-getElem?_pos, frzsL]
            refine .inl (call_pv [.loc 58 0] (fs := []) (xs := [.agg [.int .i64 s.levels, .int .i64 s.start, .lst false 2 XL]]) (cs := []) rfl ?_ hst2 ?_)
            · simp [frzsL, hXt, hx58]
            simp [-getElem?_pos, frzsL, hXt, hx58]
            refine .inl (call_pv [] (fs := []) (xs := [.agg [.int .i64 s.levels, .int .i64 s.start, .lst false 2 XL]]) (cs := []) rfl rfl hru2 ?_)
            simp [-getElem?_pos, frzsL]
            refine .inl (call_pv [] (fs := []) (xs := [s.pv]) (cs := []) rfl rfl hst ?_)
            simp [-getElem?_pos, frzsL]
            refine call_gives (k := 0) (fs := []) (xs := [s.pv]) (cs := []) rfl rfl hmi rfl ?_
            simp [-getElem?_pos]
            refine .inl (call_pv [] (fs := []) (xs := [.agg [.int .i64 s.levels, .int .i64 s.start, .lst false 2 XL]]) (cs := []) rfl rfl hst2 ?_)
            simp [-getElem?_pos, frzsL]
            refine call_gives (k := 0) (fs := []) (xs := [.agg [.int .i64 s.levels, .int .i64 s.start, .lst false 2 XL]]) (cs := []) rfl rfl hmi2 rfl ?_
            simp [-getElem?_pos]
            refine awp_loopS (fun m τ => m = 0 ∧ τ = ⟨[(8, .pv (.emp (some true))), (18, .pv (.int .i64 0))], []⟩) ⟨0, _, Sub.mk (by simp) (by simp), rfl, rfl⟩ ?_
            rintro J hJ m τ ⟨rfl, rfl⟩
            simp [-getElem?_pos]
            refine call_gives (k := 0) (fs := []) (xs := []) (cs := []) rfl rfl awake_c rfl ?_
            simp [-getElem?_pos]
    · have hr : s.runs[k]? = none := List.getElem?_eq_none (by omega)
      have hpp : PV.agg [.int .i64 (-1), .int .u8 2] = putP s k := by unfold putP; rw [hr]
      simp [-getElem?_pos, -List.getElem?_map, hlt, b0k, bkn]
      refine ltS_seq (stJ s w k (putP s k) k) ?_ ?_
      · simp [-getElem?_pos, ltS_alt, ltS_no, b0k, bkn, bnn, bk6, bk7, b16, hmin, hRt]
        repeat' (with_reducible refine And.intro ?_ ?_)
        all_goals
          refine Sub.mk ?_ ?_
          · simp [stJ]
          · simp [stJ, St.cells, ← hpp]
      · clear hpp hr hlt hk hz hw1 hw2 hrd
        simp [-getElem?_pos, ltS_alt, ltS_no, stJ, bk7, bk8, b16, hmin, St.cells]
        simp only [← hXL]
        have hx58 : k + 1 + (s.runs.length - k) ≤ XL.length := by omega
        clear hXl hXl' b0k bkn bnn bk6 bk7 bk8 hmin hRt
        refine call_gives (k := 1) (fs := []) (xs := [(s.put k).pv]) (cs := []) rfl (by simp [snapW, AV.snap, AV.snap0, hX, hXt, hx58]) (ready_c (s.put k)) rfl ?_
        cases hrx : decide ((s.put k).runs.length ≤ 20) && decide ((s.put k).check = 0)
        · simp [-getElem?_pos]
          refine call_gives (k := 0) (fs := []) (xs := []) (cs := []) rfl rfl awake_c rfl ?_
          simp [-getElem?_pos]
        · have hrx' : (s.put k).runs.length ≤ 20 ∧ (s.put k).check = 0 := by simpa using hrx
          obtain ⟨hnx, hcx⟩ := hrx'
          have hst := stairs_c s (by omega)
          have hst2 := stairs_c (s.put k) (by omega)
          have hru2 := runs_c (s.put k) (by omega)
          have hmi2 := middle_c (s.put k) (by omega)
          have hru := runs_c s (by omega)
          have hmi := middle_c s (by omega)
          rw [St.put_middle hkl hc hcx] at hmi2
          have hposs := St.possible_all hc
          have hlx := St.put_len s hkl
          obtain ⟨hl1, hl2⟩ := St.runs_len hc
          obtain ⟨hl3, hl4⟩ := St.runs_len hcx
          have hpx := St.put_possible hkl hc hcx
          have hpv : s.possible = 0 ∨ s.possible = 9 := by rw [hposs]; split <;> simp
          rw [hX] at hst2 hru2 hmi2
          have hwn : IntKind.i64.wrap ((s.runs.length : Int) + 1) = (s.runs.length : Int) + 1 := wrap64 (by omega)
          have hmd : s.middle.2 = 0 ∨ s.middle.2 = 7 ∨ s.middle.2 = 9 := by
            unfold St.middle
            rcases hpv with e | e
            · rw [e]; simp; split <;> simp
            · rw [e]; simp
          rcases hpv with hp | hp
          · have hpk := fun (i : Nat) (hi : i < s.runs.length) => St.put_pk hkl hc hcx hp hi
            rw [St.runsP0 hp] at hru
            rw [St.runsP0 (hpx.trans hp)] at hru2
            have hm1 : (s.runS.lv.map pairP).length = s.runs.length := by rw [List.length_map]; exact hl1
            have hm2 : (s.runS.rs.map fun l => PV.lst false 1 (u8L (sortI l))).length = s.runs.length := by rw [List.length_map]; exact hl2
            have hm3 : ((s.put k).runS.lv.map pairP).length = s.runs.length + 1 := by rw [List.length_map, hl3, hlx]
            have hm4 : ((s.put k).runS.rs.map fun l => PV.lst false 1 (u8L (sortI l))).length = s.runs.length + 1 := by rw [List.length_map, hl4, hlx]
            generalize s.runS.lv.map pairP = LV at *
            generalize (s.runS.rs.map fun l => PV.lst false 1 (u8L (sortI l))) = RS at *
            generalize (s.put k).runS.lv.map pairP = LX at *
            generalize ((s.put k).runS.rs.map fun l => PV.lst false 1 (u8L (sortI l))) = RX at *
            obtain ⟨⟨⟨md1, md2⟩, md3⟩, hmd'⟩ : ∃ m, m = s.middle := ⟨_, rfl⟩
            rw [← hmd'] at hmi hmi2 hmd
            simp only [rangeP] at hmi hmi2 hmd
            clear hmd'
            simp [-getElem?_pos]
            refine .inl (call_pv [] (fs := []) (xs := [s.pv]) (cs := []) rfl rfl hst ?_)
            simp [-getElem?_pos, frzsL]
            refine .inl (call_pv [] (fs := []) (xs := [s.pv]) (cs := []) rfl rfl hru ?_)
            simp [-getElem?_pos, frzsL]
            refine .inl (call_pv [.loc 58 0] (fs := []) (xs := [.agg [.int .i64 s.levels, .int .i64 s.start, .lst false 2 XL]]) (cs := []) rfl ?_ hst2 ?_)
            · simp [frzsL, hXt, hx58]
            simp [-getElem?_pos, frzsL, hXt, hx58]
            refine .inl (call_pv [] (fs := []) (xs := [.agg [.int .i64 s.levels, .int .i64 s.start, .lst false 2 XL]]) (cs := []) rfl rfl hru2 ?_)
            simp [-getElem?_pos, frzsL]
            refine .inl (call_pv [] (fs := []) (xs := [s.pv]) (cs := []) rfl rfl hst ?_)
            simp [-getElem?_pos, frzsL]
            refine call_gives (k := 0) (fs := []) (xs := [s.pv]) (cs := []) rfl rfl hmi rfl ?_
            simp [-getElem?_pos]
            refine .inl (call_pv [] (fs := []) (xs := [.agg [.int .i64 s.levels, .int .i64 s.start, .lst false 2 XL]]) (cs := []) rfl rfl hst2 ?_)
            simp [-getElem?_pos, frzsL]
            refine call_gives (k := 0) (fs := []) (xs := [.agg [.int .i64 s.levels, .int .i64 s.start, .lst false 2 XL]]) (cs := []) rfl rfl hmi2 rfl ?_
            by_cases hpos : 0 < s.runs.length
            all_goals
              simp [-getElem?_pos, hm1, hm2, hm3, hm4, hwn, hpos]
              refine awp_loopS (fun m τ => ∃ i : Nat, i ≤ s.runs.length ∧ m = s.runs.length - i ∧ τ = ⟨[(5, .pv (.int .i64 k)), (8, .pv (.lst false 2 LV)), (9, .pv (.lst false 1 RS)), (11, .pv (.lst false 2 LX)), (12, .pv (.lst false 1 RX)), (18, .pv (.int .i64 i))], []⟩)
                ⟨s.runs.length, _, Sub.mk (by simp) (by simp), 0, by omega, rfl, rfl⟩ ?_
              rintro J hJ m τ ⟨i, hi, rfl, rfl⟩
              by_cases hil : i < s.runs.length
              · obtain ⟨lo, hi', W, g1, g2, g3, g4, g5⟩ := hpk i hil
                have hround := hJ _ _ ⟨i + 1, hil, rfl, rfl⟩
                have hwi : IntKind.i64.wrap ((i : Int) + 1) = ((i + 1 : Nat) : Int) := by rw [wrap64 (by omega)]; omega
                have hsame := same_c W W (by omega)
                have hd : decide (W = W) = true := by simp
                rw [hd] at hsame
                by_cases hik : i < k
                · have hge : ¬ ((k : Int) ≤ i) := by omega
                  rw [if_pos hik] at g2 g4
                  simp [-getElem?_pos, hm1, hil, hge, g1, g2, g3, g4]
                  refine call_gives (k := 0) (fs := []) (xs := [.lst false 1 (u8L W), .lst false 1 (u8L W)]) (cs := []) rfl rfl hsame rfl ?_
                  simp [-getElem?_pos, hwi]
                  exact ⟨_, _, (by omega : s.runs.length - (i + 1) < s.runs.length - i), Sub.mk (by simp) (by simp), hround⟩
                · have hge : (k : Int) ≤ i := by omega
                  rw [if_neg hik] at g2 g4
                  simp [-getElem?_pos, hm1, hil, hge, g1, g2, g3, g4, hwi]
                  refine call_gives (k := 0) (fs := []) (xs := [.lst false 1 (u8L W), .lst false 1 (u8L W)]) (cs := []) rfl rfl hsame rfl ?_
                  simp [-getElem?_pos, hwi]
                  exact ⟨_, _, (by omega : s.runs.length - (i + 1) < s.runs.length - i), Sub.mk (by simp) (by simp), hround⟩
              · have he : i = s.runs.length := by omega
                subst he
                simp [-getElem?_pos, hm1]
                refine call_gives (k := 0) (fs := []) (xs := []) (cs := []) rfl rfl awake_c rfl ?_
                simp [-getElem?_pos]
          · have hmm := hmi
            have hru' := hru
            rw [St.runsP9 (by omega), hp] at hru
            rw [St.runsP9 (by omega), hpx, hp] at hru2
            have hm9 : s.middle = ((0, 0), 9) := by unfold St.middle; rw [hp]; rfl
            rw [hm9] at hmi hmi2
            simp only [rangeP] at hmi hmi2
            simp [-getElem?_pos]
            refine .inl (call_pv [] (fs := []) (xs := [s.pv]) (cs := []) rfl rfl hst ?_)
            simp [-getElem?_pos, frzsL]
            refine .inl (call_pv [] (fs := []) (xs := [s.pv]) (cs := []) rfl rfl hru ?_)
            simp [-getElem?_pos, frzsL]
            refine .inl (call_pv [.loc 58 0] (fs := []) (xs := [.agg [.int .i64 s.levels, .int .i64 s.start, .lst false 2 XL]]) (cs := []) rfl ?_ hst2 ?_)
            · simp [frzsL, hXt, hx58]
            simp [-getElem?_pos, frzsL, hXt, hx58]
            refine .inl (call_pv [] (fs := []) (xs := [.agg [.int .i64 s.levels, .int .i64 s.start, .lst false 2 XL]]) (cs := []) rfl rfl hru2 ?_)
            simp [-getElem?_pos, frzsL]
            refine .inl (call_pv [] (fs := []) (xs := [s.pv]) (cs := []) rfl rfl hst ?_)
            simp [-getElem?_pos, frzsL]
            refine call_gives (k := 0) (fs := []) (xs := [s.pv]) (cs := []) rfl rfl hmi rfl ?_
            simp [-getElem?_pos]
            refine .inl (call_pv [] (fs := []) (xs := [.agg [.int .i64 s.levels, .int .i64 s.start, .lst false 2 XL]]) (cs := []) rfl rfl hst2 ?_)
            simp [-getElem?_pos, frzsL]
            refine call_gives (k := 0) (fs := []) (xs := [.agg [.int .i64 s.levels, .int .i64 s.start, .lst false 2 XL]]) (cs := []) rfl rfl hmi2 rfl ?_
            simp [-getElem?_pos]
            refine awp_loopS (fun m τ => m = 0 ∧ τ = ⟨[(8, .pv (.emp (some true))), (18, .pv (.int .i64 0))], []⟩) ⟨0, _, Sub.mk (by simp) (by simp), rfl, rfl⟩ ?_
            rintro J hJ m τ ⟨rfl, rfl⟩
            simp [-getElem?_pos]
            refine call_gives (k := 0) (fs := []) (xs := []) (cs := []) rfl rfl awake_c rfl ?_
            simp [-getElem?_pos]
end Go.Proofs.Ytpfogpkocdlloaa
