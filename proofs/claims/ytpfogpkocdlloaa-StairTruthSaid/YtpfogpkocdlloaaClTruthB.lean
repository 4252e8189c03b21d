/- The statement StairTruth answers true. (Several texts in one.) -/
import Derived.Test.YtpfogpkocdlloaaClTruthA
import Derived.Test.YtpfogpkocdlloaaStE
set_option linter.unusedVariables false
set_option linter.unusedSimpArgs false
/-! The statement StairTruth answers true. -/
namespace Go.Proofs.Ytpfogpkocdlloaa
open Go.RowKit
attribute [local simp] Box.purge Site.isLoc

set_option maxRecDepth 10000
set_option linter.unusedSimpArgs false

attribute [local simp] retFz frzL AS.frz AV.frz AV.frzL Box.frz AS.tidy
/-- The head of the loop that lists the results. -/
def truH (T : St) (LM : List Int) (D : List Rn) : Nat → AS
  | 0 => ⟨[(11, .ptr (.loc 11 0) 0), (12, .pv (intsP LM)), (13, .pv (.lst false 2 (D.map Rn.pv))), (14, .pv (.emp (some true))), (15, .pv (.int .i64 0))], [(.loc 11 0, .cells T.cells)]⟩
  | k + 1 => ⟨[(11, .ptr (.loc 11 0) 0), (12, .pv (intsP LM)), (13, .pv (.lst false 2 (D.map Rn.pv))), (14, .vec (.loc 52 0) 1 0 (k + 1)), (15, .pv (.int .i64 (k + 1 : Nat)))],
      [(.loc 52 0, .arr 5 1 (((D.take (k + 1)).map Rn.res).map u8P)), (.loc 11 0, .cells T.cells)]⟩
/-- The head of the loop over the runs. -/
def truL (T : St) (LM : List Int) (D : List Rn) (LV RS : List PV) (i : Nat) : AS :=
  ⟨[(11, .ptr (.loc 11 0) 0), (12, .pv (intsP LM)), (13, .pv (.lst false 2 (D.map Rn.pv))), (14, .pv (u8sP (D.map Rn.res))), (16, .pv (.lst false 2 LV)), (17, .pv (.lst false 1 RS)), (19, .pv (.int .i64 i))], [(.loc 11 0, .cells T.cells)]⟩
def truM (T : St) (LM : List Int) (D : List Rn) (LV RS : List PV) (i j : Nat) (f : Bool) : AS :=
  ⟨[(11, .ptr (.loc 11 0) 0), (12, .pv (intsP LM)), (13, .pv (.lst false 2 (D.map Rn.pv))), (14, .pv (u8sP (D.map Rn.res))), (16, .pv (.lst false 2 LV)), (17, .pv (.lst false 1 RS)), (19, .pv (.int .i64 i)), (20, .pv (.bool f)), (21, .pv (.int .i64 j))], [(.loc 11 0, .cells T.cells)]⟩
theorem any_next {Q : List Int} {j : Nat} {x : Int} (d : Int) (h : Q[j]? = some x) : ((Q.take (j + 1)).any fun y => decide (y = d)) = (((Q.take j).any fun y => decide (y = d)) || decide (x = d)) := by
  rw [List.take_add_one, h]
  simp
set_option maxHeartbeats 32000000 in
theorem truth_law (a b : Int) (bl : List Int) (st lo : Int) (ha : 0 ≤ a ∧ a ≤ 255) (hb : 0 ≤ b ∧ b ≤ 255) (hbl : ∀ x ∈ bl, 0 ≤ x ∧ x ≤ 255) (hst : 0 ≤ st ∧ st ≤ 65535) (hlo : 0 ≤ lo ∧ lo ≤ 65535) :
    Gives Try.prog 14 [.int .u8 a, .int .u8 b, u8sP bl, .int .u16 st, .int .u16 lo] (.bool true) := by
  refine calls_of_awpS mixed L14_ok (Nat.le_of_ble_eq_true rfl) ?_
  simp [-getElem?_pos, L14, u8sP]
  have hsk := shaken_t a b bl st lo ha hb hbl hst hlo
  have hc := skT_check ha hb bl st lo
  have hp := skT_possible ha hb bl st lo
  have hpr := skT_prove ha hb bl st lo
  have hmem := skP_mem a b bl st lo
  have hrk := fun (i : Nat) (x : Int) (hx : (sortI (skLims a bl))[i]? = some x) => skT_rank ha hb hbl st lo hx
  have hmd := fun (n : Int) (hn : midP (skP a b bl st) = some n) => skT_middle ha hb bl st lo hn
  have hTl := skT_len a b bl st lo
  have hDl := skD_len a b bl st
  have hDi := skD_in ha hb bl st
  have hLl : (skLims a bl).length = (bl.take 14).length := by simp [skLims]
  have hP : skP a b bl st = ((skD a b bl st).map Rn.res, (skD a b bl st).map Rn.level) := rfl
  have hN14 : (bl.take 14).length ≤ 14 := by rw [List.length_take]; omega
  rw [hP] at hpr hmem hmd
  simp only at hpr
  have hDi : ∀ x ∈ (skD a b bl st).map Rn.res, 0 ≤ x ∧ x ≤ 255 := fun x hx => by
    obtain ⟨r, hr, rfl⟩ := List.mem_map.1 hx
    have := hDi r hr
    omega
  clear hP
  generalize skT a b bl st lo = T at *
  generalize skLims a bl = LM at *
  generalize skD a b bl st = D at *
  generalize (bl.take 14).length = N at *
  have hst' := stairs_c T (by omega)
  have hpv := prove_c T (by omega) (D.map Rn.res) (by simp; omega) hDi
  rw [hpr] at hpv
  have hru := runs_c T (by omega)
  unfold St.runsP at hru
  rw [if_pos hp] at hru
  have hmi := middle_c T (by omega)
  have hrm := St.rmid_all hc hmem
  simp only at hrm
  have hby := bytes_c (D.map Rn.res) (by simp; omega)
  obtain ⟨hl1, hl2⟩ := St.runs_len hc
  have hm1 : (T.runS.lv.map pairP).length = N := by rw [List.length_map, hl1, hTl]
  have hm2 : (T.runS.rs.map fun l => PV.lst false 1 (u8L (sortI l))).length = N := by rw [List.length_map, hl2, hTl]
  have hpk : ∀ i, i < N → ∃ (lo hi' v d : Int) (Q : List Int), (T.runS.lv.map pairP)[i]? = some (.agg [.int .i64 lo, .int .i64 hi']) ∧ (T.runS.rs.map fun l => PV.lst false 1 (u8L (sortI l)))[i]? = some (.lst false 1 (u8L Q)) ∧
      (D.map Rn.pv)[i]? = some (.agg [.int .i64 v, .int .u8 d]) ∧ ((D.map Rn.res).map u8P)[i]? = some (.int .u8 d) ∧ lo ≤ v ∧ v ≤ hi' ∧ d ∈ Q ∧ Q.length ≤ 1000 := fun i hi => by
    obtain ⟨lo, hi', q, h1, h2, h3⟩ := (St.runs_sp hc hp).at' i (by omega)
    obtain ⟨r, hr⟩ : ∃ r, D[i]? = some r := ⟨D[i]'(by omega), List.getElem?_eq_getElem _⟩
    have hlv : (D.map Rn.level)[i]? = some r.level := by rw [List.getElem?_map, hr]; rfl
    have hrs : (D.map Rn.res)[i]? = some r.res := by rw [List.getElem?_map, hr]; rfl
    have hb := h3.bd _ hmem _ hlv
    have hm := (h3.mem r.res).2 ⟨_, hmem, hrs⟩
    have hqs := (RunS.fold_ok hc T.all (RunS.z T.runs.length) (fun p hp => hp) (RunS.z_ok _)).1.sm q (List.mem_of_getElem? h2)
    have hqn := nodup_small hqs.1 hqs.2
    refine ⟨lo, hi', r.level, r.res, sortI q, by rw [List.getElem?_map, h1]; rfl, by rw [List.getElem?_map, h2]; rfl, by rw [List.getElem?_map, hr]; rfl, by rw [List.getElem?_map, hrs]; rfl, hb.1, hb.2, (sortI_perm q).mem_iff.2 hm, by rw [sortI_len]; omega⟩
  have hTv : T.pv = .agg [.int .i64 T.levels, .int .i64 T.start, .lst false 2 (T.runs.map Rn.pv)] := rfl
  rw [hTv] at hsk
  clear hbl hst hlo ha hb hl1 hl2 hDi hpr
  generalize T.runS.lv.map pairP = LV at *
  generalize (T.runS.rs.map fun l => PV.lst false 1 (u8L (sortI l))) = RS at *
  refine .inl (call_pv [] (fs := []) (xs := [.int .u8 a, .int .u8 b, u8sP bl, .int .u16 st, .int .u16 lo]) (cs := []) rfl rfl hsk ?_)
  simp [-getElem?_pos, frzsL]
  clear hsk
  refine awp_loopS (fun n τ => ∃ k : Nat, k ≤ N ∧ n = N - k ∧ τ = truH T LM D k) ⟨N, _, Sub.mk (by simp [truH]) (by simp [truH, St.cells]), 0, by omega, rfl, rfl⟩ ?_
  rintro J hJ n τ ⟨k, hk, rfl, rfl⟩
  by_cases hlt : k < N
  · obtain ⟨r, hr⟩ : ∃ r, D[k]? = some r := ⟨D[k]'(by omega), List.getElem?_eq_getElem _⟩
    have hgr : (D.map Rn.pv)[k]? = some (.agg [.int .i64 r.level, .int .u8 r.res]) := by rw [List.getElem?_map, hr]; rfl
    have hround := hJ _ _ ⟨k + 1, hlt, rfl, rfl⟩
    have hw : IntKind.i64.wrap ((k : Int) + 1) = ((k + 1 : Nat) : Int) := by rw [wrap64 (by omega)]; omega
    have htk : ((D.take (k + 1)).map Rn.res).map u8P = ((D.take k).map Rn.res).map u8P ++ [.int .u8 r.res] := by rw [List.take_add_one, hr]; simp [u8P]
    have hkl : k < D.length := by omega
    cases k with
    | zero =>
      have hw1 : IntKind.i64.wrap 1 = 1 := rfl
      rw [List.take_zero, List.map_nil, List.map_nil, List.nil_append] at htk
      simp [-getElem?_pos, -List.getElem?_map, truH, hkl, nble, nblt, hgr, hw1]
      refine ⟨_, _, (by omega : N - 1 < N), Sub.mk ?_ ?_, hround⟩
      · simp [truH]
      · simp [truH, St.cells, -List.map_take, -List.take_succ_cons, -List.map_map, htk]
    | succ k =>
      rw [show ((k + 1 : Nat) : Int) = (k : Int) + 1 by omega] at hw
      have hkl' : decide ((k : Int) + 1 < (D.length : Int)) = true := by simp; omega
      have hk6 : k + 1 + 1 ≤ 1000000 := by omega
      have htl : (((D.take (k + 1)).map Rn.res).map u8P).length = k + 1 := by rw [List.length_map, List.length_map, List.length_take]; omega
      generalize hTL : ((D.take (k + 1)).map Rn.res).map u8P = TL at *
      simp [-getElem?_pos, -decide_eq_true_eq, -List.getElem?_map, -List.map_map, -List.map_take, truH, hkl', hkl, nble, nblt, hgr, hw, hk6, hTL, htl]
      refine ⟨_, _, (by omega : N - (k + 1 + 1) < N - (k + 1)), Sub.mk ?_ ?_, hround⟩
      · simp [truH]
      · simp [truH, St.cells, -List.map_take, -List.take_succ_cons, -List.map_map, htk]
  · have he : k = N := by omega
    subst he
    clear hJ
    by_cases h0 : k = 0
    · subst h0
      have hD0 : D = [] := List.eq_nil_of_length_eq_zero hDl
      subst hD0
      simp only [List.map_nil] at hby hpv hrm hmd
      have hby' : CallsA Try.prog 33 ([.emp (some true)].map .pv) [] (fun r B => r = .pv (u8sP []) ∧ B = []) := by
        refine hby.weakArgs rfl (fun j x y m v h1 h2 hr => ?_)
        match j with
        | 0 => simp at h1 h2; subst h1 h2; exact emp_lst hr
        | j + 1 => simp at h1
      have hrm : Gives Try.prog 22 [T.pv, .emp (some true)] (match midP ([], []) with
        | none => .tup [.int .i64 0, .bool false]
        | some n => .tup [.int .i64 n, .bool true]) := by
        refine hrm.weakArgs rfl (fun j x y m v h1 h2 hr => ?_)
        match j with
        | 0 => simp at h1 h2; subst h1 h2; exact hr
        | 1 => simp at h1 h2; subst h1 h2; exact emp_lst hr
        | j + 2 => simp at h1
      simp [-getElem?_pos, truH, St.cells]
      refine .inl (call_pv [] (fs := []) (xs := [T.pv]) (cs := []) rfl rfl hst' ?_)
      simp [-getElem?_pos, frzsL]
      refine .inl (call_pv [] (fs := []) (xs := [.emp (some true)]) (cs := []) rfl rfl hby' ?_)
      simp [-getElem?_pos, frzsL]
      refine call_gives (k := 0) (fs := []) (xs := [T.pv, u8sP []]) (cs := []) rfl rfl hpv rfl ?_
      simp [-getElem?_pos]
      refine .inl (call_pv [] (fs := []) (xs := [T.pv]) (cs := []) rfl rfl hst' ?_)
      simp [-getElem?_pos, frzsL]
      refine .inl (call_pv [] (fs := []) (xs := [T.pv]) (cs := []) rfl rfl hru ?_)
      simp [-getElem?_pos, frzsL, hm1, hm2]
      refine awp_loopS (fun n τ => n = 0 ∧ τ = ⟨[(11, .ptr (.loc 11 0) 0), (13, .pv (.lst false 2 [])), (14, .pv (.emp (some true))), (19, .pv (.int .i64 0))], [(.loc 11 0, .cells T.cells)]⟩) ⟨0, _, Sub.mk (by simp) (by simp [St.cells]), rfl, rfl⟩ ?_
      rintro J hJ n τ ⟨rfl, rfl⟩
      simp [-getElem?_pos, St.cells]
      refine .inl (call_pv [] (fs := []) (xs := [T.pv]) (cs := []) rfl rfl hst' ?_)
      simp [-getElem?_pos, frzsL]
      refine call_gives (k := 0) (fs := []) (xs := [T.pv]) (cs := []) rfl rfl hmi rfl ?_
      simp [-getElem?_pos, rangeP, St.cells]
      cases hmp : midP ([], []) with
      | none =>
        rw [hmp] at hrm
        simp only at hrm
        refine call_gives (k := 0) (fs := []) (xs := [T.pv, .emp (some true)]) (cs := []) rfl rfl hrm rfl ?_
        simp [-getElem?_pos]
        refine call_gives (k := 0) (fs := []) (xs := []) (cs := []) rfl rfl awake_c rfl ?_
        simp [-getElem?_pos]
      | some n =>
        obtain ⟨x, y, e1, e2, e3⟩ := hmd n hmp
        rw [hmp] at hrm
        simp only at hrm
        have d1 : decide (n ≥ x) = true := by simp; omega
        have d2 : decide (n ≤ y) = true := by simp; omega
        refine call_gives (k := 0) (fs := []) (xs := [T.pv, .emp (some true)]) (cs := []) rfl rfl hrm rfl ?_
        simp [-getElem?_pos, -decide_eq_true_eq, -decide_eq_false_iff_not, e1, d1, d2]
        refine call_gives (k := 0) (fs := []) (xs := []) (cs := []) rfl rfl awake_c rfl ?_
        simp [-getElem?_pos]
    · obtain ⟨j, hj⟩ : ∃ j, k = j + 1 := ⟨k - 1, by omega⟩
      have hDt : D.take (j + 1) = D := List.take_of_length_le (by omega)
      have hHH : truH T LM D k = ⟨[(11, .ptr (.loc 11 0) 0), (12, .pv (intsP LM)), (13, .pv (.lst false 2 (D.map Rn.pv))), (14, .vec (.loc 52 0) 1 0 k), (15, .pv (.int .i64 k))],
          [(.loc 52 0, .arr 5 1 ((D.map Rn.res).map u8P)), (.loc 11 0, .cells T.cells)]⟩ := by
        rw [hj]
        simp only [truH]
        rw [hDt]
      have htt : ((D.map Rn.res).map u8P).take k = (D.map Rn.res).map u8P := List.take_of_length_le (by simp; omega)
      have htl : k ≤ D.length := by omega
      have hU : u8sP (D.map Rn.res) = .lst false 1 ((D.map Rn.res).map u8P) := rfl
      rw [hHH]
      clear hHH hDt
      simp [-getElem?_pos, -List.map_map, St.cells, hDl]
      refine .inl (call_pv [] (fs := []) (xs := [T.pv]) (cs := []) rfl rfl hst' ?_)
      simp [-getElem?_pos, -List.map_map, frzsL]
      refine .inl (call_pv [.loc 52 0] (fs := []) (xs := [u8sP (D.map Rn.res)]) (cs := []) rfl ?_ hby ?_)
      · simp [-List.map_map, frzsL, hU, htt, htl]
      simp [-getElem?_pos, -List.map_map, frzsL, htt, htl]
      refine call_gives (k := 0) (fs := []) (xs := [T.pv, u8sP (D.map Rn.res)]) (cs := []) rfl rfl hpv rfl ?_
      simp [-getElem?_pos, -List.map_map]
      refine .inl (call_pv [] (fs := []) (xs := [T.pv]) (cs := []) rfl rfl hst' ?_)
      simp [-getElem?_pos, -List.map_map, frzsL]
      refine .inl (call_pv [] (fs := []) (xs := [T.pv]) (cs := []) rfl rfl hru ?_)
      simp [-getElem?_pos, -List.map_map, frzsL, hm1, hm2, hDl]
      refine awp_loopS (fun n τ => ∃ i : Nat, i ≤ k ∧ n = k - i ∧ τ = truL T LM D LV RS i) ⟨k, _, Sub.mk (by simp [truL, u8sP]) (by simp [truL, St.cells]), 0, by omega, rfl, rfl⟩ ?_
      rintro J hJ n τ ⟨i, hi, rfl, rfl⟩
      by_cases hil : i < k
      · obtain ⟨lo', hi', v, d, Q, g1, g2, g3, g4, g5, g6, g7, g8⟩ := hpk i hil
        have hround := hJ _ _ ⟨i + 1, hil, rfl, rfl⟩
        have hwi : IntKind.i64.wrap ((i : Int) + 1) = ((i + 1 : Nat) : Int) := by rw [wrap64 (by omega)]; omega
        have hr1 := rank_c T (by omega) i
        rw [St.rank_at hp (by omega)] at hr1
        obtain ⟨x, hx⟩ : ∃ x, (sortI LM)[i]? = some x := ⟨(sortI LM)[i]'(by rw [sortI_len]; omega), List.getElem?_eq_getElem _⟩
        obtain ⟨e1, e2⟩ := hrk i x hx
        have hgx : ((sortI LM).map intP)[i]? = some (.int .i64 x) := by rw [List.getElem?_map, hx]; rfl
        generalize (T.endS i false).lim = u at *
        generalize (T.endS i true).lim = w at *
        have d1 : decide (v < lo') = false := by simp; omega
        have d2 : decide (v > hi') = false := by simp; omega
        have d3 : decide (x < u) = false := by simp; omega
        have d4 : decide (x > w) = false := by simp; omega
        have hso := sorted_c LM (fun e => by rw [e] at hLl; simp at hLl; omega) (by omega)
        have hsl : i < LM.length := by omega
        have hUl : (u8L Q).length = Q.length := by simp [u8L]
        simp only [rangeP] at hr1
        clear hJ hrk hpk hpv hby hmem hmd hrm hmi htt htl hru
        have hik : i < D.length := by omega
        simp [-getElem?_pos, -List.map_map, truL, St.cells, hik]
        refine awp_loopS (fun n τ => ∃ j : Nat, j ≤ Q.length ∧ n = Q.length - j ∧ τ = truM T LM D LV RS i j ((Q.take j).any fun y => decide (y = d))) ⟨Q.length, _, Sub.mk (by simp [truM]) (by simp [truM, St.cells]), 0, by omega, rfl, rfl⟩ ?_
        rintro J2 hJ2 n τ ⟨j2, hj2, rfl, rfl⟩
        by_cases hlt2 : j2 < Q.length
        · obtain ⟨z, hz⟩ : ∃ z, Q[j2]? = some z := ⟨Q[j2], List.getElem?_eq_getElem hlt2⟩
          have hgz : (u8L Q)[j2]? = some (.int .u8 z) := by unfold u8L; rw [List.getElem?_map, hz]; rfl
          have hround2 := hJ2 _ _ ⟨j2 + 1, hlt2, rfl, rfl⟩
          have hwj : IntKind.i64.wrap ((j2 : Int) + 1) = ((j2 + 1 : Nat) : Int) := by rw [wrap64 (by omega)]; omega
          rw [any_next d hz] at hround2
          generalize ((Q.take j2).any fun y => decide (y = d)) = F at *
          have hlz : (j2 : Int) < (u8L Q).length := by rw [hUl]; omega
          cases F
          all_goals
            simp [-getElem?_pos, -List.map_map, -List.getElem?_map, truM, u8sP, St.cells, g2, hUl, hlt2, hgz, g4, hwj]
            refine ⟨_, _, (by omega : Q.length - (j2 + 1) < Q.length - j2), Sub.mk ?_ ?_, hround2⟩
            · simp [truM, u8sP]
            · simp [truM, St.cells]
        · have he : j2 = Q.length := by omega
          subst he
          have hF : ((Q.take Q.length).any fun y => decide (y = d)) = true := by rw [List.take_length, List.any_eq_true]; exact ⟨d, g7, by simp⟩
          rw [hF]
          clear hJ2
          simp [-getElem?_pos, -decide_eq_true_eq, -decide_eq_false_iff_not, -List.map_map, -List.getElem?_map, truM, u8sP, St.cells, g2, hUl, g3, g1, d1, d2]
          refine .inl (call_pv [] (fs := []) (xs := [T.pv]) (cs := []) rfl rfl hst' ?_)
          simp [-getElem?_pos, -List.map_map, frzsL]
          refine call_gives (k := 0) (fs := []) (xs := [T.pv, .int .i64 i]) (cs := []) rfl rfl hr1 rfl ?_
          simp [-getElem?_pos, -List.map_map]
          refine .inl (call_vec [] (fs := []) (xs := [intsP LM]) (cs := []) rfl rfl hso ?_)
          simp [-getElem?_pos, -decide_eq_true_eq, -decide_eq_false_iff_not, -List.map_map, -List.getElem?_map, frzsL, nblt, hsl, hgx, d3, d4, hwi]
          refine ⟨_, _, (by omega : k - (i + 1) < k - i), Sub.mk ?_ ?_, hround⟩
          · simp [truL, u8sP]
          · simp [truL, St.cells]
      · have he : i = k := by omega
        subst he
        simp [-getElem?_pos, -List.map_map, truL, St.cells, hDl]
        refine .inl (call_pv [] (fs := []) (xs := [T.pv]) (cs := []) rfl rfl hst' ?_)
        simp [-getElem?_pos, frzsL]
        refine call_gives (k := 0) (fs := []) (xs := [T.pv]) (cs := []) rfl rfl hmi rfl ?_
        simp [-getElem?_pos, rangeP, St.cells]
        cases hmp : midP (D.map Rn.res, D.map Rn.level) with
        | none =>
          rw [hmp] at hrm
          simp only at hrm
          refine call_gives (k := 0) (fs := []) (xs := [T.pv, u8sP (D.map Rn.res)]) (cs := []) rfl rfl hrm rfl ?_
          simp [-getElem?_pos]
          refine call_gives (k := 0) (fs := []) (xs := []) (cs := []) rfl rfl awake_c rfl ?_
          simp [-getElem?_pos]
        | some n =>
          obtain ⟨x, y, e1, e2, e3⟩ := hmd n hmp
          rw [hmp] at hrm
          simp only at hrm
          have d1 : decide (n ≥ x) = true := by simp; omega
          have d2 : decide (n ≤ y) = true := by simp; omega
          refine call_gives (k := 0) (fs := []) (xs := [T.pv, u8sP (D.map Rn.res)]) (cs := []) rfl rfl hrm rfl ?_
          simp [-getElem?_pos, -decide_eq_true_eq, -decide_eq_false_iff_not, e1, d1, d2]
          refine call_gives (k := 0) (fs := []) (xs := []) (cs := []) rfl rfl awake_c rfl ?_
          simp [-getElem?_pos]
end Go.Proofs.Ytpfogpkocdlloaa
