/- The statement StairNames answers true. (Several texts in one.) -/
import Derived.Test.YtpfogpkocdlloaaStSh
import Derived.Test.YtpfogpkocdlloaaStE
set_option linter.unusedVariables false
set_option linter.unusedSimpArgs false
/-! The statement StairNames answers true. -/
namespace Go.Proofs.Ytpfogpkocdlloaa
open Go.RowKit
attribute [local simp] Box.purge Site.isLoc

set_option maxRecDepth 10000
set_option linter.unusedSimpArgs false

section
variable {P : Program} {σ : AS}
theorem call_aggv (fz : List Site) {f : Opd} {args : List Opd} {d : Nat} {K : AV → AS → Prop} {g : FuncId} {fs xs cs : List PV} {e n len : Nat} {ys : List PV} {a b : PV} (h1 : (frzsL fz σ).o f = .pv (.fn g fs cs)) (h2 : (frzsL fz σ).pvs args = some xs)
    (hc : CallsA P g ((fs ++ xs ++ cs).map .pv) [] (fun r B => r = .agg [.pv a, .pv b, .vec (.ret 0) n 0 len] ∧ B = [(.ret 0, .arr e n ys)])) (hK : K (.agg [.pv a, .pv b, .vec (.loc d 0) n 0 len]) (((frzsL fz σ).purge d).add (.loc d 0) (.arr e n ys))) : callWp P f args d K σ :=
  .inr ⟨fz, g, fs, xs, cs, h1, h2, hc.mono (fun _ _ ⟨h, h'⟩ => by subst h h'; exact ⟨⟨rfl, fun p hp => by simp at hp; subst hp; exact ⟨rfl, rfl⟩⟩, hK⟩)⟩
end
def sh4 : List PV := [.agg [.int .i64 1, .int .u8 1], .agg [.int .i64 2, .int .u8 3], .agg [.int .i64 (-1), .int .u8 3], .agg [.int .i64 2, .int .u8 0]]
section
attribute [local simp] AS.exp expG Box.ren AV.map AV.mapL outsOk noRet Site.isRet Box.allS AV.allS AV.allSL retB dropL AS.adds renL outG outOk lentBx inG fnOf lookA List.findIdx?_cons
theorem shaken_v : CallsA Try.prog 44 (([] : List PV).map .pv) [] (fun r B => r = .agg [.pv (.int .i64 4), .pv (.int .i64 1), .vec (.ret 0) 2 0 4] ∧ B = [(.ret 0, .arr 67 2 sh4)]) := by
  refine calls_of_awpB [.loc 5 0] mixed L44_ok (Nat.le_of_ble_eq_true rfl) ?_
  simp [-getElem?_pos, L44, nble, nblt]
  rfl
end
theorem shaken_runs : shakenSt.runsP = .tup [.lst false 2 [.agg [.int .i64 1, .int .i64 1], .agg [.int .i64 2, .int .i64 2], .agg [.int .i64 1, .int .i64 3], .agg [.int .i64 2, .int .i64 2]], .lst false 1 [.lst false 1 (u8L [1]), .lst false 1 (u8L [0, 1, 2]), .lst false 1 (u8L [0, 1, 2]), .lst false 1 (u8L [0])], .int .i64 0] := by
  have h1 : shakenSt.runS.lv = [(1, 1), (2, 2), (1, 3), (2, 2)] := by decide +kernel
  have h2 : shakenSt.runS.rs.map sortI = [[1], [0, 1, 2], [0, 1, 2], [0]] := by decide +kernel
  have h3 : (shakenSt.runS.rs.map fun l => PV.lst false 1 (u8L (sortI l))) = (shakenSt.runS.rs.map sortI).map fun l => PV.lst false 1 (u8L l) := by rw [List.map_map]; rfl
  unfold St.runsP
  rw [if_pos shaken_pos, h1, h3, h2]
  rfl
def oddSt : St := ⟨4, 1, [⟨1, 1⟩, ⟨2, 1⟩, ⟨2, 3⟩, ⟨2, 0⟩]⟩
def oneSt : St := ⟨1, 0, [⟨0, 2⟩]⟩
def manySt : St := ⟨4, 1, List.replicate 15 ⟨0, 0⟩⟩
def lostSt : St := ⟨4, 1, [⟨1, 1⟩, ⟨2, 3⟩, ⟨-1, 3⟩, ⟨2, 0⟩, ⟨-1, 3⟩, ⟨-1, 3⟩, ⟨-1, 3⟩, ⟨-1, 3⟩, ⟨-1, 3⟩]⟩
theorem shaken_r1 : shakenSt.rank 1 = ((0, 4), 0) := by decide +kernel
theorem shaken_r4 : shakenSt.rank 4 = ((0, 0), 2) := by decide +kernel
theorem odd_pos : oddSt.possible = 9 := by decide +kernel
theorem one_mid : oneSt.middle = ((0, 0), 7) := by decide +kernel
theorem shows_no : (shakenSt.shows (-1) true).2 = 2 := by decide +kernel
theorem sh_ok : shErr 4 1 [2, 2, 4, 0] [false, false, true, false] = 0 := by decide +kernel
theorem sh_out : (shOut 4 1 [2, 2, 4, 0] [false, false, true, false]).map Rn.pv = [.agg [.int .i64 1, .int .u8 1], .agg [.int .i64 2, .int .u8 0], .agg [.int .i64 1, .int .u8 2], .agg [.int .i64 1, .int .u8 0]] := by rfl
theorem sh_arg : shErr 4 4 [] [] = 1 := by decide +kernel
theorem sh_lim : shErr 4 3 (List.replicate 15 0) [] = 3 := by decide +kernel
theorem sh_rg : shErr 4 3 [5] [true] = 2 := by decide +kernel
theorem sh_rg2 : shErr 4 3 [4] [] = 2 := by decide +kernel
theorem many_no : manySt.check = 3 := by decide +kernel
theorem lost_no : lostSt.check = 3 := by decide +kernel
theorem none_no : St.check ⟨0, 0, []⟩ = 1 := by decide +kernel
theorem one_ok : St.many ⟨1, 0, []⟩ = 1 ∧ St.possible ⟨1, 0, []⟩ = 0 := by decide +kernel
theorem pr1 : shakenSt.prove [1, 1, 0, 0] = true := by decide +kernel
theorem pr2 : shakenSt.prove [1, 1, 1, 0] = false := by decide +kernel
theorem pr3 : shakenSt.prove [1, 1, 0] = false := by decide +kernel
theorem pr4 : shakenSt.prove [1, 3, 3, 0] = false := by decide +kernel
attribute [local simp] retFz frzL AS.frz AV.frz AV.frzL Box.frz AS.tidy
theorem frz_args {P : Program} {f : FuncId} {xs ys : List PV} {B : List (Site × Box)} {R : AV → List (Site × Box) → Prop} (h : CallsA P f (ys.map .pv) B R) (hl : xs.length = ys.length) (he : ∀ (j : Nat) (x y : PV), xs[j]? = some x → ys[j]? = some y → x = y ∨ ∃ n, x = .emp (some true) ∧ y = .lst false n []) : CallsA P f (xs.map .pv) B R :=
  h.weakArgs hl (fun j x y m v h1 h2 hr => by
    rcases he j x y h1 h2 with rfl | ⟨n, rfl, rfl⟩
    · exact hr
    · exact emp_lst hr)
/-- The head of the loop that makes a staircase too long. -/
def namV : List (Nat × AV) := [(3, .pv (.int .i64 9)), (5, .pv (.int .i64 7)), (7, .pv (.int .i64 2)), (11, .pv (.int .i64 2)), (13, .pv (.int .i64 1)), (15, .pv (.int .i64 3)), (17, .pv (.int .i64 2)), (19, .pv (.int .i64 2)), (20, .ptr (.loc 20 0) 0), (21, .ptr (.loc 21 0) 0)]
def namB : List (Site × Box) := [(.loc 204 0, .arr 67 2 (List.replicate 15 (.agg [.int .i64 0, .int .u8 0]))), (.loc 20 0, .cells [.pv (.int .i64 4), .pv (.int .i64 1), .vec (.loc 204 0) 2 0 15])]
def namH : Nat → AS
  | 0 => ⟨[(22, .pv (.int .i64 0))] ++ namV, [(.loc 203 0, .arr 67 2 sh4), (.loc 21 0, .cells [.pv (.int .i64 4), .pv (.int .i64 1), .vec (.loc 203 0) 2 0 4])] ++ namB⟩
  | k + 1 => ⟨[(22, .pv (.int .i64 (k + 1 : Nat)))] ++ namV, [(.loc 214 0, .arr 67 2 (sh4 ++ List.replicate (k + 1) (.agg [.int .i64 (-1), .int .u8 3]))), (.loc 21 0, .cells [.pv (.int .i64 4), .pv (.int .i64 1), .vec (.loc 214 0) 2 0 (k + 5)])] ++ namB⟩
set_option maxHeartbeats 32000000 in
theorem names_law : Gives Try.prog 15 [] (.bool true) := by
  refine calls_of_awpS mixed L15_ok (Nat.le_of_ble_eq_true rfl) ?_
  simp [-getElem?_pos, L15]
  have hl : shakenSt.runs.length ≤ 1000 := by decide
  have hru := runs_c shakenSt (by omega)
  rw [shaken_runs] at hru
  have hr1 := rank_c shakenSt (by omega) 1
  rw [shaken_r1] at hr1
  have hs1 := shake_c 4 1 [2, 2, 4, 0] [false, false, true, false] (by decide)
  rw [sh_ok, sh_out] at hs1
  refine .inl (call_pv [] (fs := []) (xs := []) (cs := []) rfl rfl shaken_c ?_)
  simp [-getElem?_pos, frzsL]
  refine .inl (call_pv [] (fs := []) (xs := [shakenSt.pv]) (cs := []) rfl rfl hru ?_)
  simp [-getElem?_pos, frzsL]
  refine .inl (call_pv [] (fs := []) (xs := []) (cs := []) rfl rfl shaken_c ?_)
  simp [-getElem?_pos, frzsL]
  refine call_gives (k := 0) (fs := []) (xs := [shakenSt.pv, .int .i64 1]) (cs := []) rfl rfl hr1 rfl ?_
  simp [-getElem?_pos, frzsL, rangeP]
  refine .inl (call_pv [.loc 37 0, .loc 38 0] (fs := []) (xs := [.int .i64 4, .int .i64 1, intsP [2, 2, 4, 0], boolsP [false, false, true, false]]) (cs := []) rfl ?_ hs1 ?_)
  · simp [frzsL, intsP, boolsP]
  simp [-getElem?_pos, frzsL]
  have hsame := same_c [1] [1] (by decide)
  rw [show decide (([1] : List Int) = [1]) = true by decide] at hsame
  refine call_gives (k := 1) (fs := []) (xs := [.lst false 1 (u8L [1]), .lst false 1 (u8L [1])]) (cs := []) rfl (by simp [snapW, AV.snap, AV.snap0, u8L, u8V]) hsame rfl ?_
  clear hsame
  simp [-getElem?_pos]
  have hsame := same_c [0, 1, 2] [0, 1, 2] (by decide)
  rw [show decide (([0, 1, 2] : List Int) = [0, 1, 2]) = true by decide] at hsame
  refine call_gives (k := 1) (fs := []) (xs := [.lst false 1 (u8L [0, 1, 2]), .lst false 1 (u8L [0, 1, 2])]) (cs := []) rfl (by simp [snapW, AV.snap, AV.snap0, u8L, u8V]) hsame rfl ?_
  clear hsame
  simp [-getElem?_pos]
  have hsame := same_c [0] [0] (by decide)
  rw [show decide (([0] : List Int) = [0]) = true by decide] at hsame
  refine call_gives (k := 1) (fs := []) (xs := [.lst false 1 (u8L [0]), .lst false 1 (u8L [0])]) (cs := []) rfl (by simp [snapW, AV.snap, AV.snap0, u8L, u8V]) hsame rfl ?_
  clear hsame
  simp [-getElem?_pos]
  have hpv := prove_c shakenSt hl [1, 1, 0, 0] (by decide) (by decide)
  rw [pr1] at hpv
  refine .inl (call_pv [] (fs := []) (xs := []) (cs := []) rfl rfl shaken_c ?_)
  simp [-getElem?_pos, frzsL]
  refine call_gives (k := 1) (fs := []) (xs := [shakenSt.pv, u8sP [1, 1, 0, 0]]) (cs := []) rfl (by simp [snapW, AV.snap, AV.snap0, u8sP, u8P]) hpv rfl ?_
  clear hpv
  simp [-getElem?_pos]
  have hpv := prove_c shakenSt hl [1, 1, 1, 0] (by decide) (by decide)
  rw [pr2] at hpv
  refine .inl (call_pv [] (fs := []) (xs := []) (cs := []) rfl rfl shaken_c ?_)
  simp [-getElem?_pos, frzsL]
  refine call_gives (k := 1) (fs := []) (xs := [shakenSt.pv, u8sP [1, 1, 1, 0]]) (cs := []) rfl (by simp [snapW, AV.snap, AV.snap0, u8sP, u8P]) hpv rfl ?_
  clear hpv
  simp [-getElem?_pos]
  have hpv := prove_c shakenSt hl [1, 1, 0] (by decide) (by decide)
  rw [pr3] at hpv
  refine .inl (call_pv [] (fs := []) (xs := []) (cs := []) rfl rfl shaken_c ?_)
  simp [-getElem?_pos, frzsL]
  refine call_gives (k := 1) (fs := []) (xs := [shakenSt.pv, u8sP [1, 1, 0]]) (cs := []) rfl (by simp [snapW, AV.snap, AV.snap0, u8sP, u8P]) hpv rfl ?_
  clear hpv
  simp [-getElem?_pos]
  have hpv := prove_c shakenSt hl [1, 3, 3, 0] (by decide) (by decide)
  rw [pr4] at hpv
  refine .inl (call_pv [] (fs := []) (xs := []) (cs := []) rfl rfl shaken_c ?_)
  simp [-getElem?_pos, frzsL]
  refine call_gives (k := 1) (fs := []) (xs := [shakenSt.pv, u8sP [1, 3, 3, 0]]) (cs := []) rfl (by simp [snapW, AV.snap, AV.snap0, u8sP, u8P]) hpv rfl ?_
  clear hpv
  simp [-getElem?_pos]
  refine .inl (call_aggv [] (fs := []) (xs := []) (cs := []) rfl rfl shaken_v ?_)
  simp [-getElem?_pos, frzsL, sh4, nble, nblt]
  have hh := hist_c oddSt (by decide)
  rw [odd_pos] at hh
  have hmd := middle_c oneSt (by decide)
  rw [one_mid] at hmd
  have hr4 := rank_c shakenSt (by omega) 4
  rw [shaken_r4] at hr4
  have hsw := shows_c shakenSt (by omega) (-1) true
  obtain ⟨⟨sw1, sw2⟩, hsw2⟩ : ∃ p : List Int × List Int, shakenSt.shows (-1) true = (p, 2) := ⟨_, Prod.ext rfl shows_no⟩
  rw [hsw2] at hsw
  simp only [showsP] at hsw
  clear hsw2
  refine call_gives (k := 1) (fs := []) (xs := [oddSt.pv]) (cs := []) rfl (by simp [snapW, AV.snap, AV.snap0, oddSt, St.pv, Rn.pv, setAt]) hh rfl ?_
  clear hh
  simp [-getElem?_pos, nble, nblt]
  refine call_gives (k := 1) (fs := []) (xs := [oneSt.pv]) (cs := []) rfl (by simp [snapW, AV.snap, AV.snap0, oneSt, St.pv, Rn.pv]) hmd rfl ?_
  clear hmd
  simp [-getElem?_pos, rangeP]
  refine .inl (call_pv [] (fs := []) (xs := []) (cs := []) rfl rfl shaken_c ?_)
  simp [-getElem?_pos, frzsL]
  refine call_gives (k := 0) (fs := []) (xs := [shakenSt.pv, .int .i64 4]) (cs := []) rfl rfl hr4 rfl ?_
  clear hr4
  simp [-getElem?_pos, rangeP]
  refine .inl (call_pv [] (fs := []) (xs := []) (cs := []) rfl rfl shaken_c ?_)
  simp [-getElem?_pos, frzsL]
  refine .inl (call_pv [] (fs := []) (xs := [shakenSt.pv, .int .i64 (-1), .bool true]) (cs := []) rfl rfl hsw ?_)
  clear hsw
  simp [-getElem?_pos, frzsL, intsP, u8sP]
  have hk1 := shake_c 4 4 [] [] (by decide)
  rw [sh_arg] at hk1
  have hk1 := frz_args (xs := [.int .i64 4, .int .i64 4, .emp (some true), .emp (some true)]) hk1 rfl (fun j x y h1 h2 => by
    match j with
    | 0 => simp at h1 h2; subst h1 h2; exact .inl rfl
    | 1 => simp at h1 h2; subst h1 h2; exact .inl rfl
    | 2 => simp at h1 h2; subst h1 h2; exact .inr ⟨_, rfl, rfl⟩
    | 3 => simp at h1 h2; subst h1 h2; exact .inr ⟨_, rfl, rfl⟩
    | j + 4 => simp at h1)
  have hk2 := shake_c 4 3 (List.replicate 15 0) [] (by decide)
  rw [sh_lim] at hk2
  have hk2 := frz_args (xs := [.int .i64 4, .int .i64 3, intsP (List.replicate 15 0), .emp (some true)]) hk2 rfl (fun j x y h1 h2 => by
    match j with
    | 0 => simp at h1 h2; subst h1 h2; exact .inl rfl
    | 1 => simp at h1 h2; subst h1 h2; exact .inl rfl
    | 2 => simp at h1 h2; subst h1 h2; exact .inl rfl
    | 3 => simp at h1 h2; subst h1 h2; exact .inr ⟨_, rfl, rfl⟩
    | j + 4 => simp at h1)
  have hk3 := shake_c 4 3 [5] [true] (by decide)
  rw [sh_rg] at hk3
  have hk4 := shake_c 4 3 [4] [] (by decide)
  rw [sh_rg2] at hk4
  have hk4 := frz_args (xs := [.int .i64 4, .int .i64 3, intsP [4], .emp (some true)]) hk4 rfl (fun j x y h1 h2 => by
    match j with
    | 0 => simp at h1 h2; subst h1 h2; exact .inl rfl
    | 1 => simp at h1 h2; subst h1 h2; exact .inl rfl
    | 2 => simp at h1 h2; subst h1 h2; exact .inl rfl
    | 3 => simp at h1 h2; subst h1 h2; exact .inr ⟨_, rfl, rfl⟩
    | j + 4 => simp at h1)
  generalize (shOut 4 4 [] []).map Rn.pv = o1 at *
  generalize (shOut 4 3 (List.replicate 15 0) []).map Rn.pv = o2 at *
  generalize (shOut 4 3 [5] [true]).map Rn.pv = o3 at *
  generalize (shOut 4 3 [4] []).map Rn.pv = o4 at *
  refine .inl (call_pv [] (fs := []) (cs := []) rfl rfl hk1 ?_)
  clear hk1
  simp [-getElem?_pos, frzsL]
  refine .inl (call_pv [.loc 187 0] (fs := []) (xs := [.int .i64 4, .int .i64 3, intsP (List.replicate 15 0), .emp (some true)]) (cs := []) rfl ?_ hk2 ?_)
  · simp [frzsL, intsP]
  clear hk2
  simp [-getElem?_pos, frzsL]
  refine .inl (call_pv [.loc 192 0, .loc 193 0] (fs := []) (xs := [.int .i64 4, .int .i64 3, intsP [5], boolsP [true]]) (cs := []) rfl ?_ hk3 ?_)
  · simp [frzsL, intsP, boolsP]
  clear hk3
  simp [-getElem?_pos, frzsL]
  refine .inl (call_pv [.loc 198 0] (fs := []) (xs := [.int .i64 4, .int .i64 3, intsP [4], .emp (some true)]) (cs := []) rfl ?_ hk4 ?_)
  · simp [frzsL, intsP]
  clear hk4
  simp [-getElem?_pos, frzsL]
  refine .inl (call_pv [] (fs := []) (xs := []) (cs := []) rfl rfl shaken_c ?_)
  simp [-getElem?_pos, frzsL]
  refine .inl (call_aggv [] (fs := []) (xs := []) (cs := []) rfl rfl shaken_v ?_)
  simp [-getElem?_pos, frzsL, sh4, nble, nblt, shakenSt, St.pv, Rn.pv]
  refine awp_loopS (fun n τ => ∃ k : Nat, k ≤ 5 ∧ n = 5 - k ∧ τ = namH k) ⟨5, _, Sub.mk (by simp [namH, namV]) (by simp [namH, namB, sh4]), 0, by omega, rfl, rfl⟩ ?_
  clear hru hr1 hs1 sw1 sw2
  rintro J hJ n τ ⟨k, hk, rfl, rfl⟩
  have hcs : k = 0 ∨ k = 1 ∨ k = 2 ∨ k = 3 ∨ k = 4 ∨ k = 5 := by omega
  have w1 : IntKind.i64.wrap 1 = 1 := rfl
  have w2 : IntKind.i64.wrap 2 = 2 := rfl
  have w3 : IntKind.i64.wrap 3 = 3 := rfl
  have w4 : IntKind.i64.wrap 4 = 4 := rfl
  have w5 : IntKind.i64.wrap 5 = 5 := rfl
  rcases hcs with rfl | rfl | rfl | rfl | rfl | rfl
  · have hround := hJ _ _ ⟨1, by omega, rfl, rfl⟩
    simp [-getElem?_pos, namH, namV, namB, sh4, nble, nblt, w1, w2, w3, w4, w5]
    refine ⟨_, _, (by omega : 5 - 1 < 5 - 0), Sub.mk ?_ ?_, hround⟩
    · simp [namH, namV]
    · simp [namH, namB, sh4]
  · have hround := hJ _ _ ⟨2, by omega, rfl, rfl⟩
    simp [-getElem?_pos, namH, namV, namB, sh4, nble, nblt, w1, w2, w3, w4, w5]
    refine ⟨_, _, (by omega : 5 - 2 < 5 - 1), Sub.mk ?_ ?_, hround⟩
    · simp [namH, namV]
    · simp [namH, namB, sh4]
  · have hround := hJ _ _ ⟨3, by omega, rfl, rfl⟩
    simp [-getElem?_pos, namH, namV, namB, sh4, nble, nblt, w1, w2, w3, w4, w5]
    refine ⟨_, _, (by omega : 5 - 3 < 5 - 2), Sub.mk ?_ ?_, hround⟩
    · simp [namH, namV]
    · simp [namH, namB, sh4]
  · have hround := hJ _ _ ⟨4, by omega, rfl, rfl⟩
    simp [-getElem?_pos, namH, namV, namB, sh4, nble, nblt, w1, w2, w3, w4, w5]
    refine ⟨_, _, (by omega : 5 - 4 < 5 - 3), Sub.mk ?_ ?_, hround⟩
    · simp [namH, namV]
    · simp [namH, namB, sh4]
  · have hround := hJ _ _ ⟨5, by omega, rfl, rfl⟩
    simp [-getElem?_pos, namH, namV, namB, sh4, nble, nblt, w1, w2, w3, w4, w5]
    refine ⟨_, _, (by omega : 5 - 5 < 5 - 4), Sub.mk ?_ ?_, hround⟩
    · simp [namH, namV]
    · simp [namH, namB, sh4]
  · clear hJ
    have hh := hist_c ⟨1, 0, []⟩ (by decide)
    rw [one_ok.1, one_ok.2] at hh
    have hem : ∀ (a b : Int) (m : Mem) (v : Value), RdP m v (.agg [.int .i64 a, .int .i64 b, .emp (some true)]) → RdP m v (St.pv ⟨a, b, []⟩) := fun a b m v h => by
      refine agg_wk ?_ ?_ h
      · rfl
      intro j c c' d h1 h2 hd
      match j with
      | 0 => simp at h1 h2; subst h1 h2; exact hd
      | 1 => simp at h1 h2; subst h1 h2; exact hd
      | 2 => simp at h1 h2; subst h1 h2; exact emp_lst hd
      | j + 3 => simp at h1
    have hh : Gives Try.prog 24 [.agg [.int .i64 1, .int .i64 0, .emp (some true)]] (.tup [.int .i64 1, .int .i64 0]) := by
      refine CallsA.weakArgs (ys := [St.pv ⟨1, 0, []⟩]) hh rfl (fun j x y m v h1 h2 hr => ?_)
      match j with
      | 0 => simp at h1 h2; subst h1 h2; exact hem _ _ _ _ hr
      | j + 1 => simp at h1
    have hc1 := check_c manySt (by decide)
    rw [many_no] at hc1
    have hc2 := check_c lostSt (by decide)
    rw [lost_no] at hc2
    have hc3 := check_c ⟨0, 0, []⟩ (by decide)
    rw [none_no] at hc3
    have hc3 : Gives Try.prog 31 [.agg [.int .i64 0, .int .i64 0, .emp (some true)]] (.int .i64 1) := by
      refine CallsA.weakArgs (ys := [St.pv ⟨0, 0, []⟩]) hc3 rfl (fun j x y m v h1 h2 hr => ?_)
      match j with
      | 0 => simp at h1 h2; subst h1 h2; exact hem _ _ _ _ hr
      | j + 1 => simp at h1
    have hmp : manySt.pv = .agg [.int .i64 4, .int .i64 1, .lst false 2 (List.replicate 15 (.agg [.int .i64 0, .int .u8 0]))] := rfl
    have hlp : lostSt.pv = .agg [.int .i64 4, .int .i64 1, .lst false 2 (sh4 ++ List.replicate 5 (.agg [.int .i64 (-1), .int .u8 3]))] := rfl
    simp [-getElem?_pos, namH, namV, namB, nble, nblt]
    refine call_gives (k := 0) (fs := []) (xs := [.agg [.int .i64 1, .int .i64 0, .emp (some true)]]) (cs := []) rfl rfl hh rfl ?_
    clear hh
    simp [-getElem?_pos]
    refine call_gives (k := 1) (fs := []) (xs := [manySt.pv]) (cs := []) rfl (by simp [snapW, AV.snap, AV.snap0, hmp]) hc1 rfl ?_
    clear hc1
    simp [-getElem?_pos]
    refine call_gives (k := 1) (fs := []) (xs := [lostSt.pv]) (cs := []) rfl (by simp [snapW, AV.snap, AV.snap0, hlp, sh4]) hc2 rfl ?_
    clear hc2
    simp [-getElem?_pos]
    refine call_gives (k := 0) (fs := []) (xs := [.agg [.int .i64 0, .int .i64 0, .emp (some true)]]) (cs := []) rfl rfl hc3 rfl ?_
    clear hc3
    simp [-getElem?_pos]
    refine call_gives (k := 0) (fs := []) (xs := []) (cs := []) rfl rfl awake_c rfl ?_
    simp [-getElem?_pos]
end Go.Proofs.Ytpfogpkocdlloaa
