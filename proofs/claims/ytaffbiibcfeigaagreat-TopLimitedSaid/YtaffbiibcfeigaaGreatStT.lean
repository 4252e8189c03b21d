/- Contracts (the law): specimens shaken by bytes, with levels and results lost. (Several texts in one.) -/
import Derived.Test.YtaffbiibcfeigaaGreatStSh
import Derived.Test.YtaffbiibcfeigaaGreatStC
import Derived.Test.YtaffbiibcfeigaaGreatStE
import Derived.Test.YtaffbiibcfeigaaGreatStD
set_option linter.unusedVariables false
set_option linter.unusedSimpArgs false
/-! Contracts (the law): specimens shaken by bytes, with levels and results lost. -/
namespace Go.Proofs.YtaffbiibcfeigaaGreat
open Go.RowKit
attribute [local simp] Box.purge Site.isLoc
set_option maxRecDepth 10000
set_option linter.unusedSimpArgs false
/-- The bit of a number at a place. -/
def shV (v : Int) (i : Nat) : Int := v.fdiv (2 ^ (min i 16))
def bitB (v : Int) (i : Nat) : Bool := decide ((shV v i).tmod 2 = 1)
theorem shV_c (v : Int) {i : Nat} {y : Int} (h : y = i) (hi : i ≤ 1000) : (if IntKind.u64.wrap y < 0 then none else some (PV.int IntKind.u16 (v.fdiv (2 ^ min (IntKind.u64.wrap y).toNat IntKind.u16.bits)))) = some (PV.int IntKind.u16 (shV v i)) := by
  have h1 : IntKind.u64.wrap y = (i : Int) := by
    subst h
    show ((i : Int)) % 18446744073709551616 = i
    omega
  rw [h1, if_neg (by omega)]
  rfl
def skL (a : Int) : Int := 1 + a.tmod 8
def skS (a b : Int) : Int := b.tmod (skL a)
def skLims (a : Int) (bl : List Int) : List Int := (bl.take 14).map fun x => x.tmod (skL a + 1)
def skStops (st : Int) (n : Nat) : List Bool := (List.range n).map (bitB st)
theorem skStops_succ (st : Int) (k : Nat) : skStops st (k + 1) = skStops st k ++ [bitB st k] := by
  unfold skStops
  rw [List.range_succ, List.map_append]
  rfl
theorem skL_in {a : Int} (ha : 0 ≤ a ∧ a ≤ 255) : 1 ≤ skL a ∧ skL a ≤ 8 := by
  have h1 := Int.tmod_nonneg 8 ha.1
  have h2 := Int.tmod_lt_of_pos a (show (0 : Int) < 8 by omega)
  unfold skL; omega
theorem skS_in {a b : Int} (ha : 0 ≤ a ∧ a ≤ 255) (hb : 0 ≤ b ∧ b ≤ 255) : 0 ≤ skS a b ∧ skS a b ≤ skL a - 1 := by
  have h0 := skL_in ha
  have h1 := Int.tmod_nonneg (skL a) hb.1
  have h2 := Int.tmod_lt_of_pos b (show (0 : Int) < skL a by omega)
  unfold skS; omega
def skD (a b : Int) (bl : List Int) (st : Int) : List Rn := St.shk ⟨skL a, skS a b, []⟩ (skS a b) (skLims a bl) (skStops st (bl.take 14).length)
/-- The lost results that may still come. -/
def lsLeft (lo : Int) : Nat → Int
  | 0 => 6
  | k + 1 => if bitB lo ((k + 5) % 16) = true ∧ 0 < lsLeft lo k then lsLeft lo k - 1 else lsLeft lo k
def lsRn (lo : Int) (i : Nat) (r : Rn) : Rn := ⟨if bitB lo i = true then -1 else r.level, if bitB lo ((i + 5) % 16) = true ∧ 0 < lsLeft lo i then 3 else r.res⟩
def lsR (lo : Int) : Nat → List Rn → List Rn
  | _, [] => []
  | i, r :: rs => lsRn lo i r :: lsR lo (i + 1) rs
theorem lsR_take (lo : Int) : ∀ (i : Nat) (rs : List Rn) (j : Nat) (r : Rn), rs[j]? = some r → lsR lo i (rs.take (j + 1)) = lsR lo i (rs.take j) ++ [lsRn lo (i + j) r]
  | i, [], j, r, h => by simp at h
  | i, q :: rs, 0, r, h => by simp at h; subst h; simp [lsR]
  | i, q :: rs, j + 1, r, h => by
    simp only [List.take_succ_cons, lsR, List.cons_append]
    rw [lsR_take lo (i + 1) rs j r (by simpa using h), show i + 1 + j = i + (j + 1) by omega]
theorem lsR_len (lo : Int) : ∀ (i : Nat) (rs : List Rn), (lsR lo i rs).length = rs.length
  | _, [] => rfl
  | i, r :: rs => by rw [lsR, List.length_cons, lsR_len, List.length_cons]
theorem lsLeft_in (lo : Int) : ∀ k, 0 ≤ lsLeft lo k ∧ lsLeft lo k ≤ 6
  | 0 => by simp [lsLeft]
  | k + 1 => by
    have := lsLeft_in lo k
    unfold lsLeft
    split <;> omega
/-- The staircase that is told. -/
def skT (a b : Int) (bl : List Int) (st lo : Int) : St := ⟨skL a, skS a b, lsR lo 0 (skD a b bl st)⟩
attribute [local simp] retFz frzL AS.frz AV.frz AV.frzL Box.frz AS.tidy
def skH (L S : Int) (bl LM : List Int) (st lo : Int) : Nat → AS
  | 0 => ⟨[(2, .pv (u8sP bl)), (3, .pv (.int .u16 st)), (4, .pv (.int .u16 lo)), (10, .ptr (.loc 10 0) 0), (13, .pv (.int .i64 L)), (14, .ptr (.loc 14 0) 0), (15, .pv (.emp (some true))), (16, .pv (.emp (some true))), (17, .pv (.int .i64 0))],
      [(.loc 14 0, .cells [.pv (.int .i64 L), .pv (.int .i64 S), .pv (.emp (some true))]), (.loc 10 0, .cells [.pv (.int .i64 0), .pv (.int .i64 0), .pv (.emp (some true))])]⟩
  | k + 1 => ⟨[(2, .pv (u8sP bl)), (3, .pv (.int .u16 st)), (4, .pv (.int .u16 lo)), (10, .ptr (.loc 10 0) 0), (13, .pv (.int .i64 L)), (14, .ptr (.loc 14 0) 0), (15, .vec (.loc 52 0) 1 0 (k + 1)), (16, .vec (.loc 61 0) 1 0 (k + 1)), (17, .pv (.int .i64 (k + 1 : Nat)))],
      [(.loc 61 0, .arr 4 1 ((skStops st (k + 1)).map PV.bool)), (.loc 52 0, .arr 3 1 ((LM.take (k + 1)).map intP)), (.loc 14 0, .cells [.pv (.int .i64 L), .pv (.int .i64 S), .pv (.emp (some true))]), (.loc 10 0, .cells [.pv (.int .i64 0), .pv (.int .i64 0), .pv (.emp (some true))])]⟩
def skG (L S lo : Int) (LM : List Int) (D : List Rn) : Nat → AS
  | 0 => ⟨[(4, .pv (.int .u16 lo)), (10, .ptr (.loc 10 0) 0), (14, .ptr (.loc 14 0) 0), (15, .pv (intsP LM)), (18, .pv (.lst false 2 (D.map Rn.pv))), (19, .pv (.int .i64 6)), (20, .pv (.int .i64 0))],
      [(.loc 14 0, .cells [.pv (.int .i64 L), .pv (.int .i64 S), .pv (.emp (some true))]), (.loc 10 0, .cells [.pv (.int .i64 0), .pv (.int .i64 0), .pv (.emp (some true))])]⟩
  | k + 1 => ⟨[(4, .pv (.int .u16 lo)), (10, .ptr (.loc 10 0) 0), (14, .ptr (.loc 14 0) 0), (15, .pv (intsP LM)), (18, .pv (.lst false 2 (D.map Rn.pv))), (19, .pv (.int .i64 (lsLeft lo (k + 1)))), (20, .pv (.int .i64 (k + 1 : Nat)))],
      [(.loc 104 0, .arr 235 2 ((lsR lo 0 (D.take (k + 1))).map Rn.pv)), (.loc 14 0, .cells [.pv (.int .i64 L), .pv (.int .i64 S), .vec (.loc 104 0) 2 0 (k + 1)]), (.loc 10 0, .cells [.pv (.int .i64 0), .pv (.int .i64 0), .pv (.emp (some true))])]⟩
set_option maxHeartbeats 16000000 in
theorem shaken_t (a b : Int) (bl : List Int) (st lo : Int) (ha : 0 ≤ a ∧ a ≤ 255) (hb : 0 ≤ b ∧ b ≤ 255) (hbl : ∀ x ∈ bl, 0 ≤ x ∧ x ≤ 255) (hst : 0 ≤ st ∧ st ≤ 65535) (hlo : 0 ≤ lo ∧ lo ≤ 65535) :
    CallsA Tryz.prog 42 ([.int .u8 a, .int .u8 b, u8sP bl, .int .u16 st, .int .u16 lo].map .pv) [] (fun r B => r = .pv (.tup [(skT a b bl st lo).pv, intsP (skLims a bl), .lst false 2 ((skD a b bl st).map Rn.pv)]) ∧ B = []) := by
  refine CallsA.weak2 ?_
  refine calls_of_awpF [.loc 104 0] mixed L42_ok (Nat.le_of_ble_eq_true rfl) ?_
  generalize hR : (fun (r : AV) (B : List (Site × Box)) => ∃ x, r = .pv x ∧ B = [] ∧ ∀ m v, RdP m v x → RdP m v (.tup [(skT a b bl st lo).pv, intsP (skLims a bl), .lst false 2 ((skD a b bl st).map Rn.pv)])) = R
  obtain ⟨hL1, hL2⟩ := skL_in ha
  obtain ⟨hS1, hS2⟩ := skS_in ha hb
  have wa : IntKind.i64.wrap a = a := wrap64 (by omega)
  have wb : IntKind.i64.wrap b = b := wrap64 (by omega)
  have w1 : IntKind.i64.wrap (1 + a.tmod 8) = skL a := by
    have h1 := Int.tmod_nonneg 8 ha.1
    have h2 := Int.tmod_lt_of_pos a (show (0 : Int) < 8 by omega)
    rw [wrap64 (by omega)]; rfl
  have w0 : ¬ skL a = 0 := by omega
  have hS : b.tmod (skL a) = skS a b := rfl
  simp [-getElem?_pos, L42, wa, wb, w1, w0, hS]
  obtain ⟨LM, hLM⟩ : ∃ LM, LM = skLims a bl := ⟨_, rfl⟩
  obtain ⟨N, hN⟩ : ∃ N, N = (bl.take 14).length := ⟨_, rfl⟩
  have hNb : N ≤ bl.length ∧ N ≤ 14 ∧ (N = bl.length ∨ N = 14) := by rw [hN, List.length_take]; omega
  have hLN : LM.length = N := by rw [hLM, hN]; simp [skLims]
  have hLMk : ∀ (k : Nat) (x : Int), k < N → bl[k]? = some x → LM.take (k + 1) = LM.take k ++ [x.tmod (skL a + 1)] := fun k x hk hx => by
    rw [List.take_add_one, hLM, skLims, List.getElem?_map, List.getElem?_take, if_pos (by omega), hx]
    rfl
  generalize hLe : skL a = L at *
  generalize hSe : skS a b = S at *
  refine awp_loopS (fun n τ => ∃ k : Nat, k ≤ N ∧ n = N - k ∧ τ = skH L S bl LM st lo k) ⟨N, _, Sub.mk (by simp [skH]) (by simp [skH]), 0, by omega, rfl, rfl⟩ ?_
  rintro J hJ n τ ⟨k, hk, rfl, rfl⟩
  by_cases hlt : k < N
  · have hb1 : k < bl.length := by omega
    have hb2 : k < 14 := by omega
    have hx : bl[k]? = some bl[k] := List.getElem?_eq_getElem hb1
    have hx8 := hbl _ (List.mem_of_getElem? hx)
    generalize bl[k] = x at hx hx8
    have hgx : (bl.map u8P)[k]? = some (.int .u8 x) := by rw [List.getElem?_map, hx]; rfl
    have hw : IntKind.i64.wrap ((k : Int) + 1) = ((k + 1 : Nat) : Int) := by rw [wrap64 (by omega)]; omega
    have hround := hJ _ _ ⟨k + 1, hlt, rfl, rfl⟩
    have htk := hLMk k x hlt hx
    have hts := skStops_succ st k
    have wx : IntKind.i64.wrap x = x := wrap64 (by omega)
    have wL : IntKind.i64.wrap (L + 1) = L + 1 := wrap64 (by omega)
    have w0 : ¬ L + 1 = 0 := by omega
    have hsh := shV_c st (i := k) (y := (k : Int)) rfl (by omega)
    have hbit : bitB st k = decide ((shV st k).tmod 2 = 1) := rfl
    rw [hbit] at hts
    cases k with
    | zero =>
      rw [show ((0 : Nat) : Int) = 0 from rfl] at hsh
      have hw1 : IntKind.i64.wrap 1 = 1 := rfl
      have h0s : skStops st 0 = [] := rfl
      rw [h0s, List.nil_append] at hts
      rw [List.take_zero, List.nil_append] at htk
      simp [-getElem?_pos, -List.getElem?_map, skH, u8sP, hb1, nble, nblt, hgx, wx, wL, w0, hw1, hsh]
      refine ⟨_, _, (by omega : N - 1 < N), Sub.mk ?_ ?_, hround⟩
      · simp [skH, u8sP]
      · simp [skH, -List.map_take, -List.take_succ_cons, htk, hts, intP]
    | succ k =>
      rw [show ((k + 1 : Nat) : Int) = (k : Int) + 1 by omega] at hw hsh
      have hb1' : decide ((k : Int) + 1 < (bl.length : Int)) = true := by simp; omega
      have hb2' : decide ((k : Int) + 1 < 14) = true := by simp; omega
      have hk6 : k + 1 + 1 ≤ 1000000 := by omega
      have hl1 : (LM.take (k + 1)).length = k + 1 := by rw [List.length_take]; omega
      have hl2 : (skStops st (k + 1)).length = k + 1 := by simp [skStops]
      generalize hTL : LM.take (k + 1) = TL at *
      generalize hTS : skStops st (k + 1) = TS at *
      simp [-getElem?_pos, -decide_eq_true_eq, -List.getElem?_map, skH, u8sP, hb1', hb2', nble, nblt, hgx, wx, wL, w0, hw, hsh, hk6, hTL, hTS, hl1, hl2]
      refine ⟨_, _, (by omega : N - (k + 1 + 1) < N - (k + 1)), Sub.mk ?_ ?_, hround⟩
      · simp [skH, u8sP]
      · simp [skH, -List.map_take, -List.take_succ_cons, htk, hts, intP]
  · have he : k = N := by omega
    subst he
    obtain ⟨D, hD⟩ : ∃ D, D = St.shk ⟨L, S, []⟩ S LM (skStops st k) := ⟨_, rfl⟩
    have hDs : skD a b bl st = D := by rw [hD, skD, ← hLM, hLe, hSe, ← hN]
    have hT : (skT a b bl st lo).pv = .agg [.int .i64 L, .int .i64 S, .lst false 2 ((lsR lo 0 D).map Rn.pv)] := by
      unfold skT
      rw [hDs, hLe, hSe]
      rfl
    rw [hT, ← hLM, hDs] at hR
    have hsl : (skStops st k).length = k := by simp [skStops]
    have hDl : D.length = k := by rw [hD, St.shk_len _ _ _ _ (by omega)]; exact hLN
    have hsh := rshake_c L S (by omega) (by omega) LM (skStops st k) (by omega) (by omega)
    rw [← hD] at hsh
    have hx1 : (decide ((k : Int) < (bl.length : Int)) && decide ((k : Int) < 14)) = false := by simp; omega
    clear hT hDs hLM hN hLMk hbl hLe hSe w1 hS wa wb ha hb hD
    by_cases h0 : k = 0
    · subst h0
      have hb0 : ¬ (0 < bl.length) := by omega
      have hLM0 : LM = [] := List.eq_nil_of_length_eq_zero hLN
      have hD0 : D = [] := List.eq_nil_of_length_eq_zero hDl
      subst hLM0 hD0
      have hsh' : CallsA Tryz.prog 80 ([.int .i64 L, .int .i64 S, .emp (some true), .emp (some true)].map .pv) [] (fun r B => r = .pv (.lst false 2 []) ∧ B = []) := by
        refine hsh.weakArgs rfl (fun j x y m v h1 h2 hr => ?_)
        match j with
        | 0 => simp at h1 h2; subst h1 h2; exact hr
        | 1 => simp at h1 h2; subst h1 h2; exact hr
        | 2 => simp at h1 h2; subst h1 h2; exact emp_lst hr
        | 3 => simp at h1 h2; subst h1 h2; exact emp_lst hr
        | j + 4 => simp at h1
      simp [-getElem?_pos, skH, u8sP, hb0]
      refine .inl (call_pv [] (fs := []) (cs := []) rfl rfl hsh' ?_)
      simp [-getElem?_pos, frzsL]
      refine awp_loopS (fun n τ => n = 0 ∧ τ = ⟨[(10, .ptr (.loc 10 0) 0), (14, .ptr (.loc 14 0) 0), (15, .pv (.emp (some true))), (18, .pv (.lst false 2 [])), (20, .pv (.int .i64 0))],
        [(.loc 14 0, .cells [.pv (.int .i64 L), .pv (.int .i64 S), .pv (.emp (some true))]), (.loc 10 0, .cells [.pv (.int .i64 0), .pv (.int .i64 0), .pv (.emp (some true))])]⟩) ⟨0, _, Sub.mk (by simp) (by simp), rfl, rfl⟩ ?_
      rintro J2 hJ2 n τ ⟨rfl, rfl⟩
      simp [-getElem?_pos]
      rw [← hR]
      refine ⟨_, rfl, rfl, fun m v h => ?_⟩
      refine tup_wk ?_ ?_ h
      · rfl
      intro j c c' d h1 h2 hd
      match j with
      | 0 =>
        simp at h1 h2; subst h1 h2
        refine agg_wk ?_ ?_ hd
        · rfl
        intro j c c' d h1 h2 hd
        match j with
        | 0 => simp at h1 h2; subst h1 h2; exact hd
        | 1 => simp at h1 h2; subst h1 h2; exact hd
        | 2 => simp at h1 h2; subst h1 h2; exact emp_lst hd
        | j + 3 => simp at h1
      | 1 => simp at h1 h2; subst h1 h2; exact emp_lst hd
      | 2 => simp at h1 h2; subst h1 h2; exact hd
      | j + 3 => simp at h1
    · obtain ⟨j, hj⟩ : ∃ j, k = j + 1 := ⟨k - 1, by omega⟩
      have htl : LM.take (j + 1) = LM := List.take_of_length_le (by omega)
      have htn : (LM.map intP).take (j + 1) = LM.map intP := List.take_of_length_le (by simp; omega)
      have hsl2 : (skStops st (j + 1)).length = j + 1 := by simp [skStops]
      have hts : ((skStops st (j + 1)).map PV.bool).take (j + 1) = (skStops st (j + 1)).map PV.bool := List.take_of_length_le (by rw [List.length_map]; omega)
      have hDt : D.take k = D := List.take_of_length_le (by omega)
      have hlen : (lsR lo 0 D).length = k := by rw [lsR_len]; exact hDl
      rw [hj] at hx1
      rw [show ((j + 1 : Nat) : Int) = (j : Int) + 1 by omega] at hx1
      rw [hj]
      rw [hj] at hsh hLN
      rw [intsP_eq, boolsP] at hsh
      cases hc1 : decide ((j : Int) + 1 < (bl.length : Int)) <;> rw [hc1] at hx1 <;> simp only [Bool.true_and, Bool.false_and] at hx1
      all_goals
        simp [-getElem?_pos, -decide_eq_true_eq, -decide_eq_false_iff_not, skH, u8sP, hc1, hx1, htl]
        refine .inl (call_pv [.loc 52 0, .loc 61 0] (fs := []) (xs := [.int .i64 L, .int .i64 S, .lst false 1 (LM.map intP), .lst false 1 ((skStops st (j + 1)).map PV.bool)]) (cs := []) rfl ?_ hsh ?_)
        · simp [frzsL, htn, hts, hLN, hsl2]
        simp [-getElem?_pos, frzsL, htn, hts, hLN, hsl2]
        refine awp_loopS (fun n τ => ∃ i : Nat, i ≤ k ∧ n = k - i ∧ τ = skG L S lo LM D i) ⟨k, _, Sub.mk (by simp [skG, intsP_eq]) (by simp [skG]), 0, by omega, rfl, rfl⟩ ?_
        rintro J2 hJ2 n τ ⟨i, hi, rfl, rfl⟩
        by_cases hlt2 : i < k
        · obtain ⟨r, hr⟩ : ∃ r, D[i]? = some r := ⟨D[i]'(by omega), List.getElem?_eq_getElem _⟩
          have hgr : (D.map Rn.pv)[i]? = some (.agg [.int .i64 r.level, .int .u8 r.res]) := by rw [List.getElem?_map, hr]; rfl
          have hround := hJ2 _ _ ⟨i + 1, hlt2, rfl, rfl⟩
          have htk := lsR_take lo 0 D i r hr
          rw [Nat.zero_add] at htk
          have hwi : IntKind.i64.wrap ((i : Int) + 1) = ((i + 1 : Nat) : Int) := by rw [wrap64 (by omega)]; omega
          have hs1 := shV_c lo (i := i) (y := (i : Int)) rfl (by omega)
          have hlf := lsLeft_in lo i
          have hil : i < D.length := by omega
          clear hJ2 hsh hx1 hc1 htn hts hsl hsl2 hlen hDt htl
          cases i with
          | zero =>
            rw [show ((0 : Nat) : Int) = 0 from rfl] at hs1
            have hs2 := shV_c lo (i := 5) (y := 5) rfl (by omega)
            have hl1 : lsLeft lo 1 = if (shV lo 5).tmod 2 = 1 then 5 else 6 := by simp [lsLeft, bitB]
            have hrn : (lsRn lo 0 r).pv = .agg [.int .i64 (if (shV lo 0).tmod 2 = 1 then -1 else r.level), .int .u8 (if (shV lo 5).tmod 2 = 1 then 3 else r.res)] := by simp [lsRn, bitB, Rn.pv, lsLeft]
            rw [List.take_zero] at htk
            simp only [lsR, List.nil_append] at htk
            have hw1 : IntKind.i64.wrap 1 = 1 := rfl
            have hw5 : IntKind.i64.wrap 5 = 5 := rfl
            by_cases p1 : (shV lo 0).tmod 2 = 1 <;> by_cases p2 : (shV lo 5).tmod 2 = 1
            all_goals
              simp only [p1, p2, if_true, if_false] at hrn hl1
              simp [-getElem?_pos, -List.getElem?_map, skG, hil, nble, nblt, hgr, hs1, hs2, p1, p2, hw1, hw5]
              refine ⟨_, _, (by omega : k - 1 < k), Sub.mk ?_ ?_, hround⟩
              · simp [skG, hl1]
              · simp [skG, -List.take_succ_cons, htk, hrn]
          | succ i =>
            rw [show ((i + 1 : Nat) : Int) = (i : Int) + 1 by omega] at hwi hs1
            have hs2 := shV_c lo (i := (i + 1 + 5) % 16) (y := ((i : Int) + 1 + 5).tmod 16) (by rw [show (i : Int) + 1 + 5 = ((i + 1 + 5 : Nat) : Int) by omega]; rfl) (by omega)
            have hw5 : IntKind.i64.wrap ((i : Int) + 1 + 5) = (i : Int) + 1 + 5 := wrap64 (by omega)
            have hwl : IntKind.i64.wrap (lsLeft lo (i + 1) - 1) = lsLeft lo (i + 1) - 1 := wrap64 (by omega)
            have hl1 : lsLeft lo (i + 1 + 1) = if (shV lo ((i + 1 + 5) % 16)).tmod 2 = 1 ∧ 0 < lsLeft lo (i + 1) then lsLeft lo (i + 1) - 1 else lsLeft lo (i + 1) := by rw [lsLeft]; simp only [bitB, decide_eq_true_eq]
            have hrn : (lsRn lo (i + 1) r).pv = .agg [.int .i64 (if (shV lo (i + 1)).tmod 2 = 1 then -1 else r.level), .int .u8 (if (shV lo ((i + 1 + 5) % 16)).tmod 2 = 1 ∧ 0 < lsLeft lo (i + 1) then 3 else r.res)] := by simp only [lsRn, bitB, Rn.pv, decide_eq_true_eq]
            have hil' : decide ((i : Int) + 1 < (D.length : Int)) = true := by simp; omega
            have hk6 : i + 1 + 1 ≤ 1000000 := by omega
            have htl : (lsR lo 0 (D.take (i + 1))).length = i + 1 := by rw [lsR_len, List.length_take]; omega
            generalize hTL : lsR lo 0 (D.take (i + 1)) = TL at *
            generalize hLf : lsLeft lo (i + 1) = lf at *
            generalize (i + 1 + 5) % 16 = i5 at *
            by_cases p1 : (shV lo (i + 1)).tmod 2 = 1 <;> by_cases p2 : (shV lo i5).tmod 2 = 1 <;> by_cases p3 : 0 < lf
            all_goals
              simp only [p1, p2, p3, if_true, if_false, and_self, and_true, true_and, and_false, false_and] at hrn hl1
              simp [-getElem?_pos, -List.getElem?_map, -decide_eq_true_eq, skG, hil', hil, nble, nblt, hgr, hs1, hs2, p1, p2, p3, hwi, hw5, hwl, hk6, hTL, htl, hLf]
              refine ⟨_, _, (by omega : k - (i + 1 + 1) < k - (i + 1)), Sub.mk ?_ ?_, hround⟩
              · simp [skG, hl1]
              · simp [skG, -List.take_succ_cons, htk, hrn]
        · have he : i = k := by omega
          subst he
          rw [hj]
          rw [hj] at hDt hDl hlen
          have htk : ((lsR lo 0 D).map Rn.pv).take (j + 1) = (lsR lo 0 D).map Rn.pv := List.take_of_length_le (by simp; omega)
          simp [-getElem?_pos, skG, hDl, hDt, hlen, htk]
          rw [← hR]
          exact ⟨_, rfl, rfl, fun m v h => h⟩
end Go.Proofs.YtaffbiibcfeigaaGreat
/-! Plain laws of layer 4 (stair): what shaken specimens did is among what their staircase tells. No program here. -/
namespace Go.Proofs.YtaffbiibcfeigaaGreat
open Go.RowKit
theorem St.next_lv {s x : St} (h : s.levels = x.levels) (v k : Int) : s.next v k = x.next v k := by
  unfold St.next
  rw [h]
theorem shRes_in (v l : Int) (b : Bool) : shRes v l b = 0 ∨ shRes v l b = 1 ∨ shRes v l b = 2 := by
  unfold shRes
  split
  · exact .inr (.inr rfl)
  · split
    · exact .inr (.inl rfl)
    · exact .inl rfl
theorem lsRn_may (lo : Int) (i : Nat) (v k : Int) : (lsRn lo i ⟨v, k⟩).may v k = true := by
  unfold lsRn Rn.may
  simp only [Bool.and_eq_true, Bool.or_eq_true, decide_eq_true_eq]
  constructor
  · split <;> simp
  · split <;> simp
theorem St.paths_cons {s : St} {r : Rn} {rest : List Rn} {v k : Int} (hk : k = 0 ∨ k = 1 ∨ k = 2) (hm : r.may v k = true) {p : List Int × List Int} (hp : p ∈ s.paths rest (s.next v k)) : (k :: p.1, v :: p.2) ∈ s.paths (r :: rest) v := by
  rw [St.paths, List.mem_flatMap]
  refine ⟨k, by simp; omega, ?_⟩
  rw [if_pos hm]
  exact List.mem_map.2 ⟨p, hp, rfl⟩
theorem St.shk_path {s x : St} (hx : x.levels = s.levels) (lo : Int) : ∀ (ls : List Int) (bs : List Bool) (v : Int) (i : Nat), ((s.shk v ls bs).map Rn.res, (s.shk v ls bs).map Rn.level) ∈ x.paths (lsR lo i (s.shk v ls bs)) v
  | [], bs, v, i => by simp [St.shk, lsR, St.paths]
  | l :: ls, [], v, i => by simp [St.shk, lsR, St.paths]
  | l :: ls, b :: bs, v, i => by
    simp only [St.shk, lsR, List.map_cons]
    refine St.paths_cons (p := (_, _)) (shRes_in v l b) (lsRn_may lo i v _) ?_
    rw [St.next_lv hx]
    exact St.shk_path hx lo ls bs _ _
theorem St.shk_in {s : St} (hs : 1 ≤ s.levels) : ∀ (ls : List Int) (bs : List Bool) (v : Int), 0 ≤ v ∧ v ≤ s.levels - 1 → ∀ r ∈ s.shk v ls bs, (0 ≤ r.level ∧ r.level ≤ s.levels - 1) ∧ 0 ≤ r.res ∧ r.res ≤ 2
  | [], bs, v, _, r, h => by simp [St.shk] at h
  | l :: ls, [], v, _, r, h => by simp [St.shk] at h
  | l :: ls, b :: bs, v, hv, r, h => by
    simp only [St.shk, List.mem_cons] at h
    rcases h with rfl | h
    · have := shRes_in v l b
      exact ⟨hv, by simp only; omega⟩
    · exact St.shk_in hs ls bs _ (St.next8 hs hv _) r h
theorem lsR_lost (lo : Int) : ∀ (l : List Rn) (i : Nat), (∀ r ∈ l, r.res ≤ 2) → (lostN (lsR lo i l) : Int) ≤ lsLeft lo i
  | [], i, _ => by have := lsLeft_in lo i; simp [lsR, lostN]; omega
  | r :: l, i, h => by
    have ih := lsR_lost lo l (i + 1) (fun q hq => h q (by simp [hq]))
    have hr := h r (by simp)
    rw [lsR, lostN_cons]
    rw [lsLeft] at ih
    have e : (lsRn lo i r).res = if bitB lo ((i + 5) % 16) = true ∧ 0 < lsLeft lo i then 3 else r.res := rfl
    rw [e]
    by_cases hc : bitB lo ((i + 5) % 16) = true ∧ 0 < lsLeft lo i
    · rw [if_pos hc] at ih
      simp only [hc, and_self, if_true]
      omega
    · rw [if_neg hc] at ih
      simp only [hc, if_false]
      rw [if_neg (by omega)]
      omega
theorem lsR_mem (lo : Int) : ∀ (l : List Rn) (i : Nat) (q : Rn), q ∈ lsR lo i l → ∃ r ∈ l, ∃ j, q = lsRn lo j r
  | [], i, q, h => by simp [lsR] at h
  | r :: l, i, q, h => by
    simp only [lsR, List.mem_cons] at h
    rcases h with rfl | h
    · exact ⟨r, by simp, i, rfl⟩
    · obtain ⟨r', h1, j, h2⟩ := lsR_mem lo l (i + 1) q h
      exact ⟨r', by simp [h1], j, h2⟩
/-- The ends of the limits hold them. -/
theorem St.shk_lims {s x : St} (hx : x.levels = s.levels) : ∀ (ls : List Int) (bs : List Bool) (v : Int), 0 ≤ v → (∀ l ∈ ls, 0 ≤ l ∧ l ≤ s.levels) → 1 ≤ s.levels → ls.length = bs.length → ∀ (j : Nat) (a c l : Int), (x.lims false ((s.shk v ls bs).map Rn.res) ((s.shk v ls bs).map Rn.level))[j]? = some a → (x.lims true ((s.shk v ls bs).map Rn.res) ((s.shk v ls bs).map Rn.level))[j]? = some c → ls[j]? = some l → a ≤ l ∧ l ≤ c
  | [], bs, v, _, _, _, _, j, a, c, l, _, _, h => by simp at h
  | m :: ls, [], v, _, _, _, hl, j, a, c, l, _, _, h => by simp at hl
  | m :: ls, b :: bs, v, hv, hls, hs, hl, 0, a, c, l, h1, h2, h3 => by
    simp only [St.shk, List.map_cons, St.lims, List.getElem?_cons_zero, Option.some.injEq] at h1 h2 h3
    subst h1 h2 h3
    have := hls m (by simp)
    unfold St.lim St.bnd shRes
    cases b
    · by_cases hc : v < m
      · simp [hc]; omega
      · simp [hc]; omega
    · simp; omega
  | m :: ls, b :: bs, v, hv, hls, hs, hl, j + 1, a, c, l, h1, h2, h3 => by
    simp only [St.shk, List.map_cons, St.lims, List.getElem?_cons_succ] at h1 h2 h3
    refine St.shk_lims hx ls bs _ ?_ (fun l h => hls l (by simp [h])) hs (by simpa using hl) j a c l h1 h2 h3
    unfold St.next
    split <;> omega
/-- What the specimens did. -/
def skP (a b : Int) (bl : List Int) (st : Int) : List Int × List Int := ((skD a b bl st).map Rn.res, (skD a b bl st).map Rn.level)
theorem skD_len (a b : Int) (bl : List Int) (st : Int) : (skD a b bl st).length = (bl.take 14).length := by
  unfold skD
  rw [St.shk_len _ _ _ _ (by simp [skLims, skStops])]
  simp [skLims]
theorem skT_len (a b : Int) (bl : List Int) (st lo : Int) : (skT a b bl st lo).runs.length = (bl.take 14).length := by
  show (lsR lo 0 _).length = _
  rw [lsR_len, skD_len]
theorem skD_in {a b : Int} (ha : 0 ≤ a ∧ a ≤ 255) (hb : 0 ≤ b ∧ b ≤ 255) (bl : List Int) (st : Int) : ∀ r ∈ skD a b bl st, (0 ≤ r.level ∧ r.level ≤ skL a - 1) ∧ 0 ≤ r.res ∧ r.res ≤ 2 := by
  have hL := skL_in ha
  exact St.shk_in (s := ⟨skL a, skS a b, []⟩) hL.1 _ _ _ (skS_in ha hb)
theorem skT_check {a b : Int} (ha : 0 ≤ a ∧ a ≤ 255) (hb : 0 ≤ b ∧ b ≤ 255) (bl : List Int) (st lo : Int) : (skT a b bl st lo).check = 0 := by
  have hL := skL_in ha
  have hS := skS_in ha hb
  have hD := skD_in ha hb bl st
  have hn := skT_len a b bl st lo
  rw [List.length_take] at hn
  have hlost : lostN (skT a b bl st lo).runs ≤ 6 := by
    have h1 := lsR_lost lo (skD a b bl st) 0 (fun r hr => (hD r hr).2.2)
    have h2 : lsLeft lo 0 = 6 := rfl
    have h3 : (skT a b bl st lo).runs = lsR lo 0 (skD a b bl st) := rfl
    rw [h3]
    omega
  unfold St.check
  rw [if_neg (by omega), if_pos]
  refine ⟨?_, List.all_eq_true.2 (fun q hq => ?_)⟩
  · have e1 : (skT a b bl st lo).levels = skL a := rfl
    have e2 : (skT a b bl st lo).start = skS a b := rfl
    unfold St.placed
    rw [e1, e2]
    simp only [Bool.and_eq_true, decide_eq_true_eq]
    omega
  · obtain ⟨r, hr, j, rfl⟩ := lsR_mem lo _ 0 q hq
    have := hD r hr
    have e1 : (skT a b bl st lo).levels = skL a := rfl
    unfold St.isRun lsRn
    rw [e1]
    simp only [Bool.and_eq_true, decide_eq_true_eq]
    refine ⟨⟨?_, ?_⟩, ?_⟩
    · split <;> omega
    · split <;> omega
    · split <;> omega
theorem skP_mem (a b : Int) (bl : List Int) (st lo : Int) : skP a b bl st ∈ (skT a b bl st lo).all :=
  St.shk_path (s := ⟨skL a, skS a b, []⟩) (x := skT a b bl st lo) rfl lo (skLims a bl) (skStops st (bl.take 14).length) (skS a b) 0
theorem skT_possible {a b : Int} (ha : 0 ≤ a ∧ a ≤ 255) (hb : 0 ≤ b ∧ b ≤ 255) (bl : List Int) (st lo : Int) : (skT a b bl st lo).possible = 0 := by
  rw [St.possible_all (skT_check ha hb bl st lo), if_neg]
  intro e
  have := skP_mem a b bl st lo
  rw [e] at this
  cases this
theorem skT_rank {a b : Int} (ha : 0 ≤ a ∧ a ≤ 255) (hb : 0 ≤ b ∧ b ≤ 255) {bl : List Int} (hbl : ∀ x ∈ bl, 0 ≤ x ∧ x ≤ 255) (st lo : Int) {i : Nat} {x : Int} (hx : (sortI (skLims a bl))[i]? = some x) :
    ((skT a b bl st lo).endS i false).lim ≤ x ∧ x ≤ ((skT a b bl st lo).endS i true).lim := by
  have hc := skT_check ha hb bl st lo
  have hp := skT_possible ha hb bl st lo
  have hm := skP_mem a b bl st lo
  have hL := skL_in ha
  have hi : i < (bl.take 14).length := by
    have := (List.getElem?_eq_some_iff.1 hx).1
    rw [sortI_len] at this
    simpa [skLims] using this
  have hn := skT_len a b bl st lo
  obtain ⟨a1, a2, _⟩ := St.all_ok hc hm
  have g1 := St.rk_get hc hm (show i < (skT a b bl st lo).runs.length by omega) false
  have g2 := St.rk_get hc hm (show i < (skT a b bl st lo).runs.length by omega) true
  have b1 := (St.lo_spec hp i).2 _ hm
  have b2 := (St.hi_spec hp i).2 _ hm
  have hlim := St.shk_lims (s := ⟨skL a, skS a b, []⟩) (x := skT a b bl st lo) rfl (skLims a bl) (skStops st (bl.take 14).length) (skS a b) (skS_in ha hb).1 (fun l hl => by
    unfold skLims at hl
    obtain ⟨y, hy, rfl⟩ := List.mem_map.1 hl
    have hy := hbl y (List.mem_of_mem_take hy)
    have h1 := Int.tmod_nonneg (skL a + 1) hy.1
    have h2 := Int.tmod_lt_of_pos y (show (0 : Int) < skL a + 1 by omega)
    show 0 ≤ _ ∧ _ ≤ skL a
    omega) hL.1 (by simp [skLims, skStops])
  have hlen : ∀ high, ((skT a b bl st lo).lims high (skP a b bl st).1 (skP a b bl st).2).length = (skLims a bl).length := fun high => by
    rw [St.lims_len (by omega), a1, hn]
    simp [skLims]
  have c1 := sortI_mono (hlen false) (fun j u w h1 h2 => by
    have hj : j < ((skT a b bl st lo).lims true (skP a b bl st).1 (skP a b bl st).2).length := by rw [hlen true, ← hlen false]; exact (List.getElem?_eq_some_iff.1 h1).1
    exact (hlim j u _ w h1 (List.getElem?_eq_getElem hj) h2).1) g1 hx
  have c2 := sortI_mono (hlen true).symm (fun j u w h1 h2 => by
    have hj : j < ((skT a b bl st lo).lims false (skP a b bl st).1 (skP a b bl st).2).length := by rw [hlen false, ← hlen true]; exact (List.getElem?_eq_some_iff.1 h2).1
    exact (hlim j _ w u (List.getElem?_eq_getElem hj) h2 h1).2) hx g2
  omega
end Go.Proofs.YtaffbiibcfeigaaGreat
