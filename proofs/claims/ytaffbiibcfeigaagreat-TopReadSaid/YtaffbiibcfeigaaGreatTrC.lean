/- Contracts of layer 8 (round): judge, asked, explain; Explains, Spans. (Several texts in one.) -/
import Derived.Test.YtaffbiibcfeigaaGreatTrB
import Derived.Test.YtaffbiibcfeigaaGreatTrA
import Derived.Test.YtaffbiibcfeigaaGreatBaseD
import Derived.Test.YtaffbiibcfeigaaGreatChD
set_option linter.unusedVariables false
set_option linter.unusedSimpArgs false
/-! Contracts of layer 8 (round): judge, asked, explain; Explains, Spans. -/
namespace Go.Proofs.YtaffbiibcfeigaaGreat
open Go.RowKit
set_option maxRecDepth 10000
set_option linter.unusedSimpArgs false
attribute [local simp] AS.exp expG Box.ren AV.map AV.mapL outsOk noRet Site.isRet Box.allS AV.allS AV.allSL retB dropL AS.adds renL outG outOk lentBx inG fnOf lookA List.findIdx?_cons
attribute [local simp] Box.purge Site.isLoc
def spnL (r : Rn) (off : Nat → Bool) (lab by_ : Int) : PV := match spaM r off lab by_ r.smp.length with
  | none => .emp (some true)
  | some (out, ls) => crsP (finM r ls out r.smp.length)
theorem spnP_eq {r : Rn} {off : Nat → Bool} {lab by_ : Int} : spnP r off lab by_ = .tup [spnL r off lab by_, .bool (spnM r off lab by_).2] := by
  unfold spnP spnL spnM
  split
  · rename_i e
    rw [e]
  · rename_i out ls e
    rw [e]
theorem spnL_eq {r : Rn} {off : Nat → Bool} {lab by_ : Int} {l : List Cr} (h : spnM r off lab by_ = (l, true)) : spnL r off lab by_ = crsP l := by
  unfold spnM at h
  unfold spnL
  split at h
  · cases h
  · rename_i out ls e
    rw [e]
    injection h with h1 h2
    rw [← h1]
theorem wjudge_c (r : Rn) (h : r.ok) : CallsA Tryz.prog 59 [.pv r.pv] [] (fun q B => q = .tup [.ptr (.ret 0) 0, .pv (.int .i64 0)] ∧ B = [(.ret 0, .cells (jgC r (.ret 1))), (.ret 1, .map [])]) := by
  have a1 := wcheck_c r h
  refine calls_of_awpE mixed L59_ok (Nat.le_of_ble_eq_true rfl) ?_
  generalize hR : (fun (q : AV) (B : List (Site × Box)) => q = .tup [.ptr (.ret 0) 0, .pv (.int .i64 0)] ∧ B = [(.ret 0, .cells (jgC r (.ret 1))), (.ret 1, .map [])]) = R
  simp [-getElem?_pos, L59, Rn.pv, Rn.pvs, -retB]
  refine call_gives (k := 0) (fs := []) (xs := [r.pv]) (cs := []) rfl rfl a1 rfl ?_
  simp [-getElem?_pos, -retB]
  rw [← hR]
  exact ⟨[.loc 13 0, .loc 11 0], by simp [jgC]⟩
def off0 : Nat → Bool := fun _ => false
def off1 (k : Nat) : Nat → Bool := fun j => decide (j = k)
theorem wasked0_c (r : Rn) (h : r.ok) : CallsA Tryz.prog 54 [.pv r.pv, .pv (.emp (some true))] [] (fun q B => q = .tup [.ptr (.ret 0) 0, .pv (.agg (offV off0)), .pv (.int .i64 0)] ∧ B = [(.ret 0, .cells (jgC r (.ret 1))), (.ret 1, .map [])]) := by
  have a1 := wjudge_c r h
  refine calls_of_awpE mixed L54_ok (Nat.le_of_ble_eq_true rfl) ?_
  generalize hR : (fun (q : AV) (B : List (Site × Box)) => q = .tup [.ptr (.ret 0) 0, .pv (.agg (offV off0)), .pv (.int .i64 0)] ∧ B = [(.ret 0, .cells (jgC r (.ret 1))), (.ret 1, .map [])]) = R
  simp [-getElem?_pos, L54, Rn.pv, Rn.pvs, -retB]
  refine call_lent (as' := [.pv r.pv]) (B := []) (fs := []) (cs := []) 14 [] ?_ rfl rfl rfl ?_ ?_ a1 ?_
  · rfl
  · rfl
  · rfl
  rintro r0 B0 ⟨rfl, rfl⟩
  refine ⟨rfl, by simp [jgC], ?_⟩
  simp [-getElem?_pos, jgC, -retB]
  refine awp_loopS (fun m τ => m = 0 ∧ τ = ⟨[(5, .ptr (.loc 5 0) 0), (7, .ptr (.loc 14 0) 0), (9, .ptr (.loc 9 0) 0), (22, .pv (.int .i64 0)), (23, .pv (.int .i64 0))], [(.loc 9 0, .cells [.pv (.bool false), .pv (.bool false), .pv (.bool false), .pv (.bool false), .pv (.bool false), .pv (.bool false)]), (.loc 5 0, .cells [.pv (.bool false), .pv (.bool false), .pv (.bool false), .pv (.bool false), .pv (.bool false), .pv (.bool false)]), (.loc 14 0, .cells (jgC r (.loc 14 1))), (.loc 14 1, .map [])]⟩) ⟨0, _, Sub.mk (by simp) (by simp [jgC]), rfl, rfl⟩ ?_
  rintro J hJ m τ ⟨rfl, rfl⟩
  clear hJ
  simp [-getElem?_pos, jgC, -retB]
  rw [← hR]
  exact ⟨[.loc 14 0, .loc 14 1], by simp [jgC, offV_six, off0]⟩
theorem wasked1_c (r : Rn) (h : r.ok) (k : Nat) (hk : k < r.labs.length) : CallsA Tryz.prog 54 [.pv r.pv, .pv (.lst false 1 [.int .i64 k])] [] (fun q B => q = .tup [.ptr (.ret 0) 0, .pv (.agg (offV (off1 k))), .pv (.int .i64 0)] ∧ B = [(.ret 0, .cells (jgC r (.ret 1))), (.ret 1, .map [])]) := by
  have a1 := wjudge_c r h
  have h6 := h.b6
  have hw : IntKind.i64.wrap ((r.labs.length : Int) - 1) = (r.labs.length : Int) - 1 := wrap64 (by omega)
  have hw1 : IntKind.i64.wrap 1 = 1 := rfl
  have a2 := wwithin_c (k : Int) 0 ((r.labs.length : Int) - 1)
  rw [show inB (k : Int) 0 ((r.labs.length : Int) - 1) = true by unfold inB; simp only [Bool.and_eq_true, decide_eq_true_eq]; omega] at a2
  refine calls_of_awpE mixed L54_ok (Nat.le_of_ble_eq_true rfl) ?_
  generalize hR : (fun (q : AV) (B : List (Site × Box)) => q = .tup [.ptr (.ret 0) 0, .pv (.agg (offV (off1 k))), .pv (.int .i64 0)] ∧ B = [(.ret 0, .cells (jgC r (.ret 1))), (.ret 1, .map [])]) = R
  simp [-getElem?_pos, L54, Rn.pv, Rn.pvs, -retB]
  refine call_lent (as' := [.pv r.pv]) (B := []) (fs := []) (cs := []) 14 [] ?_ rfl rfl rfl ?_ ?_ a1 ?_
  · rfl
  · rfl
  · rfl
  rintro r0 B0 ⟨rfl, rfl⟩
  refine ⟨rfl, by simp [jgC], ?_⟩
  simp [-getElem?_pos, jgC, -retB]
  refine awp_loopS (fun m τ => (m = 1 ∧ τ = ⟨[(1, .pv (.lst false 1 [.int .i64 k])), (2, .ptr (.loc 2 0) 0), (5, .ptr (.loc 5 0) 0), (7, .ptr (.loc 14 0) 0), (9, .ptr (.loc 9 0) 0), (21, .pv (.lst false 1 [.int .i64 k])), (22, .pv (.int .i64 1)), (23, .pv (.int .i64 0))], [(.loc 9 0, .cells ((offV off0).map .pv)), (.loc 5 0, .cells ((offV off0).map .pv)), (.loc 2 0, .cells (r.pvs.map .pv)), (.loc 14 0, .cells (jgC r (.loc 14 1))), (.loc 14 1, .map [])]⟩) ∨
    (m = 0 ∧ τ = ⟨[(5, .ptr (.loc 5 0) 0), (7, .ptr (.loc 14 0) 0), (9, .ptr (.loc 9 0) 0), (22, .pv (.int .i64 1)), (23, .pv (.int .i64 1))], [(.loc 9 0, .cells ((offV (off1 k)).map .pv)), (.loc 5 0, .cells ((offV off0).map .pv)), (.loc 14 0, .cells (jgC r (.loc 14 1))), (.loc 14 1, .map [])]⟩)) ⟨1, _, Sub.mk (by simp) (by simp [jgC, offV_six, off0, Rn.pvs]), .inl ⟨rfl, rfl⟩⟩ ?_
  rintro J hJ m τ (⟨rfl, rfl⟩ | ⟨rfl, rfl⟩)
  · have hround := hJ _ _ (.inr ⟨rfl, rfl⟩)
    clear hJ
    simp [-getElem?_pos, jgC, offV_six, off0, Rn.pvs, labsP, hw, -retB]
    refine call_gives (k := 0) rfl rfl a2 rfl ?_
    have hk5 : k = 0 ∨ k = 1 ∨ k = 2 ∨ k = 3 ∨ k = 4 ∨ k = 5 := by omega
    rcases hk5 with rfl | rfl | rfl | rfl | rfl | rfl
    all_goals
      simp [-getElem?_pos, hw1, nblt, -retB]
      exact ⟨_, _, (by omega : 0 < 1), Sub.mk (by simp [hw1]) (by simp [jgC, labsP, offV_six, off0, off1]), hround⟩
  · clear hJ
    simp [-getElem?_pos, jgC, offV_six, off0, off1, -retB]
    rw [← hR]
    exact ⟨[.loc 14 0, .loc 14 1], by simp [jgC, offV_six, off1]⟩
theorem wexplain_c (r : Rn) (h : r.fine) (off : Nat → Bool) : CallsA Tryz.prog 55 [.ptr (.par 0) 0, .pv (.agg (offV off))] (laid 0 (jgB r [])) (fun q B => q = .pv (.bool (spnM r off (-1) 0).2) ∧ B = laid 0 (jgB r [(.agg (offV off), .bool (spnM r off (-1) 0).2)])) := by
  have a1 := wspans_c r h [] off (-1) 0 (by omega)
  have a2 := wnobody_c
  rw [spnP_eq] at a1
  generalize (spnM r off (-1) 0).2 = can at *
  generalize spnL r off (-1) 0 = L at *
  refine calls_of_awpB [.par 0, .par 1] mixed L55_ok (Nat.le_of_ble_eq_true rfl) ?_
  generalize hR : (fun (q : AV) (B : List (Site × Box)) => q = .pv (.bool can) ∧ B = laid 0 (jgB r [(.agg (offV off), .bool can)])) = R
  simp [-getElem?_pos, L55, laid, jgB, jgC, offV_six, -retB]
  refine call_gives (k := 0) (fs := []) (xs := []) (cs := []) rfl rfl a2 rfl ?_
  simp [-getElem?_pos, -retB]
  refine call_lent (as' := [.ptr (.par 0) 0, .pv (.agg (offV off)), .pv (.agg [.int .i64 (-1), .int .i64 0])]) (B := laid 0 (jgB r [])) (fs := []) (cs := []) 22 [.par 0, .par 1] ?_ rfl rfl ?_ ?_ ?_ a1 ?_
  · rfl
  · simp [laid, jgB, jgC]
  · rfl
  · rfl
  rintro r0 B0 ⟨rfl, rfl⟩
  refine ⟨rfl, by simp [laid, jgB, jgC], ?_⟩
  simp [-getElem?_pos, laid, jgB, jgC, keysOk, findV, putK]
  rw [← hR]
  exact ⟨rfl, by simp [laid, jgB, jgC, offV_six]⟩
theorem wExplains0_c (r : Rn) (h : r.ok) (hf : r.fine) : Gives Tryz.prog 18 [r.pv, .emp (some true)] (.tup [.bool (spnM r off0 (-1) 0).2, .int .i64 0]) := by
  have a1 := wasked0_c r h
  have a2 := wexplain_c r hf off0
  generalize (spnM r off0 (-1) 0).2 = can at *
  refine calls_of_awpS mixed L18_ok (Nat.le_of_ble_eq_true rfl) ?_
  simp [-getElem?_pos, L18, Rn.pv, Rn.pvs]
  refine call_lent (as' := [.pv r.pv, .pv (.emp (some true))]) (B := []) (fs := []) (cs := []) 12 [] ?_ rfl rfl rfl ?_ ?_ a1 ?_
  · rfl
  · rfl
  · rfl
  rintro r0 B0 ⟨rfl, rfl⟩
  refine ⟨rfl, by simp [jgC], ?_⟩
  simp [-getElem?_pos, jgC, offV_six]
  refine call_lent (as' := [.ptr (.par 0) 0, .pv (.agg (offV off0))]) (B := laid 0 (jgB r [])) (fs := []) (cs := []) 21 [.loc 12 0, .loc 12 1] ?_ rfl rfl ?_ ?_ ?_ a2 ?_
  · rfl
  · simp [laid, jgB, jgC]
  · rfl
  · rfl
  rintro r0 B0 ⟨rfl, rfl⟩
  refine ⟨rfl, by simp [laid, jgB, jgC], ?_⟩
  simp [-getElem?_pos, laid, jgB, jgC]
theorem wExplains1_c (r : Rn) (h : r.ok) (hf : r.fine) (k : Nat) (hk : k < r.labs.length) : Gives Tryz.prog 18 [r.pv, .lst false 1 [.int .i64 k]] (.tup [.bool (spnM r (off1 k) (-1) 0).2, .int .i64 0]) := by
  have a1 := wasked1_c r h k hk
  have a2 := wexplain_c r hf (off1 k)
  generalize (spnM r (off1 k) (-1) 0).2 = can at *
  refine calls_of_awpS mixed L18_ok (Nat.le_of_ble_eq_true rfl) ?_
  simp [-getElem?_pos, L18, Rn.pv, Rn.pvs]
  refine call_lent (as' := [.pv r.pv, .pv (.lst false 1 [.int .i64 k])]) (B := []) (fs := []) (cs := []) 12 [] ?_ rfl rfl rfl ?_ ?_ a1 ?_
  · rfl
  · rfl
  · rfl
  rintro r0 B0 ⟨rfl, rfl⟩
  refine ⟨rfl, by simp [jgC], ?_⟩
  simp [-getElem?_pos, jgC, offV_six]
  refine call_lent (as' := [.ptr (.par 0) 0, .pv (.agg (offV (off1 k)))]) (B := laid 0 (jgB r [])) (fs := []) (cs := []) 21 [.loc 12 0, .loc 12 1] ?_ rfl rfl ?_ ?_ ?_ a2 ?_
  · rfl
  · simp [laid, jgB, jgC]
  · rfl
  · rfl
  rintro r0 B0 ⟨rfl, rfl⟩
  refine ⟨rfl, by simp [laid, jgB, jgC], ?_⟩
  simp [-getElem?_pos, laid, jgB, jgC]
theorem wSpans_c (r : Rn) (h : r.ok) (hf : r.fine) {l : List Cr} (hl : spnM r off0 (-1) 0 = (l, true)) : Gives Tryz.prog 20 [r.pv, .emp (some true)] (.tup [crsP l, .int .i64 0]) := by
  have a1 := wasked0_c r h
  have a2 := wspans_c r hf [] off0 (-1) 0 (by omega)
  have a3 := wnobody_c
  rw [spnP_eq, spnL_eq hl, hl] at a2
  refine calls_of_awpS mixed L20_ok (Nat.le_of_ble_eq_true rfl) ?_
  simp [-getElem?_pos, L20, Rn.pv, Rn.pvs]
  refine call_lent (as' := [.pv r.pv, .pv (.emp (some true))]) (B := []) (fs := []) (cs := []) 14 [] ?_ rfl rfl rfl ?_ ?_ a1 ?_
  · rfl
  · rfl
  · rfl
  rintro r0 B0 ⟨rfl, rfl⟩
  refine ⟨rfl, by simp [jgC], ?_⟩
  simp [-getElem?_pos, jgC, offV_six]
  refine call_give (k := 0) (fs := []) (xs := []) (cs := []) rfl rfl a3 rfl ?_
  simp [-getElem?_pos]
  refine call_lent (as' := [.ptr (.par 0) 0, .pv (.agg (offV off0)), .pv (.agg [.int .i64 (-1), .int .i64 0])]) (B := laid 0 (jgB r [])) (fs := []) (cs := []) 25 [.loc 14 0, .loc 14 1] ?_ rfl rfl ?_ ?_ ?_ a2 ?_
  · rfl
  · simp [laid, jgB, jgC]
  · rfl
  · rfl
  rintro r0 B0 ⟨rfl, rfl⟩
  refine ⟨rfl, by simp [laid, jgB, jgC], ?_⟩
  simp [-getElem?_pos, laid, jgB, jgC, crsP]
end Go.Proofs.YtaffbiibcfeigaaGreat
/-! Contracts of layer 8 (round): Shifts. -/
namespace Go.Proofs.YtaffbiibcfeigaaGreat
open Go.RowKit
set_option maxRecDepth 10000
set_option linter.unusedSimpArgs false
attribute [local simp] AS.exp expG Box.ren AV.map AV.mapL outsOk noRet Site.isRet Box.allS AV.allS AV.allSL retB dropL AS.adds renL outG outOk lentBx inG fnOf lookA List.findIdx?_cons
attribute [local simp] Box.purge Site.isLoc
/-- The shifts that can be, among the first ones. -/
def shfM (P : Int → Bool) : Nat → Cr
  | 0 => ⟨1073741824, -1073741824⟩
  | n + 1 => if P (-2000 + (n : Int)) = true then ⟨min (shfM P n).lo (-2000 + (n : Int)), -2000 + (n : Int)⟩ else shfM P n
theorem shfM_bd {P : Int → Bool} : ∀ n, (∀ i : Nat, i < n → P (-2000 + (i : Int)) = true → (shfM P n).lo ≤ -2000 + (i : Int) ∧ -2000 + (i : Int) ≤ (shfM P n).hi) ∧ (shfM P n = ⟨1073741824, -1073741824⟩ ∨ (-2000 ≤ (shfM P n).lo ∧ (shfM P n).hi < -2000 + (n : Int)))
  | 0 => ⟨fun i hi => absurd hi (Nat.not_lt_zero _), .inl rfl⟩
  | n + 1 => by
    obtain ⟨h1, h2⟩ := shfM_bd (P := P) n
    by_cases hp : P (-2000 + (n : Int)) = true
    · have e : shfM P (n + 1) = ⟨min (shfM P n).lo (-2000 + (n : Int)), -2000 + (n : Int)⟩ := by
        conv => lhs; unfold shfM
        rw [if_pos hp]
      rw [e]
      refine ⟨fun i hi hpi => ?_, .inr ?_⟩
      · simp only
        rcases Nat.lt_or_ge i n with h | h
        · have := h1 i h hpi
          omega
        · omega
      · simp only
        rcases h2 with h2 | h2
        · rw [h2]; simp only; omega
        · omega
    · have e : shfM P (n + 1) = shfM P n := by
        conv => lhs; unfold shfM
        rw [if_neg hp]
      rw [e]
      refine ⟨fun i hi hpi => ?_, ?_⟩
      · rcases Nat.lt_or_ge i n with h | h
        · exact h1 i h hpi
        · obtain rfl : i = n := by omega
          exact absurd hpi hp
      · rcases h2 with h2 | h2
        · exact .inl h2
        · exact .inr (by omega)
theorem shfM_has {P : Int → Bool} {t : Int} (h0 : -2000 ≤ t ∧ t ≤ 2000) (h : P t = true) : (shfM P 4001).lo ≤ t ∧ t ≤ (shfM P 4001).hi ∧ ¬ (shfM P 4001).lo = 1073741824 := by
  obtain ⟨h1, h2⟩ := shfM_bd (P := P) 4001
  have := h1 (t + 2000).toNat (by omega) (by rw [show -2000 + (((t + 2000).toNat : Nat) : Int) = t by omega]; exact h)
  omega
def shT (r : Rn) (k : Nat) (kn : List (PV × PV)) (c : Cr) (n : Int) : AS := ⟨[(1, .pv (.int .i64 k)), (4, .ptr (.loc 4 0) 0), (6, .ptr (.loc 15 0) 0), (9, .ptr (.loc 9 0) 0), (10, .pv (.int .i64 n))],
  [(.loc 9 0, .cells [.pv (.int .i64 c.lo), .pv (.int .i64 c.hi)]), (.loc 4 0, .cells [.pv (.int .i64 0), .pv (.int .i64 0)]), (.loc 15 0, .cells (jgC r (.loc 15 1))), (.loc 15 1, .map kn)]⟩
set_option maxHeartbeats 16000000 in
theorem wShifts_c (r : Rn) (h : r.ok) (hf : r.fine) (k : Nat) (hk : k < r.labs.length) (hex : (spnM r (off1 k) (-1) 0).2 = true) (t : Int) (ht : -2000 ≤ t ∧ t ≤ 2000) (hpt : (spnM r off0 k t).2 = true) :
    Gives Tryz.prog 21 [r.pv, .int .i64 k] (.tup [(shfM (fun b => (spnM r off0 k b).2) 4001).pv, .int .i64 0]) := by
  have a1 := wjudge_c r h
  have h6 := h.b6
  have hw : IntKind.i64.wrap ((r.labs.length : Int) - 1) = (r.labs.length : Int) - 1 := wrap64 (by omega)
  have a2 := wwithin_c (k : Int) 0 ((r.labs.length : Int) - 1)
  rw [show inB (k : Int) 0 ((r.labs.length : Int) - 1) = true by unfold inB; simp only [Bool.and_eq_true, decide_eq_true_eq]; omega] at a2
  have a3 := wexplain_c r hf (off1 k)
  rw [hex] at a3
  have hkn : ∃ kn, kn = [((PV.agg (offV (off1 k))), (PV.bool true))] := ⟨_, rfl⟩
  obtain ⟨kn, hkn⟩ := hkn
  rw [← hkn] at a3
  have a4 := fun (b : Int) (hb : -5000 ≤ b ∧ b ≤ 5000) => wspans_c r hf kn off0 k b hb
  have hfin := shfM_has (P := fun b => (spnM r off0 k b).2) ht hpt
  clear hkn
  refine calls_of_awpS mixed L21_ok (Nat.le_of_ble_eq_true rfl) ?_
  simp [-getElem?_pos, L21, Rn.pv, Rn.pvs]
  refine call_lent (as' := [.pv r.pv]) (B := []) (fs := []) (cs := []) 15 [] ?_ rfl rfl rfl ?_ ?_ a1 ?_
  · rfl
  · rfl
  · rfl
  rintro r0 B0 ⟨rfl, rfl⟩
  refine ⟨rfl, by simp [jgC], ?_⟩
  simp [-getElem?_pos, jgC, labsP, hw]
  refine call_gives (k := 0) rfl rfl a2 rfl ?_
  have hk5 : k = 0 ∨ k = 1 ∨ k = 2 ∨ k = 3 ∨ k = 4 ∨ k = 5 := by omega
  rcases hk5 with rfl | rfl | rfl | rfl | rfl | rfl
  · have hnI : natI 0 = some 0 := rfl
    simp [-getElem?_pos, nblt, hnI]
    refine call_lent (as' := [.ptr (.par 0) 0, .pv (.agg (offV (off1 0)))]) (B := laid 0 (jgB r [])) (fs := []) (cs := []) 34 [.loc 15 0, .loc 15 1] ?_ rfl rfl ?_ ?_ ?_ a3 ?_
    · rfl
    · simp [laid, jgB, jgC, labsP]
    · rfl
    · rfl
    rintro r0 B0 ⟨rfl, rfl⟩
    refine ⟨rfl, by simp [laid, jgB, jgC], ?_⟩
    simp [-getElem?_pos, laid, jgB, jgC, labsP]
    refine awp_loopS (fun m τ => ∃ n : Nat, n ≤ 4001 ∧ m = 4001 - n ∧ τ = shT r 0 kn (shfM (fun b => (spnM r off0 0 b).2) n) (-2000 + (n : Int))) ⟨4001, shT r 0 kn (shfM (fun b => (spnM r off0 0 b).2) 0) (-2000), Sub.mk (by simp [shT]) (by simp [shT, shfM, jgC, labsP]), 0, Nat.zero_le _, rfl, rfl⟩ ?_
    rintro J hJ m τ ⟨n, hn, rfl, rfl⟩
    by_cases hlt : n < 4001
    · have hround := hJ _ _ ⟨n + 1, hlt, rfl, rfl⟩
      have hmeas : 4001 - (n + 1) < 4001 - n := by omega
      have a5 := a4 (-2000 + (n : Int)) (by omega)
      rw [spnP_eq] at a5
      have hnx : shfM (fun b => (spnM r off0 0 b).2) (n + 1) = if (spnM r off0 0 (-2000 + (n : Int))).2 = true then ⟨min (shfM (fun b => (spnM r off0 0 b).2) n).lo (-2000 + (n : Int)), -2000 + (n : Int)⟩ else shfM (fun b => (spnM r off0 0 b).2) n := rfl
      rw [hnx] at hround
      have hle : decide (-2000 + (n : Int) ≤ 2000) = true := decide_eq_true (by omega)
      have hw1 : IntKind.i64.wrap (-2000 + (n : Int) + 1) = -2000 + ((n + 1 : Nat) : Int) := by rw [wrap64 (by omega)]; omega
      clear hJ hnx a4
      generalize (spnM r off0 0 (-2000 + (n : Int))).2 = can at *
      generalize spnL r off0 0 (-2000 + (n : Int)) = L at *
      generalize shfM (fun b => (spnM r off0 0 b).2) n = c at *
      generalize -2000 + ((n + 1 : Nat) : Int) = bn at *
      generalize -2000 + (n : Int) = b0 at *
      have hmn := wleast_c c.lo b0
      simp [-getElem?_pos, -decide_eq_true_eq, -decide_eq_false_iff_not, shT, jgC, hle]
      refine call_lent (as' := [.ptr (.par 0) 0, .pv (.agg (offV off0)), .pv (.agg [.int .i64 0, .int .i64 b0])]) (B := laid 0 (jgB r kn)) (fs := []) (cs := []) 48 [.loc 15 0, .loc 15 1] ?_ rfl rfl ?_ ?_ ?_ a5 ?_
      · rfl
      · simp [laid, jgB, jgC]
      · rfl
      · rfl
      rintro r0 B0 ⟨rfl, rfl⟩
      refine ⟨rfl, by simp [laid, jgB, jgC], ?_⟩
      cases can
      · simp only [Bool.false_eq_true, if_false] at hround
        simp [-getElem?_pos, laid, jgB, jgC, hw1]
        exact ⟨_, _, hmeas, Sub.mk (by simp [shT]) (by simp [shT, jgC]), hround⟩
      · simp only [if_true] at hround
        simp [-getElem?_pos, laid, jgB, jgC]
        refine call_gives (k := 1) (fs := []) (xs := [.lst false 1 [.int .i64 c.lo, .int .i64 b0]]) (cs := []) rfl rfl hmn rfl ?_
        simp [-getElem?_pos, hw1]
        exact ⟨_, _, hmeas, Sub.mk (by simp [shT]) (by simp [shT, jgC]), hround⟩
    · have he : n = 4001 := by omega
      subst he
      clear hJ
      have hle : decide (-2000 + ((4001 : Nat) : Int) ≤ 2000) = false := rfl
      have hfin' : ((shfM (fun b => (spnM r off0 0 b).2) 4001).lo == 1073741824) = false := beq_eq_false_iff_ne.2 hfin.2.2
      simp [-getElem?_pos, shT, jgC, hle, hfin', Cr.pv]
  · have hnI : natI 1 = some 1 := rfl
    simp [-getElem?_pos, nblt, hnI]
    refine call_lent (as' := [.ptr (.par 0) 0, .pv (.agg (offV (off1 1)))]) (B := laid 0 (jgB r [])) (fs := []) (cs := []) 34 [.loc 15 0, .loc 15 1] ?_ rfl rfl ?_ ?_ ?_ a3 ?_
    · rfl
    · simp [laid, jgB, jgC, labsP]
    · rfl
    · rfl
    rintro r0 B0 ⟨rfl, rfl⟩
    refine ⟨rfl, by simp [laid, jgB, jgC], ?_⟩
    simp [-getElem?_pos, laid, jgB, jgC, labsP]
    refine awp_loopS (fun m τ => ∃ n : Nat, n ≤ 4001 ∧ m = 4001 - n ∧ τ = shT r 1 kn (shfM (fun b => (spnM r off0 1 b).2) n) (-2000 + (n : Int))) ⟨4001, shT r 1 kn (shfM (fun b => (spnM r off0 1 b).2) 0) (-2000), Sub.mk (by simp [shT]) (by simp [shT, shfM, jgC, labsP]), 0, Nat.zero_le _, rfl, rfl⟩ ?_
    rintro J hJ m τ ⟨n, hn, rfl, rfl⟩
    by_cases hlt : n < 4001
    · have hround := hJ _ _ ⟨n + 1, hlt, rfl, rfl⟩
      have hmeas : 4001 - (n + 1) < 4001 - n := by omega
      have a5 := a4 (-2000 + (n : Int)) (by omega)
      rw [spnP_eq] at a5
      have hnx : shfM (fun b => (spnM r off0 1 b).2) (n + 1) = if (spnM r off0 1 (-2000 + (n : Int))).2 = true then ⟨min (shfM (fun b => (spnM r off0 1 b).2) n).lo (-2000 + (n : Int)), -2000 + (n : Int)⟩ else shfM (fun b => (spnM r off0 1 b).2) n := rfl
      rw [hnx] at hround
      have hle : decide (-2000 + (n : Int) ≤ 2000) = true := decide_eq_true (by omega)
      have hw1 : IntKind.i64.wrap (-2000 + (n : Int) + 1) = -2000 + ((n + 1 : Nat) : Int) := by rw [wrap64 (by omega)]; omega
      clear hJ hnx a4
      generalize (spnM r off0 1 (-2000 + (n : Int))).2 = can at *
      generalize spnL r off0 1 (-2000 + (n : Int)) = L at *
      generalize shfM (fun b => (spnM r off0 1 b).2) n = c at *
      generalize -2000 + ((n + 1 : Nat) : Int) = bn at *
      generalize -2000 + (n : Int) = b0 at *
      have hmn := wleast_c c.lo b0
      simp [-getElem?_pos, -decide_eq_true_eq, -decide_eq_false_iff_not, shT, jgC, hle]
      refine call_lent (as' := [.ptr (.par 0) 0, .pv (.agg (offV off0)), .pv (.agg [.int .i64 1, .int .i64 b0])]) (B := laid 0 (jgB r kn)) (fs := []) (cs := []) 48 [.loc 15 0, .loc 15 1] ?_ rfl rfl ?_ ?_ ?_ a5 ?_
      · rfl
      · simp [laid, jgB, jgC]
      · rfl
      · rfl
      rintro r0 B0 ⟨rfl, rfl⟩
      refine ⟨rfl, by simp [laid, jgB, jgC], ?_⟩
      cases can
      · simp only [Bool.false_eq_true, if_false] at hround
        simp [-getElem?_pos, laid, jgB, jgC, hw1]
        exact ⟨_, _, hmeas, Sub.mk (by simp [shT]) (by simp [shT, jgC]), hround⟩
      · simp only [if_true] at hround
        simp [-getElem?_pos, laid, jgB, jgC]
        refine call_gives (k := 1) (fs := []) (xs := [.lst false 1 [.int .i64 c.lo, .int .i64 b0]]) (cs := []) rfl rfl hmn rfl ?_
        simp [-getElem?_pos, hw1]
        exact ⟨_, _, hmeas, Sub.mk (by simp [shT]) (by simp [shT, jgC]), hround⟩
    · have he : n = 4001 := by omega
      subst he
      clear hJ
      have hle : decide (-2000 + ((4001 : Nat) : Int) ≤ 2000) = false := rfl
      have hfin' : ((shfM (fun b => (spnM r off0 1 b).2) 4001).lo == 1073741824) = false := beq_eq_false_iff_ne.2 hfin.2.2
      simp [-getElem?_pos, shT, jgC, hle, hfin', Cr.pv]
  · have hnI : natI 2 = some 2 := rfl
    simp [-getElem?_pos, nblt, hnI]
    refine call_lent (as' := [.ptr (.par 0) 0, .pv (.agg (offV (off1 2)))]) (B := laid 0 (jgB r [])) (fs := []) (cs := []) 34 [.loc 15 0, .loc 15 1] ?_ rfl rfl ?_ ?_ ?_ a3 ?_
    · rfl
    · simp [laid, jgB, jgC, labsP]
    · rfl
    · rfl
    rintro r0 B0 ⟨rfl, rfl⟩
    refine ⟨rfl, by simp [laid, jgB, jgC], ?_⟩
    simp [-getElem?_pos, laid, jgB, jgC, labsP]
    refine awp_loopS (fun m τ => ∃ n : Nat, n ≤ 4001 ∧ m = 4001 - n ∧ τ = shT r 2 kn (shfM (fun b => (spnM r off0 2 b).2) n) (-2000 + (n : Int))) ⟨4001, shT r 2 kn (shfM (fun b => (spnM r off0 2 b).2) 0) (-2000), Sub.mk (by simp [shT]) (by simp [shT, shfM, jgC, labsP]), 0, Nat.zero_le _, rfl, rfl⟩ ?_
    rintro J hJ m τ ⟨n, hn, rfl, rfl⟩
    by_cases hlt : n < 4001
    · have hround := hJ _ _ ⟨n + 1, hlt, rfl, rfl⟩
      have hmeas : 4001 - (n + 1) < 4001 - n := by omega
      have a5 := a4 (-2000 + (n : Int)) (by omega)
      rw [spnP_eq] at a5
      have hnx : shfM (fun b => (spnM r off0 2 b).2) (n + 1) = if (spnM r off0 2 (-2000 + (n : Int))).2 = true then ⟨min (shfM (fun b => (spnM r off0 2 b).2) n).lo (-2000 + (n : Int)), -2000 + (n : Int)⟩ else shfM (fun b => (spnM r off0 2 b).2) n := rfl
      rw [hnx] at hround
      have hle : decide (-2000 + (n : Int) ≤ 2000) = true := decide_eq_true (by omega)
      have hw1 : IntKind.i64.wrap (-2000 + (n : Int) + 1) = -2000 + ((n + 1 : Nat) : Int) := by rw [wrap64 (by omega)]; omega
      clear hJ hnx a4
      generalize (spnM r off0 2 (-2000 + (n : Int))).2 = can at *
      generalize spnL r off0 2 (-2000 + (n : Int)) = L at *
      generalize shfM (fun b => (spnM r off0 2 b).2) n = c at *
      generalize -2000 + ((n + 1 : Nat) : Int) = bn at *
      generalize -2000 + (n : Int) = b0 at *
      have hmn := wleast_c c.lo b0
      simp [-getElem?_pos, -decide_eq_true_eq, -decide_eq_false_iff_not, shT, jgC, hle]
      refine call_lent (as' := [.ptr (.par 0) 0, .pv (.agg (offV off0)), .pv (.agg [.int .i64 2, .int .i64 b0])]) (B := laid 0 (jgB r kn)) (fs := []) (cs := []) 48 [.loc 15 0, .loc 15 1] ?_ rfl rfl ?_ ?_ ?_ a5 ?_
      · rfl
      · simp [laid, jgB, jgC]
      · rfl
      · rfl
      rintro r0 B0 ⟨rfl, rfl⟩
      refine ⟨rfl, by simp [laid, jgB, jgC], ?_⟩
      cases can
      · simp only [Bool.false_eq_true, if_false] at hround
        simp [-getElem?_pos, laid, jgB, jgC, hw1]
        exact ⟨_, _, hmeas, Sub.mk (by simp [shT]) (by simp [shT, jgC]), hround⟩
      · simp only [if_true] at hround
        simp [-getElem?_pos, laid, jgB, jgC]
        refine call_gives (k := 1) (fs := []) (xs := [.lst false 1 [.int .i64 c.lo, .int .i64 b0]]) (cs := []) rfl rfl hmn rfl ?_
        simp [-getElem?_pos, hw1]
        exact ⟨_, _, hmeas, Sub.mk (by simp [shT]) (by simp [shT, jgC]), hround⟩
    · have he : n = 4001 := by omega
      subst he
      clear hJ
      have hle : decide (-2000 + ((4001 : Nat) : Int) ≤ 2000) = false := rfl
      have hfin' : ((shfM (fun b => (spnM r off0 2 b).2) 4001).lo == 1073741824) = false := beq_eq_false_iff_ne.2 hfin.2.2
      simp [-getElem?_pos, shT, jgC, hle, hfin', Cr.pv]
  · have hnI : natI 3 = some 3 := rfl
    simp [-getElem?_pos, nblt, hnI]
    refine call_lent (as' := [.ptr (.par 0) 0, .pv (.agg (offV (off1 3)))]) (B := laid 0 (jgB r [])) (fs := []) (cs := []) 34 [.loc 15 0, .loc 15 1] ?_ rfl rfl ?_ ?_ ?_ a3 ?_
    · rfl
    · simp [laid, jgB, jgC, labsP]
    · rfl
    · rfl
    rintro r0 B0 ⟨rfl, rfl⟩
    refine ⟨rfl, by simp [laid, jgB, jgC], ?_⟩
    simp [-getElem?_pos, laid, jgB, jgC, labsP]
    refine awp_loopS (fun m τ => ∃ n : Nat, n ≤ 4001 ∧ m = 4001 - n ∧ τ = shT r 3 kn (shfM (fun b => (spnM r off0 3 b).2) n) (-2000 + (n : Int))) ⟨4001, shT r 3 kn (shfM (fun b => (spnM r off0 3 b).2) 0) (-2000), Sub.mk (by simp [shT]) (by simp [shT, shfM, jgC, labsP]), 0, Nat.zero_le _, rfl, rfl⟩ ?_
    rintro J hJ m τ ⟨n, hn, rfl, rfl⟩
    by_cases hlt : n < 4001
    · have hround := hJ _ _ ⟨n + 1, hlt, rfl, rfl⟩
      have hmeas : 4001 - (n + 1) < 4001 - n := by omega
      have a5 := a4 (-2000 + (n : Int)) (by omega)
      rw [spnP_eq] at a5
      have hnx : shfM (fun b => (spnM r off0 3 b).2) (n + 1) = if (spnM r off0 3 (-2000 + (n : Int))).2 = true then ⟨min (shfM (fun b => (spnM r off0 3 b).2) n).lo (-2000 + (n : Int)), -2000 + (n : Int)⟩ else shfM (fun b => (spnM r off0 3 b).2) n := rfl
      rw [hnx] at hround
      have hle : decide (-2000 + (n : Int) ≤ 2000) = true := decide_eq_true (by omega)
      have hw1 : IntKind.i64.wrap (-2000 + (n : Int) + 1) = -2000 + ((n + 1 : Nat) : Int) := by rw [wrap64 (by omega)]; omega
      clear hJ hnx a4
      generalize (spnM r off0 3 (-2000 + (n : Int))).2 = can at *
      generalize spnL r off0 3 (-2000 + (n : Int)) = L at *
      generalize shfM (fun b => (spnM r off0 3 b).2) n = c at *
      generalize -2000 + ((n + 1 : Nat) : Int) = bn at *
      generalize -2000 + (n : Int) = b0 at *
      have hmn := wleast_c c.lo b0
      simp [-getElem?_pos, -decide_eq_true_eq, -decide_eq_false_iff_not, shT, jgC, hle]
      refine call_lent (as' := [.ptr (.par 0) 0, .pv (.agg (offV off0)), .pv (.agg [.int .i64 3, .int .i64 b0])]) (B := laid 0 (jgB r kn)) (fs := []) (cs := []) 48 [.loc 15 0, .loc 15 1] ?_ rfl rfl ?_ ?_ ?_ a5 ?_
      · rfl
      · simp [laid, jgB, jgC]
      · rfl
      · rfl
      rintro r0 B0 ⟨rfl, rfl⟩
      refine ⟨rfl, by simp [laid, jgB, jgC], ?_⟩
      cases can
      · simp only [Bool.false_eq_true, if_false] at hround
        simp [-getElem?_pos, laid, jgB, jgC, hw1]
        exact ⟨_, _, hmeas, Sub.mk (by simp [shT]) (by simp [shT, jgC]), hround⟩
      · simp only [if_true] at hround
        simp [-getElem?_pos, laid, jgB, jgC]
        refine call_gives (k := 1) (fs := []) (xs := [.lst false 1 [.int .i64 c.lo, .int .i64 b0]]) (cs := []) rfl rfl hmn rfl ?_
        simp [-getElem?_pos, hw1]
        exact ⟨_, _, hmeas, Sub.mk (by simp [shT]) (by simp [shT, jgC]), hround⟩
    · have he : n = 4001 := by omega
      subst he
      clear hJ
      have hle : decide (-2000 + ((4001 : Nat) : Int) ≤ 2000) = false := rfl
      have hfin' : ((shfM (fun b => (spnM r off0 3 b).2) 4001).lo == 1073741824) = false := beq_eq_false_iff_ne.2 hfin.2.2
      simp [-getElem?_pos, shT, jgC, hle, hfin', Cr.pv]
  · have hnI : natI 4 = some 4 := rfl
    simp [-getElem?_pos, nblt, hnI]
    refine call_lent (as' := [.ptr (.par 0) 0, .pv (.agg (offV (off1 4)))]) (B := laid 0 (jgB r [])) (fs := []) (cs := []) 34 [.loc 15 0, .loc 15 1] ?_ rfl rfl ?_ ?_ ?_ a3 ?_
    · rfl
    · simp [laid, jgB, jgC, labsP]
    · rfl
    · rfl
    rintro r0 B0 ⟨rfl, rfl⟩
    refine ⟨rfl, by simp [laid, jgB, jgC], ?_⟩
    simp [-getElem?_pos, laid, jgB, jgC, labsP]
    refine awp_loopS (fun m τ => ∃ n : Nat, n ≤ 4001 ∧ m = 4001 - n ∧ τ = shT r 4 kn (shfM (fun b => (spnM r off0 4 b).2) n) (-2000 + (n : Int))) ⟨4001, shT r 4 kn (shfM (fun b => (spnM r off0 4 b).2) 0) (-2000), Sub.mk (by simp [shT]) (by simp [shT, shfM, jgC, labsP]), 0, Nat.zero_le _, rfl, rfl⟩ ?_
    rintro J hJ m τ ⟨n, hn, rfl, rfl⟩
    by_cases hlt : n < 4001
    · have hround := hJ _ _ ⟨n + 1, hlt, rfl, rfl⟩
      have hmeas : 4001 - (n + 1) < 4001 - n := by omega
      have a5 := a4 (-2000 + (n : Int)) (by omega)
      rw [spnP_eq] at a5
      have hnx : shfM (fun b => (spnM r off0 4 b).2) (n + 1) = if (spnM r off0 4 (-2000 + (n : Int))).2 = true then ⟨min (shfM (fun b => (spnM r off0 4 b).2) n).lo (-2000 + (n : Int)), -2000 + (n : Int)⟩ else shfM (fun b => (spnM r off0 4 b).2) n := rfl
      rw [hnx] at hround
      have hle : decide (-2000 + (n : Int) ≤ 2000) = true := decide_eq_true (by omega)
      have hw1 : IntKind.i64.wrap (-2000 + (n : Int) + 1) = -2000 + ((n + 1 : Nat) : Int) := by rw [wrap64 (by omega)]; omega
      clear hJ hnx a4
      generalize (spnM r off0 4 (-2000 + (n : Int))).2 = can at *
      generalize spnL r off0 4 (-2000 + (n : Int)) = L at *
      generalize shfM (fun b => (spnM r off0 4 b).2) n = c at *
      generalize -2000 + ((n + 1 : Nat) : Int) = bn at *
      generalize -2000 + (n : Int) = b0 at *
      have hmn := wleast_c c.lo b0
      simp [-getElem?_pos, -decide_eq_true_eq, -decide_eq_false_iff_not, shT, jgC, hle]
      refine call_lent (as' := [.ptr (.par 0) 0, .pv (.agg (offV off0)), .pv (.agg [.int .i64 4, .int .i64 b0])]) (B := laid 0 (jgB r kn)) (fs := []) (cs := []) 48 [.loc 15 0, .loc 15 1] ?_ rfl rfl ?_ ?_ ?_ a5 ?_
      · rfl
      · simp [laid, jgB, jgC]
      · rfl
      · rfl
      rintro r0 B0 ⟨rfl, rfl⟩
      refine ⟨rfl, by simp [laid, jgB, jgC], ?_⟩
      cases can
      · simp only [Bool.false_eq_true, if_false] at hround
        simp [-getElem?_pos, laid, jgB, jgC, hw1]
        exact ⟨_, _, hmeas, Sub.mk (by simp [shT]) (by simp [shT, jgC]), hround⟩
      · simp only [if_true] at hround
        simp [-getElem?_pos, laid, jgB, jgC]
        refine call_gives (k := 1) (fs := []) (xs := [.lst false 1 [.int .i64 c.lo, .int .i64 b0]]) (cs := []) rfl rfl hmn rfl ?_
        simp [-getElem?_pos, hw1]
        exact ⟨_, _, hmeas, Sub.mk (by simp [shT]) (by simp [shT, jgC]), hround⟩
    · have he : n = 4001 := by omega
      subst he
      clear hJ
      have hle : decide (-2000 + ((4001 : Nat) : Int) ≤ 2000) = false := rfl
      have hfin' : ((shfM (fun b => (spnM r off0 4 b).2) 4001).lo == 1073741824) = false := beq_eq_false_iff_ne.2 hfin.2.2
      simp [-getElem?_pos, shT, jgC, hle, hfin', Cr.pv]
  · have hnI : natI 5 = some 5 := rfl
    simp [-getElem?_pos, nblt, hnI]
    refine call_lent (as' := [.ptr (.par 0) 0, .pv (.agg (offV (off1 5)))]) (B := laid 0 (jgB r [])) (fs := []) (cs := []) 34 [.loc 15 0, .loc 15 1] ?_ rfl rfl ?_ ?_ ?_ a3 ?_
    · rfl
    · simp [laid, jgB, jgC, labsP]
    · rfl
    · rfl
    rintro r0 B0 ⟨rfl, rfl⟩
    refine ⟨rfl, by simp [laid, jgB, jgC], ?_⟩
    simp [-getElem?_pos, laid, jgB, jgC, labsP]
    refine awp_loopS (fun m τ => ∃ n : Nat, n ≤ 4001 ∧ m = 4001 - n ∧ τ = shT r 5 kn (shfM (fun b => (spnM r off0 5 b).2) n) (-2000 + (n : Int))) ⟨4001, shT r 5 kn (shfM (fun b => (spnM r off0 5 b).2) 0) (-2000), Sub.mk (by simp [shT]) (by simp [shT, shfM, jgC, labsP]), 0, Nat.zero_le _, rfl, rfl⟩ ?_
    rintro J hJ m τ ⟨n, hn, rfl, rfl⟩
    by_cases hlt : n < 4001
    · have hround := hJ _ _ ⟨n + 1, hlt, rfl, rfl⟩
      have hmeas : 4001 - (n + 1) < 4001 - n := by omega
      have a5 := a4 (-2000 + (n : Int)) (by omega)
      rw [spnP_eq] at a5
      have hnx : shfM (fun b => (spnM r off0 5 b).2) (n + 1) = if (spnM r off0 5 (-2000 + (n : Int))).2 = true then ⟨min (shfM (fun b => (spnM r off0 5 b).2) n).lo (-2000 + (n : Int)), -2000 + (n : Int)⟩ else shfM (fun b => (spnM r off0 5 b).2) n := rfl
      rw [hnx] at hround
      have hle : decide (-2000 + (n : Int) ≤ 2000) = true := decide_eq_true (by omega)
      have hw1 : IntKind.i64.wrap (-2000 + (n : Int) + 1) = -2000 + ((n + 1 : Nat) : Int) := by rw [wrap64 (by omega)]; omega
      clear hJ hnx a4
      generalize (spnM r off0 5 (-2000 + (n : Int))).2 = can at *
      generalize spnL r off0 5 (-2000 + (n : Int)) = L at *
      generalize shfM (fun b => (spnM r off0 5 b).2) n = c at *
      generalize -2000 + ((n + 1 : Nat) : Int) = bn at *
      generalize -2000 + (n : Int) = b0 at *
      have hmn := wleast_c c.lo b0
      simp [-getElem?_pos, -decide_eq_true_eq, -decide_eq_false_iff_not, shT, jgC, hle]
      refine call_lent (as' := [.ptr (.par 0) 0, .pv (.agg (offV off0)), .pv (.agg [.int .i64 5, .int .i64 b0])]) (B := laid 0 (jgB r kn)) (fs := []) (cs := []) 48 [.loc 15 0, .loc 15 1] ?_ rfl rfl ?_ ?_ ?_ a5 ?_
      · rfl
      · simp [laid, jgB, jgC]
      · rfl
      · rfl
      rintro r0 B0 ⟨rfl, rfl⟩
      refine ⟨rfl, by simp [laid, jgB, jgC], ?_⟩
      cases can
      · simp only [Bool.false_eq_true, if_false] at hround
        simp [-getElem?_pos, laid, jgB, jgC, hw1]
        exact ⟨_, _, hmeas, Sub.mk (by simp [shT]) (by simp [shT, jgC]), hround⟩
      · simp only [if_true] at hround
        simp [-getElem?_pos, laid, jgB, jgC]
        refine call_gives (k := 1) (fs := []) (xs := [.lst false 1 [.int .i64 c.lo, .int .i64 b0]]) (cs := []) rfl rfl hmn rfl ?_
        simp [-getElem?_pos, hw1]
        exact ⟨_, _, hmeas, Sub.mk (by simp [shT]) (by simp [shT, jgC]), hround⟩
    · have he : n = 4001 := by omega
      subst he
      clear hJ
      have hle : decide (-2000 + ((4001 : Nat) : Int) ≤ 2000) = false := rfl
      have hfin' : ((shfM (fun b => (spnM r off0 5 b).2) 4001).lo == 1073741824) = false := beq_eq_false_iff_ne.2 hfin.2.2
      simp [-getElem?_pos, shT, jgC, hle, hfin', Cr.pv]
end Go.Proofs.YtaffbiibcfeigaaGreat
/-! Layer 8's law (round): lists, rounds, values by words. -/
namespace Go.Proofs.YtaffbiibcfeigaaGreat
open Go.RowKit
set_option maxRecDepth 10000
set_option linter.unusedSimpArgs false
attribute [local simp] Box.purge Site.isLoc
attribute [local simp] retFz frzL AS.frz AV.frz AV.frzL Box.frz AS.tidy AS.frzC
theorem list8_c (l : List Int) (hl : l.length ≤ 1000000) : Gives Tryz.prog 56 [intsP l] (intsP l) := by
  refine calls_of_awpF [.loc 5 0] mixed L56_ok (Nat.le_of_ble_eq_true rfl) ?_
  have hm : (l.map intP).take l.length = l.map intP := List.take_of_length_le (by simp)
  simp [-getElem?_pos, L56, intsP, nble, hl, hm]
def u8M (r : Rn) (ws : List Int) (j : Nat) : Int := (getC r.lots j).lo + (wordM ws j).tmod ((getC r.lots j).hi - (getC r.lots j).lo + 1)
def v8M (r : Rn) (ws : List Int) (i : Nat) : Int := u8M r ws (lotI r i) - r.spr + (wordM ws (7 * (i : Int) + 3)).tmod (2 * r.spr + 1)
def vals8 (r : Rn) (ws : List Int) (k : Nat) : List Int := (List.range k).map (v8M r ws)
theorem vals8_next {r : Rn} {ws : List Int} {k : Nat} : vals8 r ws (k + 1) = vals8 r ws k ++ [v8M r ws k] := by unfold vals8; rw [List.range_succ, List.map_append]; rfl
theorem vals8_len {r : Rn} {ws : List Int} {k : Nat} : (vals8 r ws k).length = k := by unfold vals8; simp
def tr8K (r : Rn) (ws : List Int) (k : Nat) (L : List PV) : AS := ⟨[(1, .pv (wsP ws)), (2, .ptr (.loc 2 0) 0), (5, .vec (.loc 59 0) 1 0 k), (6, .pv (.int .i64 k))], [(.loc 59 0, .arr 3 1 L), (.loc 2 0, .cells (rcells r))]⟩
theorem tmod_bd8 {a n : Int} (ha : 0 ≤ a) (hn : 0 < n) : 0 ≤ a.tmod n ∧ a.tmod n < n := ⟨Int.tmod_nonneg _ ha, Int.tmod_lt_of_pos _ hn⟩
set_option maxHeartbeats 16000000 in
theorem true8_c (r : Rn) (h : r.ok) (ws : List Int) (hw : ∀ y ∈ ws, 0 ≤ y ∧ y < 65536) : CallsA Tryz.prog 13 ([r.pv, wsP ws].map .pv) [] (fun q B => q = .pv (intsP (vals8 r ws r.smp.length)) ∧ B = []) := by
  have h8 := h.s8
  have h4 := h.l4
  have hp := h.p
  unfold inB at hp
  simp only [Bool.and_eq_true, decide_eq_true_eq] at hp
  refine calls_of_awpF [.loc 59 0] mixed L13_ok (Nat.le_of_ble_eq_true rfl) ?_
  generalize hR : (fun (q : AV) (B : List (Site × Box)) => q = .pv (intsP (vals8 r ws r.smp.length)) ∧ B = []) = R
  simp [-getElem?_pos, L13, Rn.pv, Rn.pvs, lotsP, intsP, labsP]
  refine awp_loopS (fun m τ => ∃ k : Nat, k ≤ r.smp.length ∧ m = r.smp.length - k ∧ τ = tr8K r ws k ((vals8 r ws k).map intP)) ⟨r.smp.length, tr8K r ws 0 [], Sub.trans' (Sub.mk (by simp [tr8K, AS.vecT]) (by simp [tr8K, rcells, lotsP, intsP, labsP, AS.vecT])) (vecT 59 3 1 5 rfl (by decide)), 0, Nat.zero_le _, rfl, rfl⟩ ?_
  rintro J hJ m τ ⟨k, hk, rfl, rfl⟩
  by_cases hlt : k < r.smp.length
  · have hwk := wrapK (k := k) (by omega)
    have hmeas : r.smp.length - (k + 1) < r.smp.length - k := by omega
    have hround := hJ _ _ ⟨k + 1, hlt, rfl, rfl⟩
    rw [vals8_next, List.map_append] at hround
    have e := List.getElem?_eq_getElem hlt
    have hb := List.all_eq_true.1 h.s _ (List.getElem_mem hlt)
    unfold inB at hb
    simp only [Bool.and_eq_true, decide_eq_true_eq] at hb
    obtain ⟨j, hj, hjl, hlj⟩ : ∃ j : Nat, r.smp[k]? = some (j : Int) ∧ j < r.lots.length ∧ lotI r k = j := by
      refine ⟨(r.smp[k]).toNat, ?_, by omega, ?_⟩
      · rw [e]; congr 1; omega
      · unfold lotI; rw [e]; rfl
    have hgj : (r.smp.map intP)[k]? = some (.int .i64 j) := by rw [List.getElem?_map, hj]; rfl
    obtain ⟨x, hx⟩ : ∃ x, r.lots[j]? = some x := ⟨r.lots[j], List.getElem?_eq_getElem hjl⟩
    have hgx : (r.lots.map Cr.pv)[j]? = some (.agg [.int .i64 x.lo, .int .i64 x.hi]) := by rw [List.getElem?_map, hx]; rfl
    have hxb := List.all_eq_true.1 h.l x (List.mem_of_getElem? hx)
    unfold Cr.lotB at hxb
    simp only [Bool.and_eq_true, decide_eq_true_eq] at hxb
    have hxe : getC r.lots j = x := by unfold getC; rw [hx]; rfl
    have hv : v8M r ws k = x.lo + (wordM ws j).tmod (x.hi - x.lo + 1) - r.spr + (wordM ws (7 * (k : Int) + 3)).tmod (2 * r.spr + 1) := by unfold v8M u8M; rw [hlj, hxe]
    rw [hv] at hround
    have c1 := word8_c ws hw j (by omega)
    have c2 := word8_c ws hw (7 * (k : Int) + 3) (by omega)
    have b1 := tmod_bd8 (wordM_bd hw j).1 (show (0 : Int) < x.hi - x.lo + 1 by omega)
    have b2 := tmod_bd8 (wordM_bd hw (7 * (k : Int) + 3)).1 (show (0 : Int) < 2 * r.spr + 1 by omega)
    have hvl : ((vals8 r ws k).map intP).length = k := by rw [List.length_map, vals8_len]
    clear hJ hv
    generalize (vals8 r ws k).map intP = TL at *
    generalize wordM ws (j : Int) = w1 at *
    generalize wordM ws (7 * (k : Int) + 3) = w2 at *
    have x1 : IntKind.i64.wrap (x.hi - x.lo) = x.hi - x.lo := wrap64 (by omega)
    have x2 : IntKind.i64.wrap (x.hi - x.lo + 1) = x.hi - x.lo + 1 := wrap64 (by omega)
    have x3 : IntKind.i64.wrap (x.lo + w1.tmod (x.hi - x.lo + 1)) = x.lo + w1.tmod (x.hi - x.lo + 1) := wrap64 (by omega)
    have x4 : IntKind.i64.wrap (7 * (k : Int)) = 7 * (k : Int) := wrap64 (by omega)
    have x5 : IntKind.i64.wrap (7 * (k : Int) + 3) = 7 * (k : Int) + 3 := wrap64 (by omega)
    have x6 : IntKind.i64.wrap (2 * r.spr) = 2 * r.spr := wrap64 (by omega)
    have x7 : IntKind.i64.wrap (2 * r.spr + 1) = 2 * r.spr + 1 := wrap64 (by omega)
    have x8 : IntKind.i64.wrap (x.lo + w1.tmod (x.hi - x.lo + 1) - r.spr) = x.lo + w1.tmod (x.hi - x.lo + 1) - r.spr := wrap64 (by omega)
    have x9 : IntKind.i64.wrap (x.lo + w1.tmod (x.hi - x.lo + 1) - r.spr + w2.tmod (2 * r.spr + 1)) = x.lo + w1.tmod (x.hi - x.lo + 1) - r.spr + w2.tmod (2 * r.spr + 1) := wrap64 (by omega)
    have n1 : ¬ (x.hi - x.lo + 1 = 0) := by omega
    have n2 : ¬ (2 * r.spr + 1 = 0) := by omega
    have hk6 : k ≤ 999999 := by omega
    have hk7 : k + 1 ≤ 1000000 := by omega
    simp [-getElem?_pos, -List.getElem?_map, tr8K, rcells, lotsP, intsP, labsP, hlt, hgj, hgx, hjl, x1, x2, n1]
    refine call_give (k := 0) (fs := []) (xs := [wsP ws, .int .i64 j]) (cs := []) rfl rfl c1 rfl ?_
    simp [-getElem?_pos, -List.getElem?_map, n1, x3, x4, x5, x6, x7, x8]
    refine call_give (k := 0) (fs := []) (xs := [wsP ws, .int .i64 (7 * (k : Int) + 3)]) (cs := []) rfl rfl c2 rfl ?_
    simp [-getElem?_pos, -List.getElem?_map, n2, x9, nble, nblt, hvl, hk6, hk7, hwk]
    exact ⟨_, _, hmeas, Sub.mk (by simp [tr8K]) (by simp [tr8K, rcells, lotsP, intsP, labsP, intP]), hround⟩
  have he : k = r.smp.length := by omega
  subst he
  clear hJ
  have hm : ((vals8 r ws r.smp.length).map intP).take r.smp.length = (vals8 r ws r.smp.length).map intP := List.take_of_length_le (by rw [List.length_map, vals8_len]; omega)
  simp [-getElem?_pos, -List.getElem?_map, tr8K, rcells, lotsP, intsP, labsP, hm, vals8_len]
  rw [← hR]
  exact ⟨rfl, rfl⟩
end Go.Proofs.YtaffbiibcfeigaaGreat
/-! Layer 8's law (round): Round; Top: reads. -/
namespace Go.Proofs.YtaffbiibcfeigaaGreat
open Go.RowKit
set_option maxRecDepth 10000
set_option linter.unusedSimpArgs false
attribute [local irreducible] Bk.held Bk.nums Bk.heldU Bk.span Bk.contra
section
attribute [local simp] Box.purge Site.isLoc
attribute [local simp] retFz frzL AS.frz AV.frz AV.frzL Box.frz AS.tidy AS.frzC
def roB (r : Rn) : List (Site × Box) := [(.loc 2 0, .cells [.pv (.emp (some true)), .pv (.emp (some true)), .pv (.int .i64 0), .pv (.emp (some true))]), (.loc 1 0, .cells (rcells r))]
def roJ (r : Rn) : AS := ⟨[(1, .ptr (.loc 1 0) 0), (2, .ptr (.loc 2 0) 0), (3, .ptr (.loc 3 0) 0), (11, .pv (.agg [.emp (some true), intsP r.smp, .int .i64 r.spr, .emp (some true)]))], (.loc 3 0, .cells [.pv (.emp (some true)), .pv (.emp (some true)), .pv (.int .i64 0), .pv (.emp (some true))]) :: roB r⟩
def roK (r : Rn) (k : Nat) : AS := ⟨[(1, .ptr (.loc 1 0) 0), (2, .ptr (.loc 2 0) 0), (3, .ptr (.loc 3 0) 0), (4, .pv (.int .i64 k))], (.loc 35 0, .arr 66 2 ((r.lots.take k).map Cr.pv)) :: (.loc 3 0, .cells [.vec (.loc 35 0) 2 0 k, .pv (intsP r.smp), .pv (.int .i64 r.spr), .pv (.emp (some true))]) :: roB r⟩
def roL (r : Rn) (k : Nat) : AS := ⟨[(1, .ptr (.loc 1 0) 0), (2, .ptr (.loc 2 0) 0), (3, .ptr (.loc 3 0) 0), (5, .pv (.int .i64 k))], (.loc 61 0, .arr 151 2 ((r.labs.take k).map Lb.pv)) :: (.loc 35 0, .arr 66 2 (r.lots.map Cr.pv)) :: (.loc 3 0, .cells [.vec (.loc 35 0) 2 0 r.lots.length, .pv (intsP r.smp), .pv (.int .i64 r.spr), .vec (.loc 61 0) 2 0 k]) :: roB r⟩
set_option maxHeartbeats 16000000 in
theorem wround_c (r : Rn) (h1 : r.lots.length ≤ 1000) (h2 : r.smp.length ≤ 1000) (h3 : r.labs.length ≤ 1000) (h4 : ∀ x ∈ r.labs, x.rds.length ≤ 1000) : CallsA Tryz.prog 19 ([r.pv].map .pv) [] (fun q B => q = .pv r.pv ∧ B = []) := by
  have hli := list8_c r.smp (by omega)
  unfold intsP at hli
  refine calls_of_awpF [.loc 35 0, .loc 61 0] mixed L19_ok (Nat.le_of_ble_eq_true rfl) ?_
  generalize hR : (fun (q : AV) (B : List (Site × Box)) => q = .pv r.pv ∧ B = []) = R
  simp [-getElem?_pos, L19, Rn.pv, Rn.pvs, intsP]
  refine ltS_seq (roJ r) ?_ ?_
  · simp [-getElem?_pos, ltS_alt, ltS_no]
    repeat' (with_reducible refine And.intro ?_ ?_)
    all_goals
      refine call_pv [] (fs := []) (xs := [.lst false 1 (r.smp.map intP)]) (cs := []) rfl (by simp [frzsL]) hli ?_
      simp [-getElem?_pos, ltS_alt, ltS_no, frzsL]
      refine Sub.mk ?_ ?_
      · simp [roJ, roB, intsP]
      · simp [roJ, roB, rcells, intsP]
  simp [-getElem?_pos, ltS_alt, ltS_no, roJ, roB, rcells, lotsP, intsP]
  refine awp_loopS (fun m τ => ∃ k : Nat, k ≤ r.lots.length ∧ m = r.lots.length - k ∧ τ = roK r k) ⟨r.lots.length, roK r 0, Sub.trans' (Sub.mk (by simp [roK, AS.vecC, intsP]) (by simp [roK, roB, rcells, lotsP, intsP, AS.vecC])) (vecC 35 66 2 (s := .loc 3 0) (cs := [.pv (.emp (some true)), .pv (.lst false 1 (r.smp.map intP)), .pv (.int .i64 r.spr), .pv (.emp (some true))]) 0 rfl rfl (by decide)), 0, by omega, rfl, rfl⟩ ?_
  rintro J hJ m τ ⟨k, hk, rfl, rfl⟩
  by_cases hlt : k < r.lots.length
  · obtain ⟨x, hx⟩ : ∃ x, r.lots[k]? = some x := ⟨r.lots[k], List.getElem?_eq_getElem hlt⟩
    have hg : (r.lots.map Cr.pv)[k]? = some (.agg [.int .i64 x.lo, .int .i64 x.hi]) := by rw [List.getElem?_map, hx]; rfl
    have hwk := wrapK (k := k) (by omega)
    have hround := hJ _ _ ⟨k + 1, hlt, rfl, rfl⟩
    have hmeas : r.lots.length - (k + 1) < r.lots.length - k := by omega
    have htk : (r.lots.take (k + 1)).map Cr.pv = (r.lots.take k).map Cr.pv ++ [.agg [.int .i64 x.lo, .int .i64 x.hi]] := by rw [List.take_add_one, hx]; simp [Cr.pv]
    have htl : ((r.lots.take k).map Cr.pv).length = k := by rw [List.length_map, List.length_take]; omega
    have hk6 : k ≤ 999999 := by omega
    unfold roK at hround ⊢
    rw [htk] at hround
    clear hJ htk
    generalize (r.lots.take k).map Cr.pv = TL at *
    simp [-getElem?_pos, -List.getElem?_map, hlt, hg, roB, rcells, lotsP, intsP, nble, nblt, htl, hk6, hwk]
    exact ⟨_, _, hmeas, Sub.mk (by simp) (by simp [roB, rcells, lotsP, intsP]), hround⟩
  have he : k = r.lots.length := by omega
  subst he
  clear hJ
  have ht : (r.lots.map Cr.pv).take r.lots.length = r.lots.map Cr.pv := List.take_of_length_le (by simp)
  have ht' : r.lots.take r.lots.length = r.lots := List.take_of_length_le (Nat.le_refl _)
  simp [-getElem?_pos, -List.getElem?_map, roK, roB, rcells, lotsP, labsP, intsP, ht']
  refine awp_loopS (fun m τ => ∃ k : Nat, k ≤ r.labs.length ∧ m = r.labs.length - k ∧ τ = roL r k) ⟨r.labs.length, roL r 0, Sub.trans' (Sub.mk (by simp [roL, AS.vecC]) (by simp [roL, roB, rcells, lotsP, labsP, intsP, AS.vecC, ht'])) (vecC 61 151 2 (s := .loc 3 0) (cs := [.vec (.loc 35 0) 2 0 r.lots.length, .pv (.lst false 1 (r.smp.map intP)), .pv (.int .i64 r.spr), .pv (.emp (some true))]) 3 rfl rfl (by decide)), 0, by omega, rfl, rfl⟩ ?_
  rintro J hJ m τ ⟨k, hk, rfl, rfl⟩
  by_cases hlt : k < r.labs.length
  · obtain ⟨x, hx⟩ : ∃ x, r.labs[k]? = some x := ⟨r.labs[k], List.getElem?_eq_getElem hlt⟩
    have hg : (r.labs.map Lb.pv)[k]? = some (.agg [.int .i64 x.tol, .lst false 1 (x.rds.map intP)]) := by rw [List.getElem?_map, hx]; rfl
    have hwk := wrapK (k := k) (by omega)
    have hround := hJ _ _ ⟨k + 1, hlt, rfl, rfl⟩
    have hmeas : r.labs.length - (k + 1) < r.labs.length - k := by omega
    have htk : (r.labs.take (k + 1)).map Lb.pv = (r.labs.take k).map Lb.pv ++ [.agg [.int .i64 x.tol, .lst false 1 (x.rds.map intP)]] := by rw [List.take_add_one, hx]; simp [Lb.pv]
    have htl : ((r.labs.take k).map Lb.pv).length = k := by rw [List.length_map, List.length_take]; omega
    have hk6 : k ≤ 999999 := by omega
    have hlx := list8_c x.rds (by have := h4 x (List.mem_of_getElem? hx); omega)
    unfold roL at hround ⊢
    rw [htk] at hround
    clear hJ htk
    generalize (r.labs.take k).map Lb.pv = TL at *
    unfold intsP at hlx
    simp [-getElem?_pos, -List.getElem?_map, hlt, hg, roB, rcells, labsP, intsP, nble, nblt]
    refine call_pv [] (fs := []) (xs := [.lst false 1 (x.rds.map intP)]) (cs := []) rfl (by simp [frzsL]) hlx ?_
    simp [-getElem?_pos, -List.getElem?_map, frzsL, nble, nblt, htl, hk6, hwk]
    exact ⟨_, _, hmeas, Sub.mk (by simp) (by simp [roB, rcells, labsP, intsP]), hround⟩
  have he : k = r.labs.length := by omega
  subst he
  clear hJ
  have hb : (r.labs.map Lb.pv).take r.labs.length = r.labs.map Lb.pv := List.take_of_length_le (by simp)
  have hb' : r.labs.take r.labs.length = r.labs := List.take_of_length_le (Nat.le_refl _)
  simp [-getElem?_pos, -List.getElem?_map, roL, roB, rcells, lotsP, labsP, intsP, ht, hb, hb']
  rw [← hR]
  simp [Rn.pv, Rn.pvs, lotsP, labsP, intsP]
end
attribute [local simp] AS.exp expG Box.ren AV.map AV.mapL outsOk noRet Site.isRet Box.allS AV.allS AV.allSL retB dropL AS.adds renL outG outOk lentBx inG fnOf lookA List.findIdx?_cons
attribute [local simp] Box.purge Site.isLoc
attribute [local simp] retFz frzL AS.frz AV.frz AV.frzL Box.frz AS.tidy AS.frzC
def twoB : Bk := ⟨[⟨0, true, ⟨2, 4⟩⟩], []⟩
def twoP : PV := .agg [.lst false 4 [.agg [.int .i64 0, .bool true, .int .i64 2, .int .i64 4]], .emp (some true)]
theorem two_span : Gives Tryz.prog 14 [twoP, .int .i64 0, .int .i64 9] (.tup [.agg [.int .i64 2, .int .i64 4], .int .i64 0]) := by
  have h := Span_c twoB (by decide) (by decide) 0 9
  rw [show twoB.spanM 0 9 = (⟨2, 4⟩, 0) by decide +kernel] at h
  refine CallsA.weakArgs (xs := [twoP, .int .i64 0, .int .i64 9]) (ys := [twoB.pv, .int .i64 0, .int .i64 9]) h rfl ?_
  intro j x y m v e1 e2 hr
  match j with
  | 0 =>
    cases e1; cases e2
    refine agg_wk (cs := [.lst false 4 [.agg [.int .i64 0, .bool true, .int .i64 2, .int .i64 4]], .emp (some true)]) (cs' := [itsP twoB.items, ctsP twoB.certs]) rfl ?_ hr
    intro j c c' d k1 k2 hd
    match j with
    | 0 => cases k1; cases k2; exact hd
    | 1 => cases k1; cases k2; exact emp_lst hd
    | j + 2 => simp at k1
  | 1 => cases e1; cases e2; exact hr
  | 2 => cases e1; cases e2; exact hr
  | j + 3 => simp at e1
def oneR : Rn := ⟨[⟨3, 9⟩], [0], 0, [⟨1, [5]⟩]⟩
theorem reads_c : Gives Tryz.prog 11 [] (.bool true) := by
  have a1 := two_span
  have a2 := wExplains0_c oneR ⟨by simp [oneR], by decide, by decide, by decide, by decide, by decide, by decide, by decide⟩ ⟨⟨by decide, by decide⟩, by simp [oneR], by decide, by decide, (fun c hc => by cases List.mem_singleton.1 hc; unfold Cr.bdd; simp), by decide, by decide⟩
  rw [show (spnM oneR off0 (-1) 0).2 = true by decide +kernel] at a2
  refine calls_of_awpS mixed L11_ok (Nat.le_of_ble_eq_true rfl) ?_
  simp [-getElem?_pos, L11]
  refine .inl (call_pv [.loc 8 0] (fs := []) (xs := [twoP, .int .i64 0, .int .i64 9]) (cs := []) rfl ?_ a1 ?_)
  · simp [frzsL, twoP]
  simp [-getElem?_pos, frzsL]
  refine .inl (call_pv [.loc 15 0, .loc 16 0, .loc 19 0] (fs := []) (xs := [oneR.pv, .emp (some true)]) (cs := []) rfl ?_ a2 ?_)
  · simp [frzsL, oneR, Rn.pv, Rn.pvs, lotsP, intsP, labsP, Cr.pv, Lb.pv, intP]
  simp [-getElem?_pos, frzsL, Box.live, AV.live]
end Go.Proofs.YtaffbiibcfeigaaGreat
