/- The statement StairRising answers true. (Several texts in one.) -/
import Derived.Test.YtpfogpkocdlloaaStD
import Derived.Test.YtpfogpkocdlloaaRows
import Derived.WalkKit
import Derived.ProofKit
import Derived.OpenShut
import Derived.Test.YtpfogpkocdlloaaStC
set_option linter.unusedVariables false
set_option linter.unusedSimpArgs false
/-! The statement StairRising answers true. -/
namespace Go.Proofs.Ytpfogpkocdlloaa
open Go.RowKit
attribute [local simp] Box.purge Site.isLoc

set_option maxRecDepth 10000
set_option linter.unusedSimpArgs false

attribute [local simp] retFz frzL AS.frz AV.frz AV.frzL Box.frz AS.tidy
def stopR (s : St) : PV := .agg [.int .i64 s.start, .int .u8 2]
/-- The head of the loop that stops all runs. -/
def risH (s : St) : Nat → AS
  | 0 => ⟨[(1, .ptr (.loc 1 0) 0), (3, .ptr (.loc 3 0) 0), (4, .pv (.int .i64 0))], [(.loc 3 0, .cells [.pv (.int .i64 s.levels), .pv (.int .i64 s.start), .pv (.emp (some true))]), (.loc 1 0, .cells s.cells)]⟩
  | k + 1 => ⟨[(1, .ptr (.loc 1 0) 0), (3, .ptr (.loc 3 0) 0), (4, .pv (.int .i64 (k + 1 : Nat)))],
      [(.loc 30 0, .arr 43 2 (List.replicate (k + 1) (stopR s))), (.loc 3 0, .cells [.pv (.int .i64 s.levels), .pv (.int .i64 s.start), .vec (.loc 30 0) 2 0 (k + 1)]), (.loc 1 0, .cells s.cells)]⟩
/-- The head of the loop over the ranks. -/
def risK (s : St) (x y : Int) : Nat → AS
  | 0 => ⟨[(1, .ptr (.loc 1 0) 0), (3, .ptr (.loc 3 0) 0), (5, .ptr (.loc 5 0) 0), (6, .pv (.int .i64 0))],
      [(.loc 5 0, .cells [.pv (.int .i64 x), .pv (.int .i64 y)]), (.loc 30 0, .arr 43 2 (List.replicate s.runs.length (stopR s))), (.loc 3 0, .cells [.pv (.int .i64 s.levels), .pv (.int .i64 s.start), .vec (.loc 30 0) 2 0 s.runs.length]), (.loc 1 0, .cells s.cells)]⟩
  | k + 1 => ⟨[(1, .ptr (.loc 1 0) 0), (3, .ptr (.loc 3 0) 0), (5, .ptr (.loc 5 0) 0), (6, .pv (.int .i64 (k + 1 : Nat)))],
      [(.loc 5 0, .cells [.pv (.int .i64 x), .pv (.int .i64 y)]), (.loc 3 0, .cells [.pv (.int .i64 s.levels), .pv (.int .i64 s.start), .pv (.lst false 2 (List.replicate s.runs.length (stopR s)))]), (.loc 1 0, .cells s.cells)]⟩
/-- The last span. -/
def St.lastR (s : St) : Nat → Int × Int
  | 0 => (0, 0)
  | k + 1 => (s.rank (k : Int)).1
set_option maxHeartbeats 16000000 in
theorem rising_law (s : St) : Gives Try.prog 5 [s.pv] (.bool true) := by
  refine calls_of_awpS mixed L5_ok (Nat.le_of_ble_eq_true rfl) ?_
  simp [-getElem?_pos, L5, St.pv]
  refine call_gives (k := 0) (fs := []) (xs := [s.pv]) (cs := []) rfl rfl (ready_c s) rfl ?_
  cases hrd : decide (s.runs.length ≤ 20) && decide (s.check = 0)
  · simp [-getElem?_pos]
    refine call_gives (k := 0) (fs := []) (xs := []) (cs := []) rfl rfl awake_c rfl ?_
    simp [-getElem?_pos]
  · have hrd' : s.runs.length ≤ 20 ∧ s.check = 0 := by simpa using hrd
    obtain ⟨hn, hc⟩ := hrd'
    have hstp : s.still.runs.map Rn.pv = List.replicate s.runs.length (stopR s) := by
      unfold St.still
      rw [List.map_map, List.eq_replicate_iff]
      refine ⟨by simp, fun b hb => ?_⟩
      obtain ⟨_, _, rfl⟩ := List.mem_map.1 hb
      rfl
    have hse1 : s.still.levels = s.levels := rfl
    have hse2 : s.still.start = s.start := rfl
    have hsl : s.still.runs.length ≤ 1000 := by simp [St.still]; omega
    have htk : List.take s.runs.length (List.replicate s.runs.length (stopR s)) = List.replicate s.runs.length (stopR s) := List.take_of_length_le (by simp)
    simp [-getElem?_pos]
    refine awp_loopS (fun n τ => ∃ k : Nat, k ≤ s.runs.length ∧ n = s.runs.length - k ∧ τ = risH s k) ⟨s.runs.length, _, Sub.mk (by simp [risH]) (by simp [risH, St.cells]), 0, by omega, rfl, rfl⟩ ?_
    rintro J hJ n τ ⟨k, hk, rfl, rfl⟩
    by_cases hlt : k < s.runs.length
    · have hw : IntKind.i64.wrap ((k : Int) + 1) = ((k + 1 : Nat) : Int) := by rw [wrap64 (by omega)]; omega
      have hround := hJ _ _ ⟨k + 1, hlt, rfl, rfl⟩
      cases k with
      | zero =>
        have hw1 : IntKind.i64.wrap 1 = 1 := rfl
        simp [-getElem?_pos, risH, St.cells, hlt, nble, nblt, hw1]
        refine ⟨_, _, (by omega : s.runs.length - 1 < s.runs.length), Sub.mk ?_ ?_, hround⟩
        · simp [risH]
        · simp [risH, stopR, St.cells]
      | succ k =>
        rw [show ((k + 1 : Nat) : Int) = (k : Int) + 1 by omega] at hw
        have hlt' : decide ((k : Int) + 1 < (s.runs.length : Int)) = true := by simp; omega
        have hk6 : k + 1 + 1 ≤ 1000000 := by omega
        have hrep : List.replicate (k + 1) (stopR s) ++ [stopR s] = List.replicate (k + 1 + 1) (stopR s) := by rw [List.replicate_succ' (n := k + 1)]
        simp only [stopR] at hrep
        simp [-getElem?_pos, -decide_eq_true_eq, risH, St.cells, hlt', hw, nble, nblt, hk6, stopR, hrep]
        refine ⟨_, _, (by omega : s.runs.length - (k + 1 + 1) < s.runs.length - (k + 1)), Sub.mk ?_ ?_, hround⟩
        · simp [risH]
        · simp [risH, stopR, St.cells]
    · have he : k = s.runs.length := by omega
      subst he
      by_cases hne : s.runs.length = 0
      · rw [hne]
        simp [-getElem?_pos, risH, St.cells, hne]
        refine awp_loopS (fun n τ => τ = ⟨[(1, .ptr (.loc 1 0) 0), (6, .pv (.int .i64 0))], [(.loc 1 0, .cells s.cells)]⟩) ⟨0, _, Sub.mk (by simp) (by simp [St.cells]), rfl⟩ ?_
        rintro J hJ n τ rfl
        simp [-getElem?_pos, St.cells, hne]
        refine call_gives (k := 0) (fs := []) (xs := []) (cs := []) rfl rfl awake_c rfl ?_
        simp [-getElem?_pos]
      · obtain ⟨j, hj⟩ : ∃ j, s.runs.length = j + 1 := ⟨s.runs.length - 1, by omega⟩
        have hH : risH s s.runs.length = ⟨[(1, .ptr (.loc 1 0) 0), (3, .ptr (.loc 3 0) 0), (4, .pv (.int .i64 s.runs.length))],
            [(.loc 30 0, .arr 43 2 (List.replicate s.runs.length (stopR s))), (.loc 3 0, .cells [.pv (.int .i64 s.levels), .pv (.int .i64 s.start), .vec (.loc 30 0) 2 0 s.runs.length]), (.loc 1 0, .cells s.cells)]⟩ := by rw [hj]; rfl
        rw [hH]
        simp [-getElem?_pos, St.cells]
        refine awp_loopS (fun n τ => ∃ k : Nat, k ≤ s.runs.length ∧ n = s.runs.length - k ∧ τ = risK s (s.lastR k).1 (s.lastR k).2 k) ⟨s.runs.length, _, Sub.mk (by simp [risK]) (by simp [risK, St.cells, St.lastR]), 0, by omega, rfl, rfl⟩ ?_
        clear hJ J
        rintro J hJ n τ ⟨k, hk, rfl, rfl⟩
        by_cases hlt : k < s.runs.length
        · have hw : IntKind.i64.wrap ((k : Int) + 1) = ((k + 1 : Nat) : Int) := by rw [wrap64 (by omega)]; omega
          have hround := hJ _ _ ⟨k + 1, hlt, rfl, rfl⟩
          have hr1 := rank_c s (by omega) k
          have hr2 := rank_c s.still (by omega) k
          rw [St.still_rank hc hlt] at hr2
          have hlast : s.lastR (k + 1) = (s.rank (k : Int)).1 := rfl
          rw [hlast] at hround
          have hpos := St.possible_all hc
          by_cases hp : s.possible = 0
          · have hra := St.rank_at hp hlt
            have hsp := St.span_ok hp hlt
            have hge : (s.lastR k).1 ≤ (s.endS k false).lim ∧ (s.lastR k).2 ≤ (s.endS k true).lim := by
              cases k with
              | zero => unfold St.lastR; simp only; omega
              | succ k =>
                have h1 : s.lastR (k + 1) = ((s.endS k false).lim, (s.endS k true).lim) := by
                  show (s.rank (k : Int)).1 = _
                  rw [St.rank_at hp (by omega)]
                rw [h1]
                exact St.span_step hp hlt
            rw [hra] at hr1 hround
            generalize (s.endS k false).lim = a at *
            generalize (s.endS k true).lim = b at *
            generalize (s.lastR k).1 = x at *
            generalize (s.lastR k).2 = y at *
            have d1 : decide (a > b) = false := by simp; omega
            have d2 : decide (a < x) = false := by simp; omega
            have d3 : decide (b < y) = false := by simp; omega
            cases k with
            | zero =>
              rw [show ((0 : Nat) : Int) = 0 from rfl] at hr1 hr2 hw
              have hw1 : IntKind.i64.wrap 1 = 1 := rfl
              simp [-getElem?_pos, -decide_eq_true_eq, -decide_eq_false_iff_not, risK, St.cells, hlt]
              refine .inl (call_pv [] (fs := []) (xs := [s.pv]) (cs := []) rfl rfl (stairs_c s (by omega)) ?_)
              simp [-getElem?_pos, frzsL]
              refine call_gives (k := 0) (fs := []) (xs := [s.pv, .int .i64 0]) (cs := []) rfl rfl hr1 rfl ?_
              simp [-getElem?_pos, rangeP]
              refine .inl (call_pv [.loc 30 0] (fs := []) (xs := [s.still.pv]) (cs := []) rfl ?_ (stairs_c s.still hsl) ?_)
              · simp [frzsL, St.pv, hstp, htk, hse1, hse2]
              simp [-getElem?_pos, frzsL]
              refine call_gives (k := 0) (fs := []) (xs := [s.still.pv, .int .i64 0]) (cs := []) rfl rfl hr2 rfl ?_
              simp [-getElem?_pos, -decide_eq_true_eq, -decide_eq_false_iff_not, rangeP, d1, d2, d3, hw1, htk]
              refine ⟨_, _, (by omega : s.runs.length - 1 < s.runs.length), Sub.mk ?_ ?_, hround⟩
              · simp [risK]
              · simp [risK, St.cells]
            | succ k =>
              rw [show ((k + 1 : Nat) : Int) = (k : Int) + 1 by omega] at hr1 hr2 hw
              have hlt' : decide ((k : Int) + 1 < (s.runs.length : Int)) = true := by simp; omega
              simp [-getElem?_pos, -decide_eq_true_eq, -decide_eq_false_iff_not, risK, St.cells, hlt']
              refine .inl (call_pv [] (fs := []) (xs := [s.pv]) (cs := []) rfl rfl (stairs_c s (by omega)) ?_)
              simp [-getElem?_pos, frzsL]
              refine call_gives (k := 0) (fs := []) (xs := [s.pv, .int .i64 (k + 1)]) (cs := []) rfl rfl hr1 rfl ?_
              simp [-getElem?_pos, rangeP]
              refine .inl (call_pv [] (fs := []) (xs := [s.still.pv]) (cs := []) rfl ?_ (stairs_c s.still hsl) ?_)
              · simp [frzsL, St.pv, hstp, hse1, hse2]
              simp [-getElem?_pos, frzsL]
              refine call_gives (k := 0) (fs := []) (xs := [s.still.pv, .int .i64 (k + 1)]) (cs := []) rfl rfl hr2 rfl ?_
              simp [-getElem?_pos, -decide_eq_true_eq, -decide_eq_false_iff_not, rangeP, d1, d2, d3, hw]
              refine ⟨_, _, (by omega : s.runs.length - (k + 1 + 1) < s.runs.length - (k + 1)), Sub.mk ?_ ?_, hround⟩
              · simp [risK]
              · simp [risK, St.cells]
          · have hra := St.rank_no hp (k : Int)
            have hp9 : s.possible = 9 := by rw [hpos] at hp ⊢; split at hp <;> first | (rename_i h; rw [if_pos h]) | exact absurd rfl hp
            rw [hra, hp9] at hr1
            rw [hra] at hround
            generalize (s.lastR k).1 = x at *
            generalize (s.lastR k).2 = y at *
            cases k with
            | zero =>
              rw [show ((0 : Nat) : Int) = 0 from rfl] at hr1 hr2 hw
              have hw1 : IntKind.i64.wrap 1 = 1 := rfl
              simp [-getElem?_pos, risK, St.cells, hlt]
              refine .inl (call_pv [] (fs := []) (xs := [s.pv]) (cs := []) rfl rfl (stairs_c s (by omega)) ?_)
              simp [-getElem?_pos, frzsL]
              refine call_gives (k := 0) (fs := []) (xs := [s.pv, .int .i64 0]) (cs := []) rfl rfl hr1 rfl ?_
              simp [-getElem?_pos, rangeP]
              refine .inl (call_pv [.loc 30 0] (fs := []) (xs := [s.still.pv]) (cs := []) rfl ?_ (stairs_c s.still hsl) ?_)
              · simp [frzsL, St.pv, hstp, htk, hse1, hse2]
              simp [-getElem?_pos, frzsL]
              refine call_gives (k := 0) (fs := []) (xs := [s.still.pv, .int .i64 0]) (cs := []) rfl rfl hr2 rfl ?_
              simp [-getElem?_pos, rangeP, hw1, htk]
              refine ⟨_, _, (by omega : s.runs.length - 1 < s.runs.length), Sub.mk ?_ ?_, hround⟩
              · simp [risK]
              · simp [risK, St.cells]
            | succ k =>
              rw [show ((k + 1 : Nat) : Int) = (k : Int) + 1 by omega] at hr1 hr2 hw
              have hlt' : decide ((k : Int) + 1 < (s.runs.length : Int)) = true := by simp; omega
              simp [-getElem?_pos, -decide_eq_true_eq, -decide_eq_false_iff_not, risK, St.cells, hlt']
              refine .inl (call_pv [] (fs := []) (xs := [s.pv]) (cs := []) rfl rfl (stairs_c s (by omega)) ?_)
              simp [-getElem?_pos, frzsL]
              refine call_gives (k := 0) (fs := []) (xs := [s.pv, .int .i64 (k + 1)]) (cs := []) rfl rfl hr1 rfl ?_
              simp [-getElem?_pos, rangeP]
              refine .inl (call_pv [] (fs := []) (xs := [s.still.pv]) (cs := []) rfl ?_ (stairs_c s.still hsl) ?_)
              · simp [frzsL, St.pv, hstp, hse1, hse2]
              simp [-getElem?_pos, frzsL]
              refine call_gives (k := 0) (fs := []) (xs := [s.still.pv, .int .i64 (k + 1)]) (cs := []) rfl rfl hr2 rfl ?_
              simp [-getElem?_pos, -decide_eq_true_eq, -decide_eq_false_iff_not, rangeP, hw]
              refine ⟨_, _, (by omega : s.runs.length - (k + 1 + 1) < s.runs.length - (k + 1)), Sub.mk ?_ ?_, hround⟩
              · simp [risK]
              · simp [risK, St.cells]
        · have he : k = s.runs.length := by omega
          subst he
          generalize (s.lastR s.runs.length).1 = x at *
          generalize (s.lastR s.runs.length).2 = y at *
          rw [hj]
          simp [-getElem?_pos, risK, St.cells, hj]
          refine call_gives (k := 0) (fs := []) (xs := []) (cs := []) rfl rfl awake_c rfl ?_
          simp [-getElem?_pos]
end Go.Proofs.Ytpfogpkocdlloaa

/-! The statement StairRising holds: for every input the law answers true, and its argument reads behind the call as before. No conditions. -/
namespace Go.Proofs.Ytpfogpkocdlloaa
open Go.ChangeShapes Go.WideShapes Go.ChangeAt Go.RowKit

set_option maxRecDepth 100000 in
theorem walkStairRising (v0 : Value) (W : World) {H : Type} {enc : TypeId × Value → H} {base : Nat} {sp : Nat → Bool} {hd : Bool} {d0 : DataW H} {p0 : List MemPlace}
    (k0 : Value.okWide Try.prog W .any base 24 v0) (h0 : DataW.Trod enc Try.prog W 0 sp hd 24 v0 d0 p0) :
    Calls Try.prog 5 #[v0] W fun e w' => e = .returned (.bool true) ∧ Keep [] W w' := by
  obtain ⟨n0, h0⟩ := h0
  obtain ⟨s0, w0, l0, r0⟩ := rd_stairs k0 h0
  refine calls_bool (xs := [s0.pv]) (b := true) ((rising_law s0).mono (fun _ _ h => h.1)) rfl (fun j v x e1 e2 => ?_)
  match j with
  | 0 => simp at e1 e2; subst e1 e2; exact r0
  | j + 1 => simp at e1
set_option maxRecDepth 100000 in
theorem liftedStairRising (os : Os) (started : os.Started) (H : Type) (enc : TypeId × Value → H) :
    ReturnsInHanded {} Try.checked os 5 .any (Rows.stairRisingSpec.pre6 enc Try.prog Try.f5 Rows.stairRisingRow.domain false) (Rows.stairRisingSpec.post enc Try.prog Try.f5 false true false false) := by
  refine returnsInHanded_of_change (C := Try.checked) own started (by kernel_rfl) Try.func5
    (ChangeSpec.witness6 (enc := enc) (C := Try.checked) false ⟨#[], #[.agg #[.int .i64 0, .int .i64 0, .slice none 0 0]], []⟩ 8 (by kernel_rfl) (by kernel_rfl) (by kernel_rfl) (by kernel_rfl)) ?_
  intro W base args ds gs before hval0 hW hcnd _
  have hval : ∀ (j : Nat) t v, Try.f5.params[j]? = some t → args[j]? = some v → Value.okWide Try.prog W .any base t v := hval0
  have hW' := hW
  obtain ⟨p, q, hA0, hV, rfl, hfz, hnd⟩ := hW
  have hA : DataW.TrodAll enc Try.prog W 0 (fun _ => true) true Try.f5.params.toList args.toList ds p := hA0
  rw [Try.params5] at hA hval
  obtain ⟨v0, vs0, d0, ds0, p0, q0, hargs, rfl, rfl, h0, r0⟩ := trodAll_cons hA
  obtain ⟨rfl, rfl, rfl⟩ := trodAll_nil r0
  have hargs' : args = #[v0] := by
    apply Array.ext'
    exact hargs
  subst hargs'
  have k0 := hval 0 _ v0 rfl rfl
  obtain ⟨rfl, rfl⟩ := trodVars_none hV
  refine (walkStairRising v0 W k0 h0).mono fun e W' ⟨he, hk⟩ => ?_
  subst he
  exact ⟨_, rfl, post_law (tb := 4) laidP rowedP fullP (by decide +kernel) rfl rfl rfl Try.underlying4 hW' hk⟩
theorem overStairRising : Rows.stairRisingRow.holds Try.pinned (OpenSpec.ofChange Rows.stairRisingSpec) :=
  OpenClaim.holds_of_wide 5 Try.f5 rfl rfl rfl rfl rfl rfl rfl ⟨rfl, rfl, rfl, rfl, rfl⟩ rfl rfl rfl rfl rfl (by kernel_rfl) Try.func5 (by kernel_rfl)
    (of_decide_eq_true (by kernel_rfl)) (by unfold Func.isWrapper; first | (rw [if_pos (by decide +kernel)]; kernel_rfl) | (rw [if_neg (by decide +kernel)]; exact ⟨rfl, rfl⟩))
    (fun os started H enc _ => liftedStairRising os started H enc)
theorem provedStairRising : Rows.StairRisingSaid := overStairRising
end Go.Proofs.Ytpfogpkocdlloaa
