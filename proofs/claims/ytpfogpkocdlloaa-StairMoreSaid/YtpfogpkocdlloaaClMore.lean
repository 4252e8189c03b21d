/- The statement StairMore answers true. (Several texts in one.) -/
import Derived.Test.YtpfogpkocdlloaaStD
import Derived.Test.YtpfogpkocdlloaaStC
import Derived.SizedLaws
import Derived.Test.YtpfogpkocdlloaaRows
import Derived.WalkKit
import Derived.ProofKit
import Derived.OpenShut
set_option linter.unusedVariables false
set_option linter.unusedSimpArgs false
/-! The statement StairMore answers true. -/
namespace Go.Proofs.Ytpfogpkocdlloaa
open Go.RowKit
attribute [local simp] Box.purge Site.isLoc

set_option maxRecDepth 10000
set_option linter.unusedSimpArgs false

theorem osel_none {l : LOp} {d : Nat} {K : AV → AS → Prop} {σ : AS} : osel none l d K σ = opWp l d K σ := rfl
attribute [local simp] retFz frzL AS.frz AV.frz AV.frzL Box.frz AS.tidy
def St.more (s : St) : St := ⟨s.levels, s.start, s.runs ++ [⟨-1, 3⟩]⟩
theorem St.more_pv (s : St) : s.more.pv = .agg [.int .i64 s.levels, .int .i64 s.start, .lst false 2 (s.runs.map Rn.pv ++ [.agg [.int .i64 (-1), .int .u8 3]])] := by
  simp [St.more, St.pv, Rn.pv]
theorem St.more_all (s : St) : s.more.all.length = 3 * s.all.length := St.paths_more (s := s) (x := s.more) rfl s.runs s.start
set_option maxHeartbeats 16000000 in
theorem more_law (s : St) (hb : s.runs.length * 16 ≤ 140737488351232) : Gives Try.prog 6 [s.pv] (.bool true) := by
  refine calls_of_awpS mixed L6_ok (Nat.le_of_ble_eq_true rfl) ?_
  have h16 : Nat.ble 16 1000 = true := rfl
  by_cases h20 : s.runs.length ≤ 20
  · have hb1 : Nat.ble s.runs.length 1000000 = true := by rw [Nat.ble_eq]; omega
    have hb2 : Nat.ble (s.runs.length + 1) 1000000 = true := by rw [Nat.ble_eq]; omega
    simp [-getElem?_pos, L6, St.pv, hb1, hb2, h16]
    refine call_gives (k := 0) (fs := []) (xs := [s.pv]) (cs := []) rfl rfl (ready_c s) rfl ?_
    cases hrd : decide (s.runs.length ≤ 20) && decide (s.check = 0)
    · simp [-getElem?_pos]
      refine call_gives (k := 0) (fs := []) (xs := []) (cs := []) rfl rfl awake_c rfl ?_
      simp [-getElem?_pos]
    · have hrd' : s.runs.length ≤ 20 ∧ s.check = 0 := by simpa using hrd
      obtain ⟨hn, hc⟩ := hrd'
      have hne : s.runs.map Rn.pv ++ [PV.agg [.int .i64 (-1), .int .u8 3]] ≠ [] := by simp
      obtain ⟨xs, hxs⟩ : ∃ xs, xs = s.runs.map Rn.pv ++ [PV.agg [.int .i64 (-1), .int .u8 3]] := ⟨_, rfl⟩
      have hlen : xs.length = s.runs.length + 1 := by rw [hxs]; simp
      have htk : xs.take (s.runs.length + 1) = xs := List.take_of_length_le (by omega)
      have hmp : s.more.pv = .agg [.int .i64 s.levels, .int .i64 s.start, .lst false 2 xs] := by rw [hxs]; exact s.more_pv
      simp [-getElem?_pos]
      simp only [← hxs]
      refine call_gives (k := 1) (fs := []) (xs := [s.more.pv]) (cs := []) rfl (by simp [snapW, AV.snap, AV.snap0, hmp, htk, hlen]) (ready_c s.more) rfl ?_
      cases hrx : decide (s.more.runs.length ≤ 20) && decide (s.more.check = 0)
      · simp [-getElem?_pos]
        refine call_gives (k := 0) (fs := []) (xs := []) (cs := []) rfl rfl awake_c rfl ?_
        simp [-getElem?_pos]
      · have hrx' : s.more.runs.length ≤ 20 ∧ s.more.check = 0 := by simpa using hrx
        obtain ⟨hnx, hcx⟩ := hrx'
        have hp : s.more.possible = s.possible := by
          rw [St.possible_all hc, St.possible_all hcx]
          have h3 := s.more_all
          by_cases e : s.all = []
          · rw [e] at h3
            rw [if_pos e, if_pos (List.eq_nil_of_length_eq_zero (by simpa using h3))]
          · rw [if_neg e, if_neg (fun e' => e (List.eq_nil_of_length_eq_zero (by rw [e'] at h3; simp only [List.length_nil] at h3; omega)))]
        have hm : s.more.many = 3 * s.many := by
          rw [St.many_all', St.many_all', hp, s.more_all]
          split <;> rfl
        have hm' : ((s.more.many : Nat) : Int) = 3 * (s.many : Int) := by rw [hm]; omega
        have hw : IntKind.i64.wrap (3 * (s.many : Int)) = 3 * (s.many : Int) := by
          have hle : s.many ≤ 4782969 := by
            unfold St.many
            split
            · exact St.items_len (by have := (St.check0 hc).2.2.1; omega)
            · omega
          exact wrap64 (by omega)
        simp [-getElem?_pos]
        refine .inl (call_pv [] (fs := []) (xs := [s.pv]) (cs := []) rfl rfl (stairs_c s (by omega)) ?_)
        simp [-getElem?_pos, frzsL]
        refine call_gives (k := 0) (fs := []) (xs := [s.pv]) (cs := []) rfl rfl (hist_c s (by omega)) rfl ?_
        have hg2 := hist_c s.more (by omega)
        have hst2 := stairs_c s.more (by omega)
        rw [hp] at hg2
        have hpos := St.possible_all hc
        have hpv : s.possible = 0 ∨ s.possible = 9 := by rw [hpos]; split <;> simp
        clear hpos hp hm
        rw [hmp] at hg2 hst2
        generalize s.more.many = b at *
        generalize s.many = a at *
        generalize s.possible = p at *
        simp [-getElem?_pos]
        refine .inl (call_pv [.loc 15 0] (fs := []) (xs := [.agg [.int .i64 s.levels, .int .i64 s.start, .lst false 2 xs]]) (cs := []) rfl ?_ hst2 ?_)
        · simp [frzsL, htk, hlen]
        simp [-getElem?_pos, frzsL, htk, hlen]
        refine call_gives (k := 0) (fs := []) (xs := [.agg [.int .i64 s.levels, .int .i64 s.start, .lst false 2 xs]]) (cs := []) rfl rfl hg2 rfl ?_
        rcases hpv with rfl | rfl
        · simp [-getElem?_pos, hw, hm']
          refine call_gives (k := 0) (fs := []) (xs := []) (cs := []) rfl rfl awake_c rfl ?_
          simp [-getElem?_pos]
        · simp [-getElem?_pos, hw, hm']
          refine call_gives (k := 0) (fs := []) (xs := []) (cs := []) rfl rfl awake_c rfl ?_
          simp [-getElem?_pos]
  · have hf : (decide (s.runs.length ≤ 20) && decide (s.check = 0)) = false := by simp [h20]
    have hr := ready_c s
    rw [hf] at hr
    by_cases hbig : s.runs.length + 1 ≤ 1000000
    · have hb1 : Nat.ble s.runs.length 1000000 = true := by rw [Nat.ble_eq]; omega
      have hb2 : Nat.ble (s.runs.length + 1) 1000000 = true := by rw [Nat.ble_eq]; omega
      simp [-getElem?_pos, L6, St.pv, hb1, hb2, h16]
      refine call_gives (k := 0) (fs := []) (xs := [s.pv]) (cs := []) rfl rfl hr rfl ?_
      simp [-getElem?_pos]
      refine call_gives (k := 0) (fs := []) (xs := []) (cs := []) rfl rfl awake_c rfl ?_
      simp [-getElem?_pos]
    · have hb2 : Nat.ble (s.runs.length + 1) 1000000 = false := by rw [Bool.eq_false_iff]; intro h; have := Nat.le_of_ble_eq_true h; omega
      cases hb1 : Nat.ble s.runs.length 1000000 with
      | true =>
        simp [-getElem?_pos, L6, St.pv, hb1, hb2, h16]
        rw [osel_none]
        simp [-getElem?_pos, opWp]
        refine ⟨by omega, by omega, ?_⟩
        refine call_gives (k := 0) (fs := []) (xs := [s.pv]) (cs := []) rfl rfl hr rfl ?_
        simp [-getElem?_pos]
        refine call_gives (k := 0) (fs := []) (xs := []) (cs := []) rfl rfl awake_c rfl ?_
        simp [-getElem?_pos]
      | false =>
        simp [-getElem?_pos, L6, St.pv, hb1, hb2, h16]
        rw [osel_none]
        simp [-getElem?_pos, opWp]
        refine ⟨by omega, by omega, ?_⟩
        simp [-getElem?_pos, hb1, hb2, h16]
        rw [osel_none]
        simp [-getElem?_pos, opWp]
        refine ⟨by omega, by omega, ?_⟩
        refine call_gives (k := 0) (fs := []) (xs := [s.pv]) (cs := []) rfl rfl hr rfl ?_
        simp [-getElem?_pos]
        refine call_gives (k := 0) (fs := []) (xs := []) (cs := []) rfl rfl awake_c rfl ?_
        simp [-getElem?_pos]
end Go.Proofs.Ytpfogpkocdlloaa

/-! The size of an argument's runs. -/
namespace Go.Proofs.Ytpfogpkocdlloaa
open Go.RowKit Go.ChangeShapes Go.WideShapes

set_option maxRecDepth 100000 in
theorem runs_sized {H : Type} {enc : TypeId × Value → H} {W : World} {sp : Nat → Bool} {held : Bool} {fuel : Nat} {v : Value} {d : DataW H} {p : List MemPlace} (h : DataW.trod enc Try.prog W 0 sp held fuel 24 v.cells.toList = some (d, p))
    (hz : ∀ n ∈ d.weights Try.prog 24, n ≤ reachBytes) {s : St} (hr : RdP W.mem v s.pv) : s.runs.length * 16 ≤ 140737488351232 := by
  unfold St.pv at hr
  cases hr with
  | agg vs _ h0 h1 h2 =>
    obtain ⟨l⟩ := vs
    match l, h0 with
    | [a, b, c], _ =>
    have hc := h2 2 c _ rfl rfl
    obtain ⟨xs, n, _, hx, _, hxl, hf⟩ := DataW.trod_struct Try.underlying24 h
    have hxl' : xs.length = 3 := hxl
    have g2 : DataW.trod enc Try.prog W 0 sp held n 22 (([a, b, c].drop 2).take (Try.prog.cellsOf 22)) = xs[2]? := hf 2 _ rfl
    match xs, hxl' with
    | [x0, x1, x2], _ =>
    rw [c22] at g2
    have g2' : DataW.trod enc Try.prog W 0 sp held n 22 [c] = some x2 := g2
    have hd : d = .agg [x0.1, x1.1, x2.1] := congrArg (·.1) hx
    subst hd
    have e24 : Try.prog.underlying 24 = some (.struct _) := Try.underlying24
    have hlen : ∀ (L : Nat) (ys : List PV), RdP W.mem c (.lst false 2 ys) → ys.length = L → L * 16 ≤ 140737488351232 := by
      intro L ys hc hL
      rcases DataW.trod_slice Try.underlying22 g2' with ⟨e, _⟩ | ⟨a', len, cap, elems, rest, n', _, e, hx2, _, _, _, hel, _⟩
      · have : c = .slice none 0 0 := by simpa using e
        subst this
        have hl : ys.length = 0 := by
          generalize hys : PV.lst false 2 ys = z at hc
          generalize hv : Value.slice none 0 0 = v' at hc
          cases hc <;> first | (cases hys; done) | skip
          injection hys with _ _ q
          subst q
          injection hv with _ q _
          exact q.symm
        omega
      · have : c = .slice (some a') len cap := by simpa using e
        subst this
        have hl : ys.length = len := by
          generalize hys : PV.lst false 2 ys = z at hc
          generalize hv : Value.slice (some a') len cap = v' at hc
          cases hc <;> first | (cases hys; done) | skip
          injection hys with _ _ q
          subst q
          injection hv with _ q _
          exact q.symm
        have hw := hz ((elems.length + rest.length) * Try.prog.bytesOf 43) (by
          unfold DataW.weights
          rw [e24]
          refine DataW.weights_mem_each (j := 2) (t := 22) (d := x2.1) rfl rfl _ ?_
          rw [hx2]
          simp [DataW.weights, Try.underlying22])
        have h16 : Try.prog.bytesOf 43 = 16 := by kernel_rfl
        have hrb : reachBytes = 140737488351232 := by decide
        rw [h16, hrb] at hw
        have : len * 16 ≤ (elems.length + rest.length) * 16 := Nat.mul_le_mul_right _ (by omega)
        omega
    exact hlen s.runs.length _ hc (by simp)
end Go.Proofs.Ytpfogpkocdlloaa

/-! The statement StairMore holds: for every input the law answers true, and its argument reads behind the call as before. No conditions. -/
namespace Go.Proofs.Ytpfogpkocdlloaa
open Go.ChangeShapes Go.WideShapes Go.ChangeAt Go.RowKit

set_option maxRecDepth 100000 in
theorem walkStairMore (v0 : Value) (W : World) {H : Type} {enc : TypeId × Value → H} {base : Nat} {sp : Nat → Bool} {hd : Bool} {d0 : DataW H} {p0 : List MemPlace}
    (k0 : Value.okWide Try.prog W .any base 24 v0) (h0 : DataW.Trod enc Try.prog W 0 sp hd 24 v0 d0 p0)
    (hz : ∀ n ∈ d0.weights Try.prog 24, n ≤ reachBytes) :
    Calls Try.prog 6 #[v0] W fun e w' => e = .returned (.bool true) ∧ Keep [] W w' := by
  obtain ⟨n0, h0⟩ := h0
  obtain ⟨s0, w0, l0, r0⟩ := rd_stairs k0 h0
  refine calls_bool (xs := [s0.pv]) (b := true) ((more_law s0 (runs_sized h0 hz r0)).mono (fun _ _ h => h.1)) rfl (fun j v x e1 e2 => ?_)
  match j with
  | 0 => simp at e1 e2; subst e1 e2; exact r0
  | j + 1 => simp at e1
set_option maxRecDepth 100000 in
theorem liftedStairMore (os : Os) (started : os.Started) (H : Type) (enc : TypeId × Value → H) :
    ReturnsInHanded {} Try.checked os 6 .any (Rows.stairMoreSpec.pre6 enc Try.prog Try.f6 Rows.stairMoreRow.domain false) (Rows.stairMoreSpec.post enc Try.prog Try.f6 false true false false) := by
  refine returnsInHanded_of_change_sized (C := Try.checked) own started (by kernel_rfl) Try.func6
    (ChangeSpec.witness6 (enc := enc) (C := Try.checked) false ⟨#[], #[.agg #[.int .i64 0, .int .i64 0, .slice none 0 0]], []⟩ 8 (by kernel_rfl) (by kernel_rfl) (by kernel_rfl) (by kernel_rfl)) ?_
  intro W base args ds gs before hval0 hW hcnd hsz _
  have hval : ∀ (j : Nat) t v, Try.f6.params[j]? = some t → args[j]? = some v → Value.okWide Try.prog W .any base t v := hval0
  have hW' := hW
  obtain ⟨p, q, hA0, hV, rfl, hfz, hnd⟩ := hW
  have hA : DataW.TrodAll enc Try.prog W 0 (fun _ => true) true Try.f6.params.toList args.toList ds p := hA0
  rw [Try.params6] at hA hval
  obtain ⟨v0, vs0, d0, ds0, p0, q0, hargs, rfl, rfl, h0, r0⟩ := trodAll_cons hA
  obtain ⟨rfl, rfl, rfl⟩ := trodAll_nil r0
  have hargs' : args = #[v0] := by
    apply Array.ext'
    exact hargs
  subst hargs'
  have k0 := hval 0 _ v0 rfl rfl
  obtain ⟨rfl, rfl⟩ := trodVars_none hV
  have hz : ∀ n ∈ d0.weights Try.prog 24, n ≤ reachBytes := fun n hn => by
    have h1 := List.all_eq_true.1 hsz n (DataW.weights_mem_each (j := 0) (t := 24) (d := d0) (by rw [Try.params6]; rfl) rfl n hn)
    simpa using h1
  refine (walkStairMore v0 W k0 h0 hz).mono fun e W' ⟨he, hk⟩ => ?_
  subst he
  exact ⟨_, rfl, post_law (tb := 4) laidP rowedP fullP (by decide +kernel) rfl rfl rfl Try.underlying4 hW' hk⟩
theorem overStairMore : Rows.stairMoreRow.holds Try.pinned (OpenSpec.ofChange Rows.stairMoreSpec) :=
  OpenClaim.holds_of_wide 6 Try.f6 rfl rfl rfl rfl rfl rfl rfl ⟨rfl, rfl, rfl, rfl, rfl⟩ rfl rfl rfl rfl rfl (by kernel_rfl) Try.func6 (by kernel_rfl)
    (of_decide_eq_true (by kernel_rfl)) (by unfold Func.isWrapper; first | (rw [if_pos (by decide +kernel)]; kernel_rfl) | (rw [if_neg (by decide +kernel)]; exact ⟨rfl, rfl⟩))
    (fun os started H enc _ => liftedStairMore os started H enc)
theorem provedStairMore : Rows.StairMoreSaid := overStairMore
end Go.Proofs.Ytpfogpkocdlloaa
