/- The statement StairEnds answers true. (Several texts in one.) -/
import Derived.Test.YtpfogpkocdlloaaClRanks
import Derived.Test.YtpfogpkocdlloaaRows
import Derived.WalkKit
import Derived.ProofKit
import Derived.OpenShut
import Derived.Test.YtpfogpkocdlloaaStC
set_option linter.unusedVariables false
set_option linter.unusedSimpArgs false
/-! The statement StairEnds answers true. -/
namespace Go.Proofs.Ytpfogpkocdlloaa
open Go.RowKit
attribute [local simp] Box.purge Site.isLoc

set_option maxRecDepth 10000
set_option linter.unusedSimpArgs false

attribute [local simp] AS.exp expG Box.ren AV.map AV.mapL outsOk noRet Site.isRet Box.allS AV.allS AV.allSL retB dropL AS.adds renL outG outOk lentBx inG fnOf lookA List.findIdx?_cons
attribute [local simp] retFz frzL AS.frz AV.frz AV.frzL Box.frz AS.tidy
set_option maxHeartbeats 16000000 in
theorem ends_law (s : St) (w : Int) (hw0 : 0 ≤ w ∧ w ≤ 255) : Gives Try.prog 9 [s.pv, .int .u8 w] (.bool true) := by
  refine calls_of_awpS mixed L9_ok (Nat.le_of_ble_eq_true rfl) ?_
  simp [-getElem?_pos, L9, St.pv]
  refine call_gives (k := 0) (fs := []) (xs := [s.pv]) (cs := []) rfl rfl (ready_c s) rfl ?_
  cases hrd : decide (s.runs.length ≤ 20) && decide (s.check = 0)
  · simp [-getElem?_pos]
    refine call_gives (k := 0) (fs := []) (xs := []) (cs := []) rfl rfl awake_c rfl ?_
    simp [-getElem?_pos]
  · have hrd' : s.runs.length ≤ 20 ∧ s.check = 0 := by simpa using hrd
    obtain ⟨hn, hc⟩ := hrd'
    by_cases hne : s.runs.length = 0
    · simp [-getElem?_pos, hne]
      refine call_gives (k := 0) (fs := []) (xs := []) (cs := []) rfl rfl awake_c rfl ?_
      simp [-getElem?_pos]
    · have hz : ¬ (s.runs.length : Int) = 0 := by omega
      have hw1 : IntKind.i64.wrap w = w := wrap64 (by omega)
      obtain ⟨r, hk, hrl⟩ : ∃ k : Nat, w.tmod s.runs.length = (k : Int) ∧ k < s.runs.length := by
        have h1 := Int.tmod_nonneg (s.runs.length : Int) hw0.1
        have h2 := Int.tmod_lt_of_pos w (show (0 : Int) < s.runs.length by omega)
        exact ⟨(w.tmod s.runs.length).toNat, by omega, by omega⟩
      have hnil : ¬ s.runs = [] := fun e => hne (by rw [e]; rfl)
      have hr := rank_c s (by omega) r
      have hs0 := shows_c s (by omega) r false
      have hs1 := shows_c s (by omega) r true
      simp [-getElem?_pos, hz, hw1, hk, hnil]
      refine .inl (call_pv [] (fs := []) (xs := [s.pv]) (cs := []) rfl rfl (stairs_c s (by omega)) ?_)
      simp [-getElem?_pos, frzsL]
      refine call_gives (k := 0) (fs := []) (xs := [s.pv, .int .i64 r]) (cs := []) rfl rfl hr rfl ?_
      simp [-getElem?_pos, rangeP]
      refine .inl (call_pv [] (fs := []) (xs := [s.pv]) (cs := []) rfl rfl (stairs_c s (by omega)) ?_)
      simp [-getElem?_pos, frzsL]
      refine .inl (call_pv [] (fs := []) (xs := [s.pv, .int .i64 r, .bool false]) (cs := []) rfl rfl hs0 ?_)
      simp [-getElem?_pos, frzsL, showsP, -List.map_map]
      refine .inl (call_pv [] (fs := []) (xs := [s.pv]) (cs := []) rfl rfl (stairs_c s (by omega)) ?_)
      simp [-getElem?_pos, frzsL, -List.map_map]
      refine .inl (call_pv [] (fs := []) (xs := [s.pv, .int .i64 r, .bool true]) (cs := []) rfl rfl hs1 ?_)
      simp [-getElem?_pos, frzsL, showsP, -List.map_map]
      have hpos := St.possible_all hc
      by_cases hpo : s.possible = 0
      · have hrk := St.rank_at hpo hrl
        have ha : s.asked (r : Int) = 0 := by unfold St.asked; rw [if_pos hpo, if_pos (by omega)]
        obtain ⟨hpa, hb⟩ := St.bestP_mem hpo r false
        obtain ⟨hpb, hb'⟩ := St.bestP_mem hpo r true
        have hsw0 : s.shows (r : Int) false = (((s.bestP r false).1, s.lims false (s.bestP r false).1 (s.bestP r false).2), 0) := by unfold St.shows; rw [if_pos ha]; rfl
        have hsw1 : s.shows (r : Int) true = (((s.bestP r true).1, s.lims true (s.bestP r true).1 (s.bestP r true).2), 0) := by unfold St.shows; rw [if_pos ha]; rfl
        have hl0 := St.endS_lim hb
        have hl1 := St.endS_lim hb'
        rw [hrk, hsw0, hsw1]
        clear hr hs0 hs1 hrk hsw0 hsw1 hpos
        generalize s.bestP r false = p at *
        generalize s.bestP r true = q at *
        obtain ⟨p1, p2, p3, _⟩ := St.all_ok hc hpa
        obtain ⟨q1, q2, q3, _⟩ := St.all_ok hc hpb
        obtain ⟨_, _, c3, _⟩ := St.check0 hc
        have tp := istruth_c hc hpa (St.fits_lims hc hpa false)
        have tq := istruth_c hc hpb (St.fits_lims hc hpb true)
        have vp := prove_c s (by omega) p.1 (by omega) (fun x hx => by have := p3 x hx; omega)
        have vq := prove_c s (by omega) q.1 (by omega) (fun x hx => by have := q3 x hx; omega)
        have ep : s.prove p.1 = true := by unfold St.prove; rw [St.hist_of hc hpa]; simp [hc]
        have eq : s.prove q.1 = true := by unfold St.prove; rw [St.hist_of hc hpb]; simp [hc]
        rw [ep] at vp
        rw [eq] at vq
        have Lp : (s.lims false p.1 p.2).length = s.runs.length := by rw [St.lims_len (by omega)]; exact p1
        have Lq : (s.lims true q.1 q.2).length = s.runs.length := by rw [St.lims_len (by omega)]; exact q1
        have Np : s.lims false p.1 p.2 ≠ [] := fun e => by rw [e] at Lp; simp at Lp; omega
        have Nq : s.lims true q.1 q.2 ≠ [] := fun e => by rw [e] at Lq; simp at Lq; omega
        have sp := sorted_c (s.lims false p.1 p.2) Np (by omega)
        have sq := sorted_c (s.lims true q.1 q.2) Nq (by omega)
        have gp := St.rk_get hc hpa hrl false
        have gq := St.rk_get hc hpb hrl true
        rw [← hl0] at gp
        rw [← hl1] at gq
        have hgp : ((sortI (s.lims false p.1 p.2)).map intP)[r]? = some (.int .i64 (s.endS r false).lim) := by rw [List.getElem?_map, gp]; rfl
        have hgq : ((sortI (s.lims true q.1 q.2)).map intP)[r]? = some (.int .i64 (s.endS r true).lim) := by rw [List.getElem?_map, gq]; rfl
        rw [Lp] at sp
        rw [Lq] at sq
        generalize (s.endS r false).lim = a at *
        generalize (s.endS r true).lim = b at *
        simp [-getElem?_pos, -List.map_map, -List.getElem?_map]
        refine call_pv [] (fs := []) (xs := [s.pv]) (cs := []) rfl rfl (stairs_c s (by omega)) ?_
        simp [-getElem?_pos, -List.map_map, -List.getElem?_map, frzsL]
        refine call_pv [] (fs := []) (xs := [u8sP p.1]) (cs := []) rfl rfl (bytes_c p.1 (by omega)) ?_
        simp [-getElem?_pos, -List.map_map, -List.getElem?_map, frzsL]
        refine call_give (k := 0) (fs := []) (xs := [s.pv, u8sP p.1]) (cs := []) rfl rfl vp rfl ?_
        simp [-getElem?_pos, -List.map_map, -List.getElem?_map, frzsL]
        refine call_pv [] (fs := []) (xs := [s.pv]) (cs := []) rfl rfl (stairs_c s (by omega)) ?_
        simp [-getElem?_pos, -List.map_map, -List.getElem?_map, frzsL]
        refine call_pv [] (fs := []) (xs := [u8sP q.1]) (cs := []) rfl rfl (bytes_c q.1 (by omega)) ?_
        simp [-getElem?_pos, -List.map_map, -List.getElem?_map, frzsL]
        refine call_give (k := 0) (fs := []) (xs := [s.pv, u8sP q.1]) (cs := []) rfl rfl vq rfl ?_
        simp [-getElem?_pos, -List.map_map, -List.getElem?_map, frzsL]
        refine call_give (k := 0) (fs := []) (xs := [s.pv, u8sP p.1, intsP (s.lims false p.1 p.2)]) (cs := []) rfl rfl tp rfl ?_
        simp [-getElem?_pos, -List.map_map, -List.getElem?_map, frzsL]
        refine call_give (k := 0) (fs := []) (xs := [s.pv, u8sP q.1, intsP (s.lims true q.1 q.2)]) (cs := []) rfl rfl tq rfl ?_
        simp [-getElem?_pos, -List.map_map, -List.getElem?_map, frzsL]
        refine call_vec [] (fs := []) (xs := [intsP (s.lims false p.1 p.2)]) (cs := []) rfl rfl sp ?_
        simp [-getElem?_pos, -List.map_map, -List.getElem?_map, frzsL, nblt, hrl, hgp]
        refine call_vec [] (fs := []) (xs := [intsP (s.lims true q.1 q.2)]) (cs := []) rfl rfl sq ?_
        simp [-getElem?_pos, -List.map_map, -List.getElem?_map, frzsL, nblt, hrl, hgq]
        refine call_gives (k := 0) (fs := []) (xs := []) (cs := []) rfl rfl awake_c rfl ?_
        simp [-getElem?_pos]
      · have hp9 : s.possible = 9 := by
          rw [hpos] at hpo ⊢
          split
          · rfl
          · rename_i h; rw [if_neg h] at hpo; exact absurd rfl hpo
        have hrk := St.rank_no hpo (r : Int)
        have ha : s.asked (r : Int) = 9 := by unfold St.asked; rw [if_neg hpo, hp9]
        have hsw0 : s.shows (r : Int) false = (([], []), 9) := by unfold St.shows; rw [ha, if_neg (by decide)]
        have hsw1 : s.shows (r : Int) true = (([], []), 9) := by unfold St.shows; rw [ha, if_neg (by decide)]
        rw [hp9] at hrk
        rw [hrk, hsw0, hsw1]
        simp [-getElem?_pos, u8sP, intsP_eq]
        refine call_gives (k := 0) (fs := []) (xs := []) (cs := []) rfl rfl awake_c rfl ?_
        simp [-getElem?_pos]
end Go.Proofs.Ytpfogpkocdlloaa

/-! The statement StairEnds holds: for every input the law answers true, and its argument reads behind the call as before. No conditions. -/
namespace Go.Proofs.Ytpfogpkocdlloaa
open Go.ChangeShapes Go.WideShapes Go.ChangeAt Go.RowKit

set_option maxRecDepth 100000 in
theorem walkStairEnds (v0 v1 : Value) (W : World) {H : Type} {enc : TypeId × Value → H} {base : Nat} {sp : Nat → Bool} {hd : Bool} {d0 d1 : DataW H} {p0 p1 : List MemPlace}
    (k0 : Value.okWide Try.prog W .any base 24 v0) (h0 : DataW.Trod enc Try.prog W 0 sp hd 24 v0 d0 p0)
    (k1 : Value.okWide Try.prog W .any base 5 v1) (h1 : DataW.Trod enc Try.prog W 0 sp hd 5 v1 d1 p1) :
    Calls Try.prog 9 #[v0, v1] W fun e w' => e = .returned (.bool true) ∧ Keep [] W w' := by
  obtain ⟨n0, h0⟩ := h0
  obtain ⟨s0, w0, l0, r0⟩ := rd_stairs k0 h0
  obtain ⟨s1, rfl, rfl, rfl, w1⟩ := open_int Try.underlying5 k1 h1
  have w1 := kind_range w1
  refine calls_bool (xs := [s0.pv, .int .u8 s1]) (b := true) ((ends_law s0 s1 (kr8 w1)).mono (fun _ _ h => h.1)) rfl (fun j v x e1 e2 => ?_)
  match j with
  | 0 => simp at e1 e2; subst e1 e2; exact r0
  | 1 => simp at e1 e2; subst e1 e2; exact .int .u8 s1
  | j + 2 => simp at e1
set_option maxRecDepth 100000 in
theorem liftedStairEnds (os : Os) (started : os.Started) (H : Type) (enc : TypeId × Value → H) :
    ReturnsInHanded {} Try.checked os 9 .any (Rows.stairEndsSpec.pre6 enc Try.prog Try.f9 Rows.stairEndsRow.domain false) (Rows.stairEndsSpec.post enc Try.prog Try.f9 false true false false) := by
  refine returnsInHanded_of_change (C := Try.checked) own started (by kernel_rfl) Try.func9
    (ChangeSpec.witness6 (enc := enc) (C := Try.checked) false ⟨#[], #[.agg #[.int .i64 0, .int .i64 0, .slice none 0 0], .int .u8 0], []⟩ 8 (by kernel_rfl) (by kernel_rfl) (by kernel_rfl) (by kernel_rfl)) ?_
  intro W base args ds gs before hval0 hW hcnd _
  have hval : ∀ (j : Nat) t v, Try.f9.params[j]? = some t → args[j]? = some v → Value.okWide Try.prog W .any base t v := hval0
  have hW' := hW
  obtain ⟨p, q, hA0, hV, rfl, hfz, hnd⟩ := hW
  have hA : DataW.TrodAll enc Try.prog W 0 (fun _ => true) true Try.f9.params.toList args.toList ds p := hA0
  rw [Try.params9] at hA hval
  obtain ⟨v0, vs0, d0, ds0, p0, q0, hargs, rfl, rfl, h0, r0⟩ := trodAll_cons hA
  obtain ⟨v1, vs1, d1, ds1, p1, q1, rfl, rfl, rfl, h1, r1⟩ := trodAll_cons r0
  obtain ⟨rfl, rfl, rfl⟩ := trodAll_nil r1
  have hargs' : args = #[v0, v1] := by
    apply Array.ext'
    exact hargs
  subst hargs'
  have k0 := hval 0 _ v0 rfl rfl
  have k1 := hval 1 _ v1 rfl rfl
  obtain ⟨rfl, rfl⟩ := trodVars_none hV
  refine (walkStairEnds v0 v1 W k0 h0 k1 h1).mono fun e W' ⟨he, hk⟩ => ?_
  subst he
  exact ⟨_, rfl, post_law (tb := 4) laidP rowedP fullP (by decide +kernel) rfl rfl rfl Try.underlying4 hW' hk⟩
theorem overStairEnds : Rows.stairEndsRow.holds Try.pinned (OpenSpec.ofChange Rows.stairEndsSpec) :=
  OpenClaim.holds_of_wide 9 Try.f9 rfl rfl rfl rfl rfl rfl rfl ⟨rfl, rfl, rfl, rfl, rfl⟩ rfl rfl rfl rfl rfl (by kernel_rfl) Try.func9 (by kernel_rfl)
    (of_decide_eq_true (by kernel_rfl)) (by unfold Func.isWrapper; first | (rw [if_pos (by decide +kernel)]; kernel_rfl) | (rw [if_neg (by decide +kernel)]; exact ⟨rfl, rfl⟩))
    (fun os started H enc _ => liftedStairEnds os started H enc)
theorem provedStairEnds : Rows.StairEndsSaid := overStairEnds
end Go.Proofs.Ytpfogpkocdlloaa
