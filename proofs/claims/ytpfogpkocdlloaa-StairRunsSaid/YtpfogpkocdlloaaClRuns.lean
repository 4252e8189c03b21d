/- The statement StairRuns answers true. (Several texts in one.) -/
import Derived.Test.YtpfogpkocdlloaaStE
import Derived.Test.YtpfogpkocdlloaaRows
import Derived.WalkKit
import Derived.ProofKit
import Derived.OpenShut
import Derived.Test.YtpfogpkocdlloaaStC
set_option linter.unusedVariables false
set_option linter.unusedSimpArgs false
/-! The statement StairRuns answers true. -/
namespace Go.Proofs.Ytpfogpkocdlloaa
open Go.RowKit
attribute [local simp] Box.purge Site.isLoc

set_option maxRecDepth 10000
set_option linter.unusedSimpArgs false

structure RunL (P : List (List Int × List Int)) (i : Nat) (n L H : Int) : Prop where
  bd : ∀ p ∈ P, ∀ v, p.2[i]? = some v → L ≤ v ∧ v ≤ H
  at' : (P = [] ∧ L = n ∧ H = -1) ∨ ((∃ p ∈ P, p.2[i]? = some L) ∧ ∃ p ∈ P, p.2[i]? = some H)
theorem RunL.next {P : List (List Int × List Int)} {i : Nat} {n L H : Int} (h : RunL P i n L H) {p : List Int × List Int} {v : Int} (hv : p.2[i]? = some v) (hn : 0 ≤ v ∧ v ≤ n - 1) : RunL (P ++ [p]) i n (if v < L then v else L) (if v > H then v else H) := by
  refine ⟨fun q hq u hu => ?_, .inr ⟨?_, ?_⟩⟩
  · rcases List.mem_append.1 hq with hq | hq
    · have := h.bd q hq u hu
      constructor <;> split <;> omega
    · simp at hq; subst hq
      rw [hv] at hu; cases hu
      constructor <;> split <;> omega
  · split
    · exact ⟨p, by simp, hv⟩
    · rename_i hc
      rcases h.at' with ⟨_, h1, _⟩ | ⟨⟨q, hq, h1⟩, _⟩
      · omega
      · exact ⟨q, by simp [hq], h1⟩
  · split
    · exact ⟨p, by simp, hv⟩
    · rename_i hc
      rcases h.at' with ⟨_, _, h1⟩ | ⟨_, q, hq, h1⟩
      · omega
      · exact ⟨q, by simp [hq], h1⟩
theorem RunL.fin {P : List (List Int × List Int)} {i : Nat} {n L H lo hi : Int} {q : List Int} (h : RunL P i n L H) (k : RunAt P i lo hi q) : L = lo ∧ H = hi := by
  obtain ⟨p1, hp1, e1⟩ := k.lo'
  obtain ⟨p2, hp2, e2⟩ := k.hi'
  rcases h.at' with ⟨h1, _⟩ | ⟨⟨a, ha, ea⟩, b, hb, eb⟩
  · subst h1; cases hp1
  · have h1 := h.bd p1 hp1 lo e1
    have h2 := h.bd p2 hp2 hi e2
    have h3 := k.bd a ha L ea
    have h4 := k.bd b hb H eb
    omega
def sawA (P : List (List Int × List Int)) (i : Nat) (r : Int) : Bool := P.any fun p => p.1[i]? == some r
theorem sawA_next {P : List (List Int × List Int)} {i : Nat} {p : List Int × List Int} {x : Int} (hx : p.1[i]? = some x) (r : Int) : sawA (P ++ [p]) i r = (sawA P i r || (x == r)) := by
  unfold sawA
  rw [List.any_append, List.any_cons, hx]
  simp
theorem sawA_mem {P : List (List Int × List Int)} {i : Nat} {lo hi : Int} {q : List Int} (h : RunAt P i lo hi q) (r : Int) : sawA P i r = true ↔ r ∈ q := by
  unfold sawA
  rw [List.any_eq_true, h.mem]
  simp
/-- The results that were seen, so far. -/
def wl (f : Int → Bool) (k : Nat) : List Int := (([0, 1, 2] : List Int).take k).filter f
def lvP (s : St) : PV := .lst false 2 (s.runS.lv.map pairP)
def rsP (s : St) : PV := .lst false 1 (s.runS.rs.map fun l => .lst false 1 (u8L (sortI l)))
def rl0 (s : St) (i : Nat) : List (Nat × AV) := [(1, .ptr (.loc 1 0) 0), (3, .pv (lvP s)), (4, .pv (rsP s)), (7, .pv (rhP s)), (8, .pv (.int .i64 i))]
def rl1 (s : St) (i j : Nat) (L H : Int) (b0 b1 b2 : Bool) : AS := ⟨[(9, .pv (.int .i64 L)), (10, .pv (.int .i64 H)), (11, .ptr (.loc 11 0) 0), (12, .pv (.int .i64 j))] ++ rl0 s i, [(.loc 11 0, .cells [.pv (.bool b0), .pv (.bool b1), .pv (.bool b2)]), (.loc 1 0, .cells s.cells)]⟩
def rl2 (s : St) (i k : Nat) (L H : Int) (f : Int → Bool) : AS :=
  if wl f k = [] then ⟨[(9, .pv (.int .i64 L)), (10, .pv (.int .i64 H)), (11, .ptr (.loc 11 0) 0), (14, .pv (.emp (some true))), (15, .pv (.int .u8 k))] ++ rl0 s i, [(.loc 11 0, .cells [.pv (.bool (f 0)), .pv (.bool (f 1)), .pv (.bool (f 2))]), (.loc 1 0, .cells s.cells)]⟩
  else ⟨[(9, .pv (.int .i64 L)), (10, .pv (.int .i64 H)), (11, .ptr (.loc 11 0) 0), (14, .vec (.loc 116 0) 1 0 (wl f k).length), (15, .pv (.int .u8 k))] ++ rl0 s i, [(.loc 116 0, .arr 5 1 (u8L (wl f k))), (.loc 11 0, .cells [.pv (.bool (f 0)), .pv (.bool (f 1)), .pv (.bool (f 2))]), (.loc 1 0, .cells s.cells)]⟩
theorem St.poss3 {s : St} (h : ¬ s.possible = 0) : s.possible = 1 ∨ s.possible = 3 ∨ s.possible = 9 := by
  unfold St.possible at h ⊢
  split
  · rename_i hc
    rw [if_pos hc] at h
    split
    · exact .inr (.inr rfl)
    · rename_i h2
      rw [if_neg h2] at h
      exact absurd rfl h
  · rename_i hc
    unfold St.check at hc ⊢
    split
    · exact .inr (.inl rfl)
    · split
      · rename_i h1 h2
        rw [if_neg h1, if_pos h2] at hc
        exact absurd rfl hc
      · exact .inl rfl
attribute [local simp] retFz frzL AS.frz AV.frz AV.frzL Box.frz AS.tidy
set_option maxHeartbeats 32000000 in
theorem runs_law (s : St) : Gives Try.prog 11 [s.pv] (.bool true) := by
  refine calls_of_awpS mixed L11_ok (Nat.le_of_ble_eq_true rfl) ?_
  simp [-getElem?_pos, L11, St.pv]
  refine call_gives (k := 0) (fs := []) (xs := [s.pv]) (cs := []) rfl rfl (thin_c s) rfl ?_
  by_cases hn : s.runs.length ≤ 20
  · have hn' : decide ((s.runs.length : Int) ≤ 20) = true := by simp; omega
    simp [-getElem?_pos, -decide_eq_true_eq, -decide_eq_false_iff_not, hn']
    refine .inl (call_pv [] (fs := []) (xs := [s.pv]) (cs := []) rfl rfl (stairs_c s (by omega)) ?_)
    simp [-getElem?_pos, frzsL]
    refine .inl (call_pv [] (fs := []) (xs := [s.pv]) (cs := []) rfl rfl (runs_c s (by omega)) ?_)
    by_cases hpo : s.possible = 0
    · have hc := St.possible0 hpo
      obtain ⟨q1, q2, q3, _⟩ := St.check0 hc
      have hlen : s.all.length ≤ 4782969 := by have := St.items_len q3; rw [St.items_all, List.length_map] at this; exact this
      have hrp : s.runsP = .tup [lvP s, rsP s, .int .i64 0] := by unfold St.runsP; rw [if_pos hpo]; rfl
      obtain ⟨hl1, hl2⟩ := St.runs_len hc
      have hsp := St.runs_sp hc hpo
      rw [hrp]
      simp [-getElem?_pos, frzsL]
      refine call_gives (k := 0) (fs := []) (xs := [s.pv]) (cs := []) rfl rfl (askedL_c s (by omega)) rfl ?_
      simp [-getElem?_pos, hpo, lvP, rsP, hl1, hl2]
      refine .inl (call_pv [] (fs := []) (xs := [s.pv, .emp (some true)]) (cs := []) rfl rfl (rhist_nil s hc) ?_)
      simp only [frzsL]
      simp [-getElem?_pos, -List.map_map]
      refine awp_loopS (fun m τ => ∃ i : Nat, i ≤ s.runs.length ∧ m = s.runs.length - i ∧ τ = ⟨rl0 s i, [(.loc 1 0, .cells s.cells)]⟩)
        ⟨s.runs.length, _, Sub.mk (by simp [rl0, lvP, rsP, rhP]) (by simp [St.cells]), 0, by omega, rfl, rfl⟩ ?_
      rintro J hJ m τ ⟨i, hi, rfl, rfl⟩
      by_cases hlt : i < s.runs.length
      · obtain ⟨lo, hi', q, k1, k2, k3⟩ := hsp.at' i hlt
        have hg1 : (s.runS.lv.map pairP)[i]? = some (.agg [.int .i64 lo, .int .i64 hi']) := by rw [List.getElem?_map, k1]; rfl
        have hg2 : (s.runS.rs.map fun l => PV.lst false 1 (u8L (sortI l)))[i]? = some (.lst false 1 (u8L (sortI q))) := by rw [List.getElem?_map, k2]; rfl
        have hround := hJ _ _ ⟨i + 1, hlt, rfl, rfl⟩
        have hwi : IntKind.i64.wrap ((i : Int) + 1) = ((i + 1 : Nat) : Int) := by rw [wrap64 (by omega)]; omega
        simp [-getElem?_pos, -List.map_map, rl0, St.cells, hlt]
        refine awp_loopS (fun m τ => ∃ (j : Nat) (L H : Int), j ≤ s.all.length ∧ m = s.all.length - j ∧ RunL (s.all.take j) i s.levels L H ∧ τ = rl1 s i j L H (sawA (s.all.take j) i 0) (sawA (s.all.take j) i 1) (sawA (s.all.take j) i 2))
          ⟨s.all.length, _, Sub.mk (by simp [rl0]) (by simp [St.cells, sawA]), 0, s.levels, -1, by omega, rfl, ⟨fun p hp => by simp at hp, .inl ⟨rfl, rfl, rfl⟩⟩, rfl⟩ ?_
        rintro J2 hJ2 m τ ⟨j, L, H, hj, rfl, hI, rfl⟩
        by_cases hlt2 : j < s.all.length
        · have hx : s.all[j]? = some s.all[j] := List.getElem?_eq_getElem hlt2
          have hmem : s.all[j] ∈ s.all := List.getElem_mem hlt2
          have hts : s.all.take (j + 1) = s.all.take j ++ [s.all[j]] := by rw [List.take_add_one, hx]; rfl
          generalize s.all[j] = p at hx hmem hts
          obtain ⟨a1, a2, a3, _⟩ := St.all_ok hc hmem
          obtain ⟨a5, a6⟩ := St.all8 hc hmem
          have hwj : IntKind.i64.wrap ((j : Int) + 1) = ((j + 1 : Nat) : Int) := by rw [wrap64 (by omega)]; omega
          have hg : ((s.all.map (·.1)).map u8sP)[j]? = some (u8sP p.1) := by rw [List.getElem?_map, List.getElem?_map, hx]; rfl
          obtain ⟨r, hr⟩ : ∃ r, p.1[i]? = some r := ⟨p.1[i]'(by omega), List.getElem?_eq_getElem _⟩
          obtain ⟨v, hv⟩ : ∃ v, p.2[i]? = some v := ⟨p.2[i]'(by omega), List.getElem?_eq_getElem _⟩
          have hrr := a3 r (List.mem_of_getElem? hr)
          have hvv := a6 v (List.mem_of_getElem? hv)
          have hgr : (p.1.map u8P)[i]? = some (.int .u8 r) := by rw [List.getElem?_map, hr]; rfl
          have hgv : (p.2.map (PV.int .i64))[i]? = some (.int .i64 v) := by rw [List.getElem?_map, hv]; rfl
          have hlv := levels_c s (by omega) (by omega) p.1 (by omega)
          rw [← a5] at hlv
          have hround2 := hJ2 _ _ ⟨j + 1, _, _, hlt2, rfl, by rw [hts]; exact hI.next hv hvv, rfl⟩
          rw [hts, sawA_next hr, sawA_next hr, sawA_next hr] at hround2
          generalize sawA (s.all.take j) i 0 = b0 at *
          generalize sawA (s.all.take j) i 1 = b1 at *
          generalize sawA (s.all.take j) i 2 = b2 at *
          have hgq : (p.2.map (PV.int .i64)).length = s.runs.length := by rw [List.length_map]; exact a2
          have hsv : ∀ g, (List.map u8sP (s.all.map fun x => x.1))[j]? = some g → g = u8sP p.1 := fun g h => by rw [hg] at h; cases h; rfl
          simp [-getElem?_pos, -List.getElem?_map, -List.map_map, rl1, rl0, rhP, St.cells, hlt2, nblt, hg, u8sP, PV.cells]
          refine call_pv [] (fs := []) (xs := [.int .i64 s.levels, .int .i64 s.start, u8sP p.1]) (cs := []) rfl rfl hlv ?_
          simp [-getElem?_pos, -List.getElem?_map, -List.map_map, frzsL, intsP, hgv]
          have hgg : (u8sP p.1).cells = [.lst false 1 (p.1.map u8P)] := rfl
          simp [-getElem?_pos, -List.getElem?_map, -List.map_map, hlt2, nblt, hg, u8sP, PV.cells, hgr, hlt]
          have hr3 : r = 0 ∨ r = 1 ∨ r = 2 := by omega
          rcases hr3 with rfl | rfl | rfl
          all_goals
            simp [-getElem?_pos, -List.getElem?_map, -List.map_map, hwj]
            exact ⟨_, _, (by omega : s.all.length - (j + 1) < s.all.length - j), Sub.mk (by simp [rl1, rl0, rhP]) (by simp [rl1, St.cells]), hround2⟩
        · have he : j = s.all.length := by omega
          subst he
          rw [List.take_length] at hI ⊢
          obtain ⟨e1, e2⟩ := hI.fin k3
          subst e1 e2
          have hsm := sawA_mem k3
          obtain ⟨qq, hq⟩ := (RunS.fold_ok hc s.all (RunS.z s.runs.length) (fun p hp => hp) (RunS.z_ok _))
          have hqn := hq (St.all_ne hpo) q (List.mem_of_getElem? k2)
          have hqs := qq.sm q (List.mem_of_getElem? k2)
          have hwant : wl (sawA s.all i) 3 = sortI q := (sortI_seen hqs.1 hqs.2 (sawA s.all i) (fun x _ _ => hsm x)).symm
          have hsne : sortI q ≠ [] := fun e => hqn (List.eq_nil_of_length_eq_zero (by rw [← sortI_len, e]; rfl))
          have hsl : (sortI q).length ≤ 1000000 := by rw [sortI_len]; have := nodup_small hqs.1 hqs.2; omega
          clear qq hq hsm hI hJ2
          generalize sawA s.all i = f at *
          simp [-getElem?_pos, -List.map_map, rl1, rl0, rhP]
          refine awp_loopS (fun m τ => ∃ k : Nat, k ≤ 3 ∧ m = 3 - k ∧ τ = rl2 s i k L H f) ⟨3, rl2 s i 0 L H f, ?_, 0, by omega, rfl, rfl⟩ ?_
          · rw [rl2, if_pos (by simp [wl])]
            exact Sub.mk (by simp [rl0, rhP]) (by simp [St.cells])
          rintro J3 hJ3 m τ ⟨k, hk, rfl, rfl⟩
          have hk4 : k = 0 ∨ k = 1 ∨ k = 2 ∨ k = 3 := by omega
          have w1 : IntKind.u8.wrap 1 = 1 := rfl
          have w2 : IntKind.u8.wrap 2 = 2 := rfl
          have w3 : IntKind.u8.wrap 3 = 3 := rfl
          have hb16 : Nat.ble 1 1000 = true := rfl
          rcases hk4 with rfl | rfl | rfl | rfl
          · cases h0 : f 0
            all_goals
              simp [-getElem?_pos, rl2, wl, rl0, h0, w1]
              refine ⟨_, rl2 s i 1 L H f, (by omega : 3 - 1 < 3 - 0), ?_, hJ3 _ _ ⟨1, by omega, rfl, rfl⟩⟩
              simp only [rl2]
              simp [wl, h0]
              exact Sub.mk (by simp [rl0, w1, w2, w3]) (by simp [St.cells, u8L, u8V])
          · cases h0 : f 0 <;> cases h1 : f 1
            all_goals
              simp [-getElem?_pos, rl2, wl, rl0, h0, h1, w2]
              refine ⟨_, rl2 s i 2 L H f, (by omega : 3 - 2 < 3 - 1), ?_, hJ3 _ _ ⟨2, by omega, rfl, rfl⟩⟩
              simp only [rl2]
              simp [wl, h0, h1]
              exact Sub.mk (by simp [rl0, w1, w2, w3]) (by simp [St.cells, u8L, u8V])
          · cases h0 : f 0 <;> cases h1 : f 1 <;> cases h2 : f 2
            all_goals
              simp [-getElem?_pos, rl2, wl, rl0, h0, h1, h2, w3]
              refine ⟨_, rl2 s i 3 L H f, (by omega : 3 - 3 < 3 - 2), ?_, hJ3 _ _ ⟨3, by omega, rfl, rfl⟩⟩
              simp only [rl2]
              simp [wl, h0, h1, h2]
              exact Sub.mk (by simp [rl0, w1, w2, w3]) (by simp [St.cells, u8L, u8V])
          · have hsame := same_c (sortI q) (sortI q) hsl
            have hd : decide (sortI q = sortI q) = true := by simp
            rw [hd] at hsame
            rw [rl2, hwant, if_neg hsne]
            have htl : (u8L (sortI q)).take (sortI q).length = u8L (sortI q) := List.take_of_length_le (by rw [u8L_len]; omega)
            clear hwant
            generalize sortI q = W at *
            simp [-getElem?_pos, -List.map_map, rl0, lvP, rsP, hg1, hg2]
            refine call_gives (k := 1) (fs := []) (xs := [.lst false 1 (u8L W), .lst false 1 (u8L W)]) (cs := []) rfl (by simp [snapW, AV.snap, AV.snap0, htl, u8L_len]) hsame rfl ?_
            simp [-getElem?_pos, -List.map_map, hwi]
            exact ⟨_, _, (by omega : s.runs.length - (i + 1) < s.runs.length - i), Sub.mk (by simp [rl0, lvP, rsP]) (by simp [St.cells]), hround⟩
      · have he : i = s.runs.length := by omega
        subst he
        simp [-getElem?_pos, -List.map_map, rl0, St.cells]
        refine call_gives (k := 0) (fs := []) (xs := []) (cs := []) rfl rfl awake_c rfl ?_
        simp [-getElem?_pos]
    · have hrp : s.runsP = .tup [.emp (some true), .emp (some true), .int .i64 s.possible] := by unfold St.runsP; rw [if_neg hpo]
      have hask := askedL_c s (by omega)
      have hv := St.poss3 hpo
      have hw0 : IntKind.i64.wrap 0 = 0 := rfl
      rw [hrp]
      clear hrp
      generalize s.possible = e at *
      simp [-getElem?_pos, frzsL]
      refine call_gives (k := 0) (fs := []) (xs := [s.pv]) (cs := []) rfl rfl hask rfl ?_
      rcases hv with rfl | rfl | rfl
      all_goals
        simp [-getElem?_pos, hw0]
        refine call_gives (k := 0) (fs := []) (xs := []) (cs := []) rfl rfl awake_c rfl ?_
        simp [-getElem?_pos]
  · have hn' : decide ((s.runs.length : Int) ≤ 20) = false := by simp; omega
    simp [-getElem?_pos, -decide_eq_true_eq, -decide_eq_false_iff_not, hn']
    refine call_gives (k := 0) (fs := []) (xs := []) (cs := []) rfl rfl awake_c rfl ?_
    simp [-getElem?_pos]
end Go.Proofs.Ytpfogpkocdlloaa

/-! The statement StairRuns holds: for every input the law answers true, and its argument reads behind the call as before. No conditions. -/
namespace Go.Proofs.Ytpfogpkocdlloaa
open Go.ChangeShapes Go.WideShapes Go.ChangeAt Go.RowKit

set_option maxRecDepth 100000 in
theorem walkStairRuns (v0 : Value) (W : World) {H : Type} {enc : TypeId × Value → H} {base : Nat} {sp : Nat → Bool} {hd : Bool} {d0 : DataW H} {p0 : List MemPlace}
    (k0 : Value.okWide Try.prog W .any base 24 v0) (h0 : DataW.Trod enc Try.prog W 0 sp hd 24 v0 d0 p0) :
    Calls Try.prog 11 #[v0] W fun e w' => e = .returned (.bool true) ∧ Keep [] W w' := by
  obtain ⟨n0, h0⟩ := h0
  obtain ⟨s0, w0, l0, r0⟩ := rd_stairs k0 h0
  refine calls_bool (xs := [s0.pv]) (b := true) ((runs_law s0).mono (fun _ _ h => h.1)) rfl (fun j v x e1 e2 => ?_)
  match j with
  | 0 => simp at e1 e2; subst e1 e2; exact r0
  | j + 1 => simp at e1
set_option maxRecDepth 100000 in
theorem liftedStairRuns (os : Os) (started : os.Started) (H : Type) (enc : TypeId × Value → H) :
    ReturnsInHanded {} Try.checked os 11 .any (Rows.stairRunsSpec.pre6 enc Try.prog Try.f11 Rows.stairRunsRow.domain false) (Rows.stairRunsSpec.post enc Try.prog Try.f11 false true false false) := by
  refine returnsInHanded_of_change (C := Try.checked) own started (by kernel_rfl) Try.func11
    (ChangeSpec.witness6 (enc := enc) (C := Try.checked) false ⟨#[], #[.agg #[.int .i64 0, .int .i64 0, .slice none 0 0]], []⟩ 8 (by kernel_rfl) (by kernel_rfl) (by kernel_rfl) (by kernel_rfl)) ?_
  intro W base args ds gs before hval0 hW hcnd _
  have hval : ∀ (j : Nat) t v, Try.f11.params[j]? = some t → args[j]? = some v → Value.okWide Try.prog W .any base t v := hval0
  have hW' := hW
  obtain ⟨p, q, hA0, hV, rfl, hfz, hnd⟩ := hW
  have hA : DataW.TrodAll enc Try.prog W 0 (fun _ => true) true Try.f11.params.toList args.toList ds p := hA0
  rw [Try.params11] at hA hval
  obtain ⟨v0, vs0, d0, ds0, p0, q0, hargs, rfl, rfl, h0, r0⟩ := trodAll_cons hA
  obtain ⟨rfl, rfl, rfl⟩ := trodAll_nil r0
  have hargs' : args = #[v0] := by
    apply Array.ext'
    exact hargs
  subst hargs'
  have k0 := hval 0 _ v0 rfl rfl
  obtain ⟨rfl, rfl⟩ := trodVars_none hV
  refine (walkStairRuns v0 W k0 h0).mono fun e W' ⟨he, hk⟩ => ?_
  subst he
  exact ⟨_, rfl, post_law (tb := 4) laidP rowedP fullP (by decide +kernel) rfl rfl rfl Try.underlying4 hW' hk⟩
theorem overStairRuns : Rows.stairRunsRow.holds Try.pinned (OpenSpec.ofChange Rows.stairRunsSpec) :=
  OpenClaim.holds_of_wide 11 Try.f11 rfl rfl rfl rfl rfl rfl rfl ⟨rfl, rfl, rfl, rfl, rfl⟩ rfl rfl rfl rfl rfl (by kernel_rfl) Try.func11 (by kernel_rfl)
    (of_decide_eq_true (by kernel_rfl)) (by unfold Func.isWrapper; first | (rw [if_pos (by decide +kernel)]; kernel_rfl) | (rw [if_neg (by decide +kernel)]; exact ⟨rfl, rfl⟩))
    (fun os started H enc _ => liftedStairRuns os started H enc)
theorem provedStairRuns : Rows.StairRunsSaid := overStairRuns
end Go.Proofs.Ytpfogpkocdlloaa
