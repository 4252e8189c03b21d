/- Contracts of layer 4's functions (stair): Shows. (Several texts in one.) -/
import Derived.Test.YtpfogpkocdlloaaStC
import Derived.Test.YtpfogpkocdlloaaStD
import Derived.Test.YtpfogpkocdlloaaRows
import Derived.WalkKit
import Derived.ProofKit
import Derived.OpenShut
set_option linter.unusedVariables false
set_option linter.unusedSimpArgs false
/-! Contracts of layer 4's functions (stair): Shows. -/
namespace Go.Proofs.Ytpfogpkocdlloaa
open Go.RowKit
attribute [local simp] Box.purge Site.isLoc

set_option maxRecDepth 10000
set_option linter.unusedSimpArgs false

attribute [local simp] AS.exp expG Box.ren AV.map AV.mapL outsOk noRet Site.isRet Box.allS AV.allS AV.allSL retB dropL AS.adds renL outG outOk lentBx inG fnOf lookA List.findIdx?_cons
theorem cloneU_c (l : List Int) (h0 : l ≠ []) (hl : l.length ≤ 1000000) : CallsA Try.prog 53 ([u8sP l].map .pv) [] (fun r B => r = .vec (.ret 0) 1 0 l.length ∧ B = [(.ret 0, .arr 5 1 (l.map u8P))]) := by
  obtain ⟨x, r, rfl⟩ : ∃ x r, l = x :: r := by
    cases l with
    | nil => exact absurd rfl h0
    | cons x r => exact ⟨x, r, rfl⟩
  refine calls_of_awpB [.loc 7 0] mixed L53_ok (Nat.le_of_ble_eq_true rfl) ?_
  have hl' : Nat.ble (r.length + 1) 1000000 = true := by rw [Nat.ble_eq]; simpa using hl
  have hn : nilOf QK.sl (.pv (.lst false 1 (u8P x :: List.map u8P r))) = some false := rfl
  simp [-getElem?_pos, L53, u8sP, hl', hn]
/-- A truth by which an end of a rank's span is reached; the error. -/
def St.bestP (s : St) (k : Nat) (high : Bool) : List Int × List Int := (s.endS k high).best.getD ([], [])
def St.shows (s : St) (k : Int) (high : Bool) : (List Int × List Int) × Int := if s.asked k = 0 then (((s.bestP k.toNat high).1, s.lims high (s.bestP k.toNat high).1 (s.bestP k.toNat high).2), 0) else (([], []), s.asked k)
theorem St.bestP_mem {s : St} (h : s.possible = 0) (k : Nat) (high : Bool) : s.bestP k high ∈ s.all ∧ (s.endS k high).best = some (s.bestP k high) := by
  obtain ⟨p, h1, h2⟩ := St.endS_ok h k high
  have : s.bestP k high = p := by unfold St.bestP; rw [h2]; rfl
  rw [this]
  exact ⟨h1, h2⟩
attribute [local simp] retFz frzL AS.frz AV.frz AV.frzL Box.frz AS.tidy
def showsP (r : (List Int × List Int) × Int) : PV := .tup [u8sP r.1.1, intsP r.1.2, .int .i64 r.2]
set_option maxHeartbeats 16000000 in
theorem shows_c (s : St) (hl : s.runs.length ≤ 1000000) (k : Int) (high : Bool) : CallsA Try.prog 26 ([s.pv, .int .i64 k, .bool high].map .pv) [] (fun r B => r = .pv (showsP (s.shows k high)) ∧ B = []) := by
  refine CallsA.weak2 ?_
  refine calls_of_awpF [.loc 30 0, .loc 33 0] mixed L26_ok (Nat.le_of_ble_eq_true rfl) ?_
  generalize hR : (fun (r : AV) (B : List (Site × Box)) => ∃ x, r = .pv x ∧ B = [] ∧ ∀ m v, RdP m v x → RdP m v (showsP (s.shows k high))) = R
  simp [-getElem?_pos, L26, St.pv]
  refine call_gives (k := 0) (fs := []) (xs := [s.pv, .int .i64 k]) (cs := []) rfl rfl (asked_c s hl k) rfl ?_
  cases hc : decide (s.asked k = 0)
  · have hc' : ¬ s.asked k = 0 := by simpa using hc
    simp [-getElem?_pos, hc']
    rw [← hR]
    refine ⟨_, rfl, rfl, fun m v hv => ?_⟩
    have hs : s.shows k high = (([], []), s.asked k) := by unfold St.shows; rw [if_neg hc']
    rw [hs]
    cases hv with
    | tup vs _ h0 h2 =>
      refine .tup vs _ (by simpa using h0) (fun j d c k1 k2 => ?_)
      match j with
      | 0 => simp at k2; subst k2; exact emp_lst (h2 0 d _ k1 rfl)
      | 1 => simp at k2; subst k2; exact emp_lst (h2 1 d _ k1 rfl)
      | 2 => simp at k2; subst k2; exact h2 2 d _ k1 rfl
      | j + 3 => simp at k2
  · have hc' : s.asked k = 0 := by simpa using hc
    obtain ⟨hp, hk0, hk1⟩ := St.asked0 hc'
    obtain ⟨r, rfl⟩ : ∃ r : Nat, k = r := ⟨k.toNat, by omega⟩
    have hr : r < s.runs.length := by omega
    have hch := St.possible0 hp
    obtain ⟨q1, q2, q3, _⟩ := St.check0 hch
    obtain ⟨hpa, hb⟩ := St.bestP_mem hp r high
    have hsh : s.shows (r : Int) high = (((s.bestP r high).1, s.lims high (s.bestP r high).1 (s.bestP r high).2), 0) := by unfold St.shows; rw [if_pos hc']; rfl
    rw [hsh] at hR
    generalize s.bestP r high = p at *
    obtain ⟨hp1, hp2, _, hp4⟩ := St.all_ok hch hpa
    have hJ := St.pad_junk q3 hp1 hp2
    have he := end_c s hp r hr high p hb hpa
    obtain ⟨xs, hx1, hmap⟩ : ∃ xs, hV s (s.pad p.1) (s.pad p.2) = .agg xs ∧ List.map AV.pv xs = hA s (s.pad p.1) (s.pad p.2) := ⟨_, rfl, by simp [hA]⟩
    have hA31 : (hA s (s.pad p.1) (s.pad p.2)).length = 31 := hA_len hJ.d14 hJ.l14
    have hxl : xs.length = 31 := by rw [← hA31, ← hmap, List.length_map]
    have htk : List.take 31 (hA s (s.pad p.1) (s.pad p.2)) = hA s (s.pad p.1) (s.pad p.2) := List.take_of_length_le (by omega)
    have hun : unpvs (hA s (s.pad p.1) (s.pad p.2)) = some xs := by rw [← hmap, unpvs_map]
    have hble : Nat.ble 31 (hA s (s.pad p.1) (s.pad p.2)).length = true := by rw [hA31]; rfl
    have hbeq : ((hA s (s.pad p.1) (s.pad p.2)).length == 31) = true := by rw [hA31]; rfl
    have hdid : (xs.drop 3).take s.runs.length = p.1.map u8P := by
      have hh : xs = [.int .i64 s.levels, .int .i64 s.start, .lst false 2 (s.runs.map Rn.pv)] ++ ((s.pad p.1).map u8V ++ (s.pad p.2).map i64V) := by
        have := hx1
        unfold hV at this
        injection this with this
        exact this.symm
      rw [hh]
      show List.take s.runs.length ((s.pad p.1).map u8V ++ (s.pad p.2).map i64V) = _
      rw [List.take_append_of_le_length (by rw [List.length_map, hJ.d14]; exact q3), ← List.map_take, St.pad_take hp1]
      rfl
    rw [hx1] at he
    have hm : ∀ (l : List PV) (k : Nat), List.map (AV.purge k) (l.map AV.pv) = l.map AV.pv := fun l k => by rw [List.map_map]; rfl
    have hne : p.1 ≠ [] := fun e => by rw [e] at hp1; simp at hp1; omega
    have hcl := cloneU_c p.1 hne (by omega)
    have hlm := limits_c s high (s.pad p.1) (s.pad p.2) hJ (by omega) q3 (St.pad_mem hp4)
    rw [St.pad_take hp1, St.pad_take hp2, hx1] at hlm
    have hllen : (s.lims high p.1 p.2).length = s.runs.length := by rw [St.lims_len (by omega)]; exact hp1
    have ht1 : List.take s.runs.length (p.1.map u8P) = p.1.map u8P := List.take_of_length_le (by simp [hp1])
    have ht2 : List.take s.runs.length ((s.lims high p.1 p.2).map intP) = (s.lims high p.1 p.2).map intP := List.take_of_length_le (by simp [hllen])
    rw [hp1] at hcl
    simp [-getElem?_pos, hc']
    refine .inl (call_pv [] (fs := []) (xs := [s.pv, .int .i64 r, .bool high]) (cs := []) rfl rfl he ?_)
    have hn14 : s.runs.length ≤ 14 := q3
    simp [-getElem?_pos, frzsL, hxl, -List.map_map, hm, hmap, hA31, hble, hun, htk, nble, hn14, unpvs_map, hdid]
    refine call_vec [] (fs := []) (xs := [u8sP p.1]) (cs := []) rfl rfl hcl ?_
    simp [-getElem?_pos, frzsL, -List.map_map]
    refine .inl (call_vec [] (fs := []) (xs := [.agg xs, .bool high]) (cs := []) rfl rfl hlm ?_)
    simp [-getElem?_pos, frzsL, -List.map_map]
    simp [-getElem?_pos, -List.map_map, hp1, hllen, ht1, ht2]
    rw [← hR]
    exact ⟨_, rfl, rfl, fun m v hv => hv⟩
end Go.Proofs.Ytpfogpkocdlloaa

/-! Contracts of the reference (tensileref04): Sorted. -/
namespace Go.Proofs.Ytpfogpkocdlloaa
open Go.RowKit
attribute [local simp] Box.purge Site.isLoc

set_option maxRecDepth 10000
set_option linter.unusedSimpArgs false

/-- The first i numbers are in rising order. -/
def Srt (c : List Int) (i : Nat) : Prop := ∀ (a b : Nat) (x y : Int), a < b → b < i → c[a]? = some x → c[b]? = some y → x ≤ y
/-- So are the first i + 1 but the one at k, and what stands behind that one is not less. -/
def SrtK (c : List Int) (i k : Nat) : Prop := (∀ (a b : Nat) (x y : Int), a < b → b ≤ i → a ≠ k → b ≠ k → c[a]? = some x → c[b]? = some y → x ≤ y) ∧ (∀ (j : Nat) (x y : Int), k < j → j ≤ i → c[k]? = some x → c[j]? = some y → x ≤ y)
theorem SrtK.start {c : List Int} {i : Nat} (h : Srt c i) : SrtK c i i := ⟨fun a b x y hab hb _ hbk h1 h2 => h a b x y hab (by omega) h1 h2, fun j x y h1 h2 => by omega⟩
theorem SrtK.done {c : List Int} {i k : Nat} (h : SrtK c i k) (hk : k = 0 ∨ ∃ x y : Int, c[k]? = some x ∧ c[k - 1]? = some y ∧ y ≤ x) : Srt c (i + 1) := by
  intro a b x y hab hb h1 h2
  by_cases ha : a = k
  · subst ha; exact h.2 b x y hab (by omega) h1 h2
  · by_cases hbk : b = k
    · subst hbk
      rcases hk with hk | ⟨u, v, h3, h4, h5⟩
      · omega
      · rw [h3] at h2
        injection h2 with h2
        by_cases ha1 : a = b - 1
        · rw [ha1, h4] at h1; injection h1; omega
        · have := h.1 a (b - 1) x v (by omega) (by omega) ha (by omega) h1 h4
          omega
    · exact h.1 a b x y hab (by omega) ha hbk h1 h2
theorem SrtK.step {c : List Int} {i k : Nat} (h : SrtK c i (k + 1)) (hk : k + 1 ≤ i) {x y : Int} (hx : c[k + 1]? = some x) (hy : c[k]? = some y) (hxy : x < y) : SrtK ((c.set (k + 1) y).set k x) i k := by
  have hl := (List.getElem?_eq_some_iff.1 hx).1
  have e0 : ((c.set (k + 1) y).set k x)[k]? = some x := by rw [List.getElem?_set_self (by rw [List.length_set]; omega)]
  have e1 : ((c.set (k + 1) y).set k x)[k + 1]? = some y := by rw [List.getElem?_set_ne (by omega), List.getElem?_set_self hl]
  have en : ∀ a, a ≠ k → a ≠ k + 1 → ((c.set (k + 1) y).set k x)[a]? = c[a]? := fun a h1 h2 => by rw [List.getElem?_set_ne (by omega), List.getElem?_set_ne (by omega)]
  refine ⟨fun a b u v hab hb ha hbk h1 h2 => ?_, fun j u v h1 h2 h3 h4 => ?_⟩
  · by_cases hb1 : b = k + 1
    · subst hb1
      rw [e1] at h2; injection h2 with h2
      rw [en a ha (by omega)] at h1
      have := h.1 a k u y (by omega) (by omega) (by omega) (by omega) h1 hy
      omega
    · rw [en b hbk hb1] at h2
      by_cases ha1 : a = k + 1
      · subst ha1
        rw [e1] at h1; injection h1 with h1
        have := h.1 k b y v (by omega) hb (by omega) hb1 hy h2
        omega
      · rw [en a ha ha1] at h1
        exact h.1 a b u v hab hb ha1 hb1 h1 h2
  · rw [e0] at h3; injection h3 with h3
    by_cases hj : j = k + 1
    · subst hj
      rw [e1] at h4; injection h4
      omega
    · rw [en j (by omega) hj] at h4
      have := h.2 j x v (by omega) h2 hx h4
      omega
theorem swap_perm {c : List Int} {k : Nat} {x y : Int} (hx : c[k + 1]? = some x) (hy : c[k]? = some y) : ((c.set (k + 1) y).set k x).Perm c := by
  obtain ⟨h1, rfl⟩ := List.getElem?_eq_some_iff.1 hx
  obtain ⟨h2, rfl⟩ := List.getElem?_eq_some_iff.1 hy
  exact List.set_set_perm h1 h2
theorem Srt.all {c l : List Int} (h : Srt c c.length) (hp : c.Perm l) : c = sortI l := by
  refine sorted_eq (hp.trans (sortI_perm l).symm) ?_ (sortI_sorted l)
  rw [List.pairwise_iff_getElem]
  intro a b ha hb hab
  exact h a b _ _ hab hb (List.getElem?_eq_getElem ha) (List.getElem?_eq_getElem hb)
attribute [local simp] AS.exp expG Box.ren AV.map AV.mapL outsOk noRet Site.isRet Box.allS AV.allS AV.allSL retB dropL AS.adds renL outG outOk lentBx inG fnOf lookA List.findIdx?_cons
set_option maxHeartbeats 8000000 in
theorem sorted_c (l : List Int) (h0 : l ≠ []) (hl : l.length ≤ 1000) : CallsA Try.prog 30 ([intsP l].map .pv) [] (fun r B => r = .vec (.ret 0) 1 0 l.length ∧ B = [(.ret 0, .arr 3 1 ((sortI l).map intP))]) := by
  have hn0 : 0 < l.length := by cases l with | nil => exact absurd rfl h0 | cons => simp
  refine calls_of_awpB [.loc 8 0] mixed L30_ok (Nat.le_of_ble_eq_true rfl) ?_
  have hl6 : l.length ≤ 1000000 := by omega
  simp [-getElem?_pos, L30, intsP_eq, nble, hl6]
  refine awp_loopS (fun n τ => ∃ (i : Nat) (c : List Int), i ≤ l.length ∧ n = l.length - i ∧ c.Perm l ∧ Srt c i ∧ τ = ⟨[(3, .vec (.loc 8 0) 1 0 l.length), (4, .pv (.int .i64 i))], [(.loc 8 0, .arr 3 1 (c.map intP))]⟩)
    ⟨l.length, _, Sub.mk (by simp) (by simp), 0, l, by omega, rfl, .refl _, fun a b x y _ hb => by omega, rfl⟩ ?_
  rintro J hJ n τ ⟨i, c, hi, rfl, hp, hs, rfl⟩
  have hcl : c.length = l.length := hp.length_eq
  by_cases hlt : i < l.length
  · have hw : IntKind.i64.wrap ((i : Int) + 1) = ((i + 1 : Nat) : Int) := by rw [wrap64 (by omega)]; omega
    simp [-getElem?_pos, hlt]
    refine awp_loopS (fun n τ => ∃ (k : Nat) (c : List Int), k ≤ i ∧ n = k ∧ c.Perm l ∧ SrtK c i k ∧ τ = ⟨[(3, .vec (.loc 8 0) 1 0 l.length), (4, .pv (.int .i64 i)), (5, .pv (.int .i64 k))], [(.loc 8 0, .arr 3 1 (c.map intP))]⟩)
      ⟨i, _, Sub.mk (by simp) (by simp), i, c, by omega, rfl, hp, SrtK.start hs, rfl⟩ ?_
    clear hs hcl hp c
    rintro I hI k τ ⟨_, c, hk, rfl, hp, hs, rfl⟩
    have hcl : c.length = l.length := hp.length_eq
    cases k with
    | zero =>
      have hround := hJ _ _ ⟨i + 1, c, hlt, rfl, hp, hs.done (.inl rfl), rfl⟩
      simp [-getElem?_pos, hw]
      exact ⟨_, _, (by omega : l.length - (i + 1) < l.length - i), Sub.mk (by simp) (by simp), hround⟩
    | succ k =>
      have hx : c[k + 1]? = some (c[k + 1]'(by omega)) := List.getElem?_eq_getElem _
      have hy : c[k]? = some (c[k]'(by omega)) := List.getElem?_eq_getElem _
      generalize c[k + 1]'(by omega) = x at hx
      generalize c[k]'(by omega) = y at hy
      have hg1 : (c.map intP)[k + 1]? = some (.int .i64 x) := by rw [List.getElem?_map, hx]; rfl
      have hg2 : (c.map intP)[k]? = some (.int .i64 y) := by rw [List.getElem?_map, hy]; rfl
      have hgt : decide (((k : Int) + 1) > 0) = true := decide_eq_true (by omega)
      have hw2 : IntKind.i64.wrap (k : Int) = (k : Int) := by rw [wrap64 (by omega)]
      have hb1 : k + 1 < l.length := by omega
      have hb2 : k < l.length := by omega
      by_cases hxy : x < y
      · have hround := hI _ _ ⟨k, (c.set (k + 1) y).set k x, by omega, rfl, (swap_perm hx hy).trans hp, hs.step hk hx hy hxy, rfl⟩
        simp [-getElem?_pos, -List.getElem?_map, hgt, hw2, hg1, hg2, nblt, hb1, hb2, hxy]
        exact ⟨_, _, (by omega : k < k + 1), Sub.mk (by simp) (by simp [setAt, List.map_set, intP]), hround⟩
      · have hround := hJ _ _ ⟨i + 1, c, hlt, rfl, hp, hs.done (.inr ⟨x, y, hx, hy, by omega⟩), rfl⟩
        simp [-getElem?_pos, -List.getElem?_map, hgt, hw2, hg1, hg2, nblt, hb1, hb2, hxy, hw]
        exact ⟨_, _, (by omega : l.length - (i + 1) < l.length - i), Sub.mk (by simp) (by simp), hround⟩
  · have he : i = l.length := by omega
    subst he
    rw [← hcl] at hs
    have := hs.all hp
    subst this
    simp [-getElem?_pos, hcl]
end Go.Proofs.Ytpfogpkocdlloaa

/-! Contracts of the reference (tensileref04): Bounds, Rank. -/
namespace Go.Proofs.Ytpfogpkocdlloaa
open Go.RowKit
attribute [local simp] Box.purge Site.isLoc

set_option maxRecDepth 10000
set_option linter.unusedSimpArgs false

attribute [local simp] AS.exp expG Box.ren AV.map AV.mapL outsOk noRet Site.isRet Box.allS AV.allS AV.allSL retB dropL AS.adds renL outG outOk lentBx inG fnOf lookA List.findIdx?_cons
theorem rbounds_c (s : St) (d v : Int) (hv : 0 ≤ v ∧ v ≤ 1000) : Gives Try.prog 56 [.int .i64 s.levels, .int .i64 v, .int .u8 d] (rangeP (s.bnd d v)) := by
  refine calls_of_awpS mixed L56_ok (Nat.le_of_ble_eq_true rfl) ?_
  have hw : IntKind.i64.wrap (v + 1) = v + 1 := wrap64 (by omega)
  by_cases c0 : d = 0
  · simp [-getElem?_pos, L56, c0, rangeP, St.bnd]
  · by_cases c1 : d = 1
    · simp [-getElem?_pos, L56, c1, rangeP, St.bnd, hw]
    · simp [-getElem?_pos, L56, c0, c1, rangeP, St.bnd]
def rrkM (s : St) (l E : List Int) (rank : Nat) : Nat → List (Nat × AV)
  | 0 => [(1, .pv (u8sP l)), (2, .pv (.int .i64 rank)), (3, .ptr (.loc 3 0) 0), (6, .ptr (.loc 6 0) 0), (7, .pv (intsP E)), (8, .pv (.emp (some true))), (9, .pv (.emp (some true))), (10, .pv (.int .i64 0))]
  | k + 1 => [(1, .pv (u8sP l)), (2, .pv (.int .i64 rank)), (3, .ptr (.loc 3 0) 0), (6, .ptr (.loc 6 0) 0), (7, .pv (intsP E)), (8, .vec (.loc 39 0) 1 0 (k + 1)), (9, .vec (.loc 44 0) 1 0 (k + 1)), (10, .pv (.int .i64 (k + 1 : Nat)))]
def rrkB (s : St) (l E : List Int) : Nat → List (Site × Box)
  | 0 => [(.loc 6 0, .cells [.pv (.int .i64 0), .pv (.int .i64 0)]), (.loc 3 0, .cells s.cells)]
  | k + 1 => [(.loc 44 0, .arr 3 1 ((s.lims true (l.take (k + 1)) (E.take (k + 1))).map intP)), (.loc 39 0, .arr 3 1 ((s.lims false (l.take (k + 1)) (E.take (k + 1))).map intP)), (.loc 6 0, .cells [.pv (.int .i64 0), .pv (.int .i64 0)]), (.loc 3 0, .cells s.cells)]
def rrkJ (s : St) (l E : List Int) (rank j : Nat) (r : Int × Int) : AS := ⟨(34, .pv (rangeP r)) :: (11, .ptr (.loc 11 0) 0) :: rrkM s l E rank j, (.loc 11 0, .cells [.pv (.int .i64 0), .pv (.int .i64 0)]) :: rrkB s l E j⟩
def rrkN (s : St) (l E : List Int) (rank j : Nat) (r : Int × Int) : AS := ⟨[(39, .vec (.loc 39 0) 1 0 (j + 1)), (40, if j = 0 then .pv (.emp (some true)) else .vec (.loc 44 0) 1 0 j), (43, .vec (.loc 43 0) 1 0 1), (1, .pv (u8sP l)), (2, .pv (.int .i64 rank)), (3, .ptr (.loc 3 0) 0), (6, .ptr (.loc 6 0) 0), (7, .pv (intsP E)), (10, .pv (.int .i64 j))],
    (.loc 43 0, .arr 3 1 [.int .i64 r.2]) :: (.loc 39 0, .arr 3 1 ((s.lims false (l.take j) (E.take j) ++ [r.1]).map intP)) :: (if j = 0 then [] else [(.loc 44 0, .arr 3 1 ((s.lims true (l.take j) (E.take j)).map intP))]) ++ [(.loc 6 0, .cells [.pv (.int .i64 0), .pv (.int .i64 0)]), (.loc 3 0, .cells s.cells)]⟩
attribute [local simp] retFz frzL AS.frz AV.frz AV.frzL Box.frz AS.tidy
set_option maxHeartbeats 16000000 in
theorem rrank_c (s : St) (hs : 1 ≤ s.levels ∧ s.levels ≤ 8) (hst : 0 ≤ s.start ∧ s.start ≤ s.levels - 1) (l : List Int) (h0 : l ≠ []) (hl : l.length ≤ 14) (hlv : ∀ x ∈ s.lev s.start l, 0 ≤ x ∧ x ≤ 990) (k : Nat) (a b : Int)
    (ha : (sortI (s.lims false l (s.lev s.start l)))[k]? = some a) (hb : (sortI (s.lims true l (s.lev s.start l)))[k]? = some b) :
    Gives Try.prog 55 [s.pv, u8sP l, .int .i64 k] (rangeP (a, b)) := by
  refine calls_of_awpS mixed L55_ok (Nat.le_of_ble_eq_true rfl) ?_
  simp [-getElem?_pos, L55, St.pv, u8sP]
  refine .inl (call_pv [] (fs := []) (xs := [.int .i64 s.levels, .int .i64 s.start, u8sP l]) (cs := []) rfl rfl (levels_c s (by omega) (by omega) l (by omega)) ?_)
  simp [-getElem?_pos, frzsL]
  generalize hE : s.lev s.start l = E at *
  have hEl : E.length = l.length := by rw [← hE, St.lev_len]
  refine awp_loopS (fun n τ => ∃ (j : Nat), j ≤ l.length ∧ n = l.length - j ∧ τ = ⟨rrkM s l E k j, rrkB s l E j⟩)
    ⟨l.length, _, Sub.mk (by simp [rrkM, u8sP]) (by simp [rrkB, St.cells]), 0, by omega, rfl, rfl⟩ ?_
  rintro J hJ n τ ⟨j, hj, rfl, rfl⟩
  by_cases hlt : j < l.length
  · have hlk2 : j < E.length := by omega
    have hdk : l[j]? = some l[j] := List.getElem?_eq_getElem hlt
    have hlk : E[j]? = some E[j] := List.getElem?_eq_getElem hlk2
    generalize l[j] = x at hdk
    generalize E[j] = y at hlk
    have hlm := hlv _ (List.mem_of_getElem? hlk)
    have hg1 : (l.map u8P)[j]? = some (.int .u8 x) := by rw [List.getElem?_map, hdk]; rfl
    have hg2 : (E.map intP)[j]? = some (.int .i64 y) := by rw [List.getElem?_map, hlk]; rfl
    have hw : IntKind.i64.wrap ((j : Int) + 1) = ((j + 1 : Nat) : Int) := by rw [wrap64 (by omega)]; omega
    have hround := hJ _ _ ⟨j + 1, hlt, rfl, rfl⟩
    have hc1 : s.lims false (l.take (j + 1)) (E.take (j + 1)) = s.lims false (l.take j) (E.take j) ++ [(s.bnd x y).1] := St.lims_succ hdk hlk
    have hc2 : s.lims true (l.take (j + 1)) (E.take (j + 1)) = s.lims true (l.take j) (E.take j) ++ [(s.bnd x y).2] := St.lims_succ hdk hlk
    have hbc := rbounds_c s x y (by omega)
    cases j with
    | zero =>
      simp [-getElem?_pos, -List.getElem?_map, rrkM, rrkB, St.cells, u8sP, intsP_eq, hlt, hlk2, nblt, hg1, hg2]
      refine ltS_seq (rrkJ s l E k 0 (s.bnd x y)) ?_ ?_
      · simp [-getElem?_pos, ltS_alt, ltS_no]
        refine ⟨?_, ?_⟩
        · refine call_gives (k := 0) (fs := []) (xs := [.int .i64 s.levels, .int .i64 y, .int .u8 x]) (cs := []) rfl rfl hbc rfl ?_
          simp [-getElem?_pos, ltS_alt, ltS_no]
          exact Sub.mk (by simp [rrkJ, rrkM, u8sP, intsP_eq]) (by simp [rrkJ, rrkB, St.cells])
        · refine call_gives (k := 0) (fs := []) (xs := [.int .i64 s.levels, .int .i64 y, .int .u8 x]) (cs := []) rfl rfl hbc rfl ?_
          simp [-getElem?_pos, ltS_alt, ltS_no]
          exact Sub.mk (by simp [rrkJ, rrkM, u8sP, intsP_eq]) (by simp [rrkJ, rrkB, St.cells])
      simp [-getElem?_pos, ltS_alt, ltS_no, rrkJ, rrkM, rrkB, rangeP, St.cells]
      refine ltS_seq (rrkN s l E k 0 (s.bnd x y)) ?_ ?_
      · simp [-getElem?_pos, ltS_alt, ltS_no, nble]
        repeat' (with_reducible refine And.intro ?_ ?_)
        all_goals
          refine Sub.mk ?_ ?_
          · simp [rrkN]
          · simp [rrkN, St.cells, St.lims, intP]
      simp [-getElem?_pos, ltS_alt, ltS_no, rrkN, nble, St.cells]
      have hw1 : IntKind.i64.wrap 1 = 1 := rfl
      simp [-getElem?_pos, hw1]
      refine ⟨_, _, (by omega : l.length - 1 < l.length), Sub.mk ?_ ?_, hround⟩
      · simp [rrkM]
      · have e1 : s.lims false (l.take 1) (E.take 1) = s.lims false [] [] ++ [(s.bnd x y).1] := by simpa using hc1
        have e2 : s.lims true (l.take 1) (E.take 1) = s.lims true [] [] ++ [(s.bnd x y).2] := by simpa using hc2
        simp [rrkB, e1, e2, St.cells, intP, St.lims]
    | succ j =>
      have hlt' : decide ((j : Int) + 1 < (l.length : Int)) = true := decide_eq_true (by omega)
      rw [show ((j + 1 : Nat) : Int) = (j : Int) + 1 by omega] at hw
      have hL : ∀ b, (s.lims b (l.take (j + 1)) (E.take (j + 1))).length = j + 1 := fun b => by rw [St.lims_len (by simp [List.length_take]; omega), List.length_take]; omega
      have hj6 : j + 1 + 1 ≤ 1000000 := by omega
      simp [-getElem?_pos, -List.getElem?_map, -decide_eq_true_eq, rrkM, rrkB, St.cells, u8sP, intsP_eq, hlt', hlt, hlk2, nblt, hg1, hg2]
      refine ltS_seq (rrkJ s l E k (j + 1) (s.bnd x y)) ?_ ?_
      · simp [-getElem?_pos, ltS_alt, ltS_no]
        refine ⟨?_, ?_⟩
        · refine call_gives (k := 0) (fs := []) (xs := [.int .i64 s.levels, .int .i64 y, .int .u8 x]) (cs := []) rfl rfl hbc rfl ?_
          simp [-getElem?_pos, ltS_alt, ltS_no]
          exact Sub.mk (by simp [rrkJ, rrkM, u8sP, intsP_eq]) (by simp [rrkJ, rrkB, St.cells])
        · refine call_gives (k := 0) (fs := []) (xs := [.int .i64 s.levels, .int .i64 y, .int .u8 x]) (cs := []) rfl rfl hbc rfl ?_
          simp [-getElem?_pos, ltS_alt, ltS_no]
          exact Sub.mk (by simp [rrkJ, rrkM, u8sP, intsP_eq]) (by simp [rrkJ, rrkB, St.cells])
      simp [-getElem?_pos, ltS_alt, ltS_no, rrkJ, rrkM, rrkB, rangeP, St.cells]
      refine ltS_seq (rrkN s l E k (j + 1) (s.bnd x y)) ?_ ?_
      · simp [-getElem?_pos, ltS_alt, ltS_no, nble, hj6, hL]
        repeat' (with_reducible refine And.intro ?_ ?_)
        all_goals
          refine Sub.mk ?_ ?_
          · simp [rrkN]
          · simp [rrkN, St.cells, St.lims, intP]
      simp [-getElem?_pos, ltS_alt, ltS_no, rrkN, nble, St.cells, hj6, hw, hL]
      refine ⟨_, _, (by omega : l.length - (j + 1 + 1) < l.length - (j + 1)), Sub.mk ?_ ?_, hround⟩
      · simp [rrkM]
      · simp [rrkB, hc1, hc2, St.cells, intP]
  · have he : j = l.length := by omega
    subst he
    have hll : l.length ≠ 0 := fun e => h0 (List.eq_nil_of_length_eq_zero e)
    obtain ⟨m, hm⟩ : ∃ m, l.length = m + 1 := ⟨l.length - 1, by omega⟩
    have hH : rrkM s l E k l.length = [(1, .pv (u8sP l)), (2, .pv (.int .i64 k)), (3, .ptr (.loc 3 0) 0), (6, .ptr (.loc 6 0) 0), (7, .pv (intsP E)), (8, .vec (.loc 39 0) 1 0 l.length), (9, .vec (.loc 44 0) 1 0 l.length), (10, .pv (.int .i64 l.length))] := by rw [hm]; rfl
    have hB : rrkB s l E l.length = [(.loc 44 0, .arr 3 1 ((s.lims true l E).map intP)), (.loc 39 0, .arr 3 1 ((s.lims false l E).map intP)), (.loc 6 0, .cells [.pv (.int .i64 0), .pv (.int .i64 0)]), (.loc 3 0, .cells s.cells)] := by
      have h1 : l.take l.length = l := List.take_length
      have h2 : E.take l.length = E := List.take_of_length_le (by omega)
      rw [hm] at h1 h2
      rw [hm]
      simp only [rrkB, h1, h2]
    rw [hH, hB]
    have hL : ∀ b, (s.lims b l E).length = l.length := fun b => St.lims_len (by omega)
    have hN : ∀ b, s.lims b l E ≠ [] := fun b e => by have := hL b; rw [e] at this; simp at this; omega
    have hs1 := sorted_c (s.lims false l E) (hN _) (by rw [hL]; omega)
    have hs2 := sorted_c (s.lims true l E) (hN _) (by rw [hL]; omega)
    rw [hL] at hs1 hs2
    have ht : ∀ b, ((s.lims b l E).map intP).take l.length = (s.lims b l E).map intP := fun b => List.take_of_length_le (by simp [hL])
    have hkl : k < l.length := by have := (List.getElem?_eq_some_iff.1 ha).1; rw [sortI_len, hL] at this; exact this
    have hg1 : ((sortI (s.lims false l E)).map intP)[k]? = some (.int .i64 a) := by rw [List.getElem?_map, ha]; rfl
    have hg2 : ((sortI (s.lims true l E)).map intP)[k]? = some (.int .i64 b) := by rw [List.getElem?_map, hb]; rfl
    simp [-getElem?_pos, u8sP, nblt, St.cells]
    refine call_vec [.loc 39 0] (fs := []) (xs := [intsP (s.lims false l E)]) (cs := []) rfl ?_ hs1 ?_
    · simp [frzsL, ht, intsP_eq, hL]
    simp [-getElem?_pos, -List.getElem?_map, frzsL, nblt, hkl, hg1]
    refine call_vec [.loc 44 0] (fs := []) (xs := [intsP (s.lims true l E)]) (cs := []) rfl ?_ hs2 ?_
    · simp [frzsL, ht, intsP_eq, hL]
    simp [-getElem?_pos, -List.getElem?_map, frzsL, nblt, hkl, hg2, rangeP]
end Go.Proofs.Ytpfogpkocdlloaa

/-! Contracts of the reference and the law: IsTruth, the span of a rank. -/
namespace Go.Proofs.Ytpfogpkocdlloaa
open Go.RowKit
attribute [local simp] Box.purge Site.isLoc

set_option maxRecDepth 10000
set_option linter.unusedSimpArgs false

theorem St.hist_of {s : St} (hc : s.check = 0) {p : List Int × List Int} (hp : p ∈ s.all) : s.isHist p.1 = true := by
  have h1 : p.1 ∈ s.rh s.runs [] := by rw [St.rh_all hc]; exact List.mem_map.2 ⟨p, hp, rfl⟩
  rw [St.rh_seqs] at h1
  exact (List.mem_filter.1 h1).2
/-- Limits that lie in the bounds of a history. -/
def St.fits (s : St) (p : List Int × List Int) (ls : List Int) : Prop := ls.length = s.runs.length ∧ ∀ (j : Nat) (d v x : Int), p.1[j]? = some d → p.2[j]? = some v → ls[j]? = some x → (s.bnd d v).1 ≤ x ∧ x ≤ (s.bnd d v).2
theorem St.fits_lims {s : St} (hc : s.check = 0) {p : List Int × List Int} (hp : p ∈ s.all) (high : Bool) : s.fits p (s.lims high p.1 p.2) := by
  obtain ⟨h1, h2, h3, h4⟩ := St.all_ok hc hp
  obtain ⟨h5, h6⟩ := St.all8 hc hp
  refine ⟨by rw [St.lims_len (by omega)]; exact h1, fun j d v x hd hv hx => ?_⟩
  rw [St.lims_get hd hv] at hx
  injection hx with hx
  have hb := St.lim_bounds (s := s) (d := d) (h6 v (List.mem_of_getElem? hv))
  have e1 : s.lim false d v = (s.bnd d v).1 := rfl
  have e2 : s.lim true d v = (s.bnd d v).2 := rfl
  rw [e1, e2] at hb
  cases high
  · rw [e1] at hx; omega
  · rw [e2] at hx; omega
theorem rrank_at {s : St} (hc : s.check = 0) {p : List Int × List Int} (hp : p ∈ s.all) {k : Nat} (hk : k < s.runs.length) : Gives Try.prog 55 [s.pv, u8sP p.1, .int .i64 k] (rangeP (s.rk k false p, s.rk k true p)) := by
  obtain ⟨h1, h2, h3, h4⟩ := St.all_ok hc hp
  obtain ⟨h5, h6⟩ := St.all8 hc hp
  obtain ⟨q1, q2, q3, _⟩ := St.check0 hc
  have ha := St.rk_get hc hp hk false
  have hb := St.rk_get hc hp hk true
  rw [h5] at ha hb h6
  exact rrank_c s q1 q2 p.1 (fun e => by rw [e] at h1; simp at h1; omega) (by omega) (fun x hx => by have := h6 x hx; omega) k _ _ ha hb
attribute [local simp] AS.exp expG Box.ren AV.map AV.mapL outsOk noRet Site.isRet Box.allS AV.allS AV.allSL retB dropL AS.adds renL outG outOk lentBx inG fnOf lookA List.findIdx?_cons
def truB (s : St) (l E ls : List Int) (j : Nat) : AS := ⟨[(1, .pv (u8sP l)), (2, .pv (intsP ls)), (3, .ptr (.loc 3 0) 0), (7, .pv (intsP E)), (8, .pv (.int .i64 j))], [(.loc 3 0, .cells s.cells)]⟩
def truJ (s : St) (l E ls : List Int) (j : Nat) (r : Int × Int) : AS := ⟨[(43, .pv (rangeP r)), (9, .ptr (.loc 9 0) 0), (1, .pv (u8sP l)), (2, .pv (intsP ls)), (3, .ptr (.loc 3 0) 0), (7, .pv (intsP E)), (8, .pv (.int .i64 j))], [(.loc 9 0, .cells [.pv (.int .i64 0), .pv (.int .i64 0)]), (.loc 3 0, .cells s.cells)]⟩
set_option maxHeartbeats 16000000 in
theorem istruth_c {s : St} (hc : s.check = 0) {p : List Int × List Int} (hp : p ∈ s.all) {ls : List Int} (hf : s.fits p ls) : Gives Try.prog 29 [s.pv, u8sP p.1, intsP ls] (.bool true) := by
  obtain ⟨h1, h2, h3, h4⟩ := St.all_ok hc hp
  obtain ⟨h5, h6⟩ := St.all8 hc hp
  obtain ⟨q1, q2, q3, _⟩ := St.check0 hc
  obtain ⟨hf1, hf2⟩ := hf
  have hi := isHist_c s hc p.1 (by omega)
  rw [St.hist_of hc hp] at hi
  obtain ⟨l, E⟩ := p
  dsimp only at *
  refine calls_of_awpS mixed L29_ok (Nat.le_of_ble_eq_true rfl) ?_
  simp [-getElem?_pos, L29, St.pv, u8sP, intsP_eq]
  refine call_gives (k := 0) (fs := []) (xs := [s.pv, u8sP l]) (cs := []) rfl rfl hi rfl ?_
  have hne : ls.length = l.length := by omega
  simp [-getElem?_pos, hne]
  refine .inl (call_pv [] (fs := []) (xs := [.int .i64 s.levels, .int .i64 s.start, u8sP l]) (cs := []) rfl rfl (levels_c s (by omega) (by omega) l (by omega)) ?_)
  simp [-getElem?_pos, frzsL]
  rw [← h5]
  refine awp_loopS (fun n τ => ∃ (j : Nat), j ≤ l.length ∧ n = l.length - j ∧ τ = truB s l E ls j)
    ⟨l.length, _, Sub.mk (by simp [truB, u8sP, intsP_eq]) (by simp [truB, St.cells]), 0, by omega, rfl, rfl⟩ ?_
  rintro J hJ n τ ⟨j, hj, rfl, rfl⟩
  by_cases hlt : j < l.length
  · have hlk2 : j < E.length := by omega
    have hlk3 : j < ls.length := by omega
    have hdk : l[j]? = some l[j] := List.getElem?_eq_getElem hlt
    have hlk : E[j]? = some E[j] := List.getElem?_eq_getElem hlk2
    have hzk : ls[j]? = some ls[j] := List.getElem?_eq_getElem hlk3
    generalize l[j] = x at hdk
    generalize E[j] = y at hlk
    generalize ls[j] = z at hzk
    have hfz := hf2 j x y z hdk hlk hzk
    have hlm := h4 _ (List.mem_of_getElem? hlk)
    have hg1 : (l.map u8P)[j]? = some (.int .u8 x) := by rw [List.getElem?_map, hdk]; rfl
    have hg2 : (E.map intP)[j]? = some (.int .i64 y) := by rw [List.getElem?_map, hlk]; rfl
    have hg3 : (ls.map intP)[j]? = some (.int .i64 z) := by rw [List.getElem?_map, hzk]; rfl
    have hw : IntKind.i64.wrap ((j : Int) + 1) = ((j + 1 : Nat) : Int) := by rw [wrap64 (by omega)]; omega
    have hround := hJ _ _ ⟨j + 1, hlt, rfl, rfl⟩
    have hbc := rbounds_c s x y (by omega)
    have hin := in_c z (s.bnd x y).1 (s.bnd x y).2
    have hin' : (decide ((s.bnd x y).1 ≤ z) && decide (z ≤ (s.bnd x y).2)) = true := by simp; omega
    rw [hin'] at hin
    simp [-getElem?_pos, -List.getElem?_map, truB, St.cells, u8sP, intsP_eq, hne, hlt, hlk2, hlk3, nblt, hg1, hg2, hg3]
    refine ltS_seq (truJ s l E ls j (s.bnd x y)) ?_ ?_
    · simp [-getElem?_pos, ltS_alt, ltS_no]
      refine ⟨?_, ?_⟩
      · refine call_gives (k := 0) (fs := []) (xs := [.int .i64 s.levels, .int .i64 y, .int .u8 x]) (cs := []) rfl rfl hbc rfl ?_
        simp [-getElem?_pos, ltS_alt, ltS_no]
        exact Sub.mk (by simp [truJ, u8sP, intsP_eq]) (by simp [truJ, St.cells])
      · refine call_gives (k := 0) (fs := []) (xs := [.int .i64 s.levels, .int .i64 y, .int .u8 x]) (cs := []) rfl rfl hbc rfl ?_
        simp [-getElem?_pos, ltS_alt, ltS_no]
        exact Sub.mk (by simp [truJ, u8sP, intsP_eq]) (by simp [truJ, St.cells])
    simp [-getElem?_pos, -List.getElem?_map, ltS_alt, ltS_no, truJ, rangeP, u8sP, intsP_eq, nblt, hlk3, hlt, hg3]
    refine call_gives (k := 0) (fs := []) (xs := [.int .i64 z, .int .i64 (s.bnd x y).1, .int .i64 (s.bnd x y).2]) (cs := []) rfl rfl hin rfl ?_
    simp [-getElem?_pos, hw]
    exact ⟨_, _, (by omega : l.length - (j + 1) < l.length - j), Sub.mk (by simp [truB, u8sP, intsP_eq]) (by simp [truB, St.cells]), hround⟩
  · have he : j = l.length := by omega
    subst he
    simp [-getElem?_pos, truB, u8sP, intsP_eq, hne]
end Go.Proofs.Ytpfogpkocdlloaa

/-! Contracts of the law: the span of a rank by the reference. -/
namespace Go.Proofs.Ytpfogpkocdlloaa
open Go.RowKit
attribute [local simp] Box.purge Site.isLoc

set_option maxRecDepth 10000
set_option linter.unusedSimpArgs false

attribute [local simp] AS.exp expG Box.ren AV.map AV.mapL outsOk noRet Site.isRet Box.allS AV.allS AV.allSL retB dropL AS.adds renL outG outOk lentBx inG fnOf lookA List.findIdx?_cons
/-- What the law's fold holds behind j histories. -/
def St.spanI (s : St) (rank j : Nat) (lo hi : Int) : Prop :=
  (∀ p ∈ s.all.take j, lo ≤ s.rk rank false p ∧ s.rk rank true p ≤ hi) ∧ (lo = s.levels ∨ ∃ p ∈ s.all, lo = s.rk rank false p) ∧ (hi = 0 ∨ ∃ p ∈ s.all, hi = s.rk rank true p)
theorem St.spanI_next {s : St} {rank j : Nat} {lo hi : Int} {p : List Int × List Int} (h : s.spanI rank j lo hi) (hx : s.all[j]? = some p) : s.spanI rank (j + 1) (if s.rk rank false p < lo then s.rk rank false p else lo) (if s.rk rank true p > hi then s.rk rank true p else hi) := by
  have hm : p ∈ s.all := List.mem_of_getElem? hx
  obtain ⟨h1, h2, h3⟩ := h
  refine ⟨fun q hq => ?_, ?_, ?_⟩
  · rw [List.take_add_one, hx] at hq
    rcases List.mem_append.1 hq with hq | hq
    · have := h1 q hq
      constructor <;> split <;> omega
    · simp at hq
      subst hq
      constructor <;> split <;> omega
  · split
    · exact .inr ⟨p, hm, rfl⟩
    · exact h2
  · split
    · exact .inr ⟨p, hm, rfl⟩
    · exact h3
theorem St.spanI_end {s : St} (h : s.possible = 0) {rank : Nat} (hk : rank < s.runs.length) {lo hi : Int} (hI : s.spanI rank s.all.length lo hi) : lo = (s.endS rank false).lim ∧ hi = (s.endS rank true).lim := by
  have hc := St.possible0 h
  obtain ⟨h1, h2, h3⟩ := hI
  rw [List.take_length] at h1
  obtain ⟨⟨p, hp, ep⟩, hlo⟩ := St.lo_spec h rank
  obtain ⟨⟨q, hq, eq⟩, hhi⟩ := St.hi_spec h rank
  have b1 := h1 p hp
  have b2 := h1 q hq
  have b3 := St.rk_bounds hc hp hk
  have b4 := St.rk_bounds hc hq hk
  constructor
  · rcases h2 with h2 | ⟨r, hr, h2⟩
    · omega
    · have := hlo r hr
      omega
  · rcases h3 with h3 | ⟨r, hr, h3⟩
    · omega
    · have := hhi r hr
      omega
def spnB (s : St) (rank j : Nat) (lo hi : Int) : AS := ⟨[(1, .pv (.int .i64 rank)), (2, .ptr (.loc 2 0) 0), (4, .ptr (.loc 4 0) 0), (5, .pv (rhP s)), (6, .ptr (.loc 6 0) 0), (7, .pv (.int .i64 j))], [(.loc 6 0, .cells [.pv (.int .i64 lo), .pv (.int .i64 hi)]), (.loc 4 0, .cells [.pv (.int .i64 0), .pv (.int .i64 0)]), (.loc 2 0, .cells s.cells)]⟩
def spnJ (s : St) (rank j : Nat) (lo hi : Int) (r : Int × Int) : AS := ⟨[(26, .pv (rangeP r)), (8, .ptr (.loc 8 0) 0), (1, .pv (.int .i64 rank)), (2, .ptr (.loc 2 0) 0), (4, .ptr (.loc 4 0) 0), (5, .pv (rhP s)), (6, .ptr (.loc 6 0) 0), (7, .pv (.int .i64 j))],
    [(.loc 8 0, .cells [.pv (.int .i64 0), .pv (.int .i64 0)]), (.loc 6 0, .cells [.pv (.int .i64 lo), .pv (.int .i64 hi)]), (.loc 4 0, .cells [.pv (.int .i64 0), .pv (.int .i64 0)]), (.loc 2 0, .cells s.cells)]⟩
set_option maxHeartbeats 16000000 in
theorem span_c {s : St} (hp : s.possible = 0) {rank : Nat} (hk : rank < s.runs.length) : Gives Try.prog 28 [s.pv, .int .i64 rank] (rangeP ((s.endS rank false).lim, (s.endS rank true).lim)) := by
  have hc := St.possible0 hp
  obtain ⟨q1, q2, q3, _⟩ := St.check0 hc
  have hlen : s.all.length ≤ 4782969 := by have := St.items_len q3; rw [St.items_all, List.length_map] at this; exact this
  refine calls_of_awpS mixed L28_ok (Nat.le_of_ble_eq_true rfl) ?_
  simp [-getElem?_pos, L28, St.pv]
  refine .inl (call_pv [] (fs := []) (xs := [s.pv, .emp (some true)]) (cs := []) rfl rfl (rhist_nil s hc) ?_)
  simp only [frzsL]
  simp [-getElem?_pos, -List.map_map]
  refine awp_loopS (fun n τ => ∃ (j : Nat) (lo hi : Int), j ≤ s.all.length ∧ n = s.all.length - j ∧ s.spanI rank j lo hi ∧ τ = spnB s rank j lo hi)
    ⟨s.all.length, _, Sub.mk (by simp [spnB, rhP]) (by simp [spnB, St.cells]), 0, s.levels, 0, by omega, rfl, ⟨fun p hp => by simp at hp, .inl rfl, .inl rfl⟩, rfl⟩ ?_
  rintro J hJ n τ ⟨j, lo, hi, hj, rfl, hI, rfl⟩
  by_cases hlt : j < s.all.length
  · have hx : s.all[j]? = some s.all[j] := List.getElem?_eq_getElem hlt
    have hmem : s.all[j] ∈ s.all := List.getElem_mem hlt
    generalize s.all[j] = p at hx hmem
    have hr := rrank_at hc hmem hk
    have hw : IntKind.i64.wrap ((j : Int) + 1) = ((j + 1 : Nat) : Int) := by rw [wrap64 (by omega)]; omega
    have hg : ((s.all.map (·.1)).map u8sP)[j]? = some (u8sP p.1) := by rw [List.getElem?_map, List.getElem?_map, hx]; rfl
    have hround := hJ _ _ ⟨j + 1, _, _, hlt, rfl, St.spanI_next hI hx, rfl⟩
    generalize s.rk rank false p = a at *
    generalize s.rk rank true p = b at *
    simp [-getElem?_pos, -List.getElem?_map, -List.map_map, spnB, rhP, St.cells, hlt, nblt, hg]
    refine ltS_seq (spnJ s rank j lo hi (a, b)) ?_ ?_
    · simp [-getElem?_pos, -List.map_map, ltS_alt, ltS_no]
      refine ⟨?_, ?_⟩
      · refine call_gives (k := 0) (fs := []) (xs := [s.pv, u8sP p.1, .int .i64 rank]) (cs := []) rfl rfl hr rfl ?_
        simp [-getElem?_pos, -List.map_map, ltS_alt, ltS_no]
        exact Sub.mk (by simp [spnJ, rhP]) (by simp [spnJ, St.cells])
      · refine call_gives (k := 0) (fs := []) (xs := [s.pv, u8sP p.1, .int .i64 rank]) (cs := []) rfl rfl hr rfl ?_
        simp [-getElem?_pos, -List.map_map, ltS_alt, ltS_no]
        exact Sub.mk (by simp [spnJ, rhP]) (by simp [spnJ, St.cells])
    simp [-getElem?_pos, -List.map_map, ltS_alt, ltS_no, spnJ, rangeP, St.cells, hw]
    exact ⟨_, _, (by omega : s.all.length - (j + 1) < s.all.length - j), Sub.mk (by simp [spnB, rhP]) (by simp [spnB, St.cells]), hround⟩
  · have he : j = s.all.length := by omega
    subst he
    obtain ⟨e1, e2⟩ := St.spanI_end hp hk hI
    simp [-getElem?_pos, -List.map_map, spnB, rhP, St.cells, rangeP, e1, e2]
end Go.Proofs.Ytpfogpkocdlloaa

/-! The statement StairRanks answers true. -/
namespace Go.Proofs.Ytpfogpkocdlloaa
open Go.RowKit
attribute [local simp] Box.purge Site.isLoc

set_option maxRecDepth 10000
set_option linter.unusedSimpArgs false

theorem EndS.fold_lim {s : St} {rank : Nat} {high : Bool} : ∀ (l : List (List Int × List Int)) (c : EndS), (∀ p, c.best = some p → c.lim = s.rk rank high p) → ∀ p, (l.foldl (fun c p => c.step high (s.rk rank high p) p) c).best = some p → (l.foldl (fun c p => c.step high (s.rk rank high p) p) c).lim = s.rk rank high p
  | [], c, h => h
  | q :: l, c, h => by
    refine EndS.fold_lim l _ fun p hp => ?_
    obtain ⟨best, lim⟩ := c
    cases best with
    | none =>
      simp only [EndS.step] at hp ⊢
      injection hp with hp
      rw [hp]
    | some b =>
      cases high
      · simp only [EndS.step] at hp ⊢
        by_cases hc : s.rk rank false q < lim
        · rw [if_pos hc] at hp ⊢
          injection hp with hp
          rw [hp]
        · rw [if_neg hc] at hp ⊢
          exact h p hp
      · simp only [EndS.step] at hp ⊢
        by_cases hc : s.rk rank true q > lim
        · rw [if_pos hc] at hp ⊢
          injection hp with hp
          rw [hp]
        · rw [if_neg hc] at hp ⊢
          exact h p hp
theorem St.endS_lim {s : St} {rank : Nat} {high : Bool} {p : List Int × List Int} (hb : (s.endS rank high).best = some p) : (s.endS rank high).lim = s.rk rank high p :=
  EndS.fold_lim s.all ⟨none, 0⟩ (fun p hp => by cases hp) p hb
theorem St.possible_vals {s : St} (h : ¬ s.possible = 0) : s.possible = 1 ∨ s.possible = 3 ∨ s.possible = 9 := by
  unfold St.possible at h ⊢
  split
  · rename_i hc
    rw [if_pos hc] at h
    split
    · exact .inr (.inr rfl)
    · rename_i h2
      rw [if_neg h2] at h
      exact absurd rfl h
  · rename_i hc
    unfold St.check at hc ⊢
    split
    · exact .inr (.inl rfl)
    · split
      · rename_i h1 h2
        rw [if_neg h1, if_pos h2] at hc
        exact absurd rfl hc
      · exact .inl rfl
attribute [local simp] AS.exp expG Box.ren AV.map AV.mapL outsOk noRet Site.isRet Box.allS AV.allS AV.allSL retB dropL AS.adds renL outG outOk lentBx inG fnOf lookA List.findIdx?_cons
attribute [local simp] retFz frzL AS.frz AV.frz AV.frzL Box.frz AS.tidy
set_option maxHeartbeats 16000000 in
theorem ranks_law (s : St) (k : Int) (high : Bool) : Gives Try.prog 7 [s.pv, .int .i64 k, .bool high] (.bool true) := by
  refine calls_of_awpS mixed L7_ok (Nat.le_of_ble_eq_true rfl) ?_
  simp [-getElem?_pos, L7, St.pv]
  refine call_gives (k := 0) (fs := []) (xs := [s.pv]) (cs := []) rfl rfl (thin_c s) rfl ?_
  by_cases hn : s.runs.length ≤ 20
  · have hn' : decide ((s.runs.length : Int) ≤ 20) = true := by simp; omega
    have hr := rank_c s (by omega) k
    have hsh := shows_c s (by omega) k high
    simp [-getElem?_pos, -decide_eq_true_eq, -decide_eq_false_iff_not, hn']
    refine .inl (call_pv [] (fs := []) (xs := [s.pv]) (cs := []) rfl rfl (stairs_c s (by omega)) ?_)
    simp [-getElem?_pos, frzsL]
    refine call_gives (k := 0) (fs := []) (xs := [s.pv, .int .i64 k]) (cs := []) rfl rfl hr rfl ?_
    simp [-getElem?_pos, rangeP]
    refine .inl (call_pv [] (fs := []) (xs := [s.pv]) (cs := []) rfl rfl (stairs_c s (by omega)) ?_)
    simp [-getElem?_pos, frzsL]
    refine .inl (call_pv [] (fs := []) (xs := [s.pv, .int .i64 k, .bool high]) (cs := []) rfl rfl hsh ?_)
    simp [-getElem?_pos, frzsL, showsP, -List.map_map]
    refine call_gives (k := 0) (fs := []) (xs := [s.pv]) (cs := []) rfl rfl (askedL_c s (by omega)) rfl ?_
    have hin := in_c k 0 ((s.runs.length : Int) - 1)
    have hw : IntKind.i64.wrap ((s.runs.length : Int) - 1) = (s.runs.length : Int) - 1 := by rw [wrap64 (by omega)]
    have w0 : IntKind.i64.wrap 0 = 0 := rfl
    by_cases hpo : s.possible = 0
    · by_cases hk : 0 ≤ k ∧ k ≤ (s.runs.length : Int) - 1
      · have hin' : (decide (0 ≤ k) && decide (k ≤ (s.runs.length : Int) - 1)) = true := by simp; omega
        rw [hin'] at hin
        simp [-getElem?_pos, hpo, hw]
        refine call_gives (k := 0) (fs := []) (xs := [.int .i64 k, .int .i64 0, .int .i64 ((s.runs.length : Int) - 1)]) (cs := []) rfl rfl hin rfl ?_
        obtain ⟨r, rfl⟩ : ∃ r : Nat, k = r := ⟨k.toNat, by omega⟩
        have hrl : r < s.runs.length := by omega
        have hc := St.possible0 hpo
        have ha : s.asked (r : Int) = 0 := by unfold St.asked; rw [if_pos hpo, if_pos hk]
        obtain ⟨hpa, hb⟩ := St.bestP_mem hpo r high
        have hsw : s.shows (r : Int) high = (((s.bestP r high).1, s.lims high (s.bestP r high).1 (s.bestP r high).2), 0) := by unfold St.shows; rw [if_pos ha]; rfl
        have hrk := St.rank_at hpo hrl
        have hspan := span_c hpo hrl
        have hlim := St.endS_lim hb
        generalize s.bestP r high = p at *
        obtain ⟨h1, h2, _, _⟩ := St.all_ok hc hpa
        obtain ⟨_, _, q3, _⟩ := St.check0 hc
        have htr := istruth_c hc hpa (St.fits_lims hc hpa high)
        have hL : (s.lims high p.1 p.2).length = s.runs.length := by rw [St.lims_len (by omega)]; exact h1
        have hN : s.lims high p.1 p.2 ≠ [] := fun e => by rw [e] at hL; simp at hL; omega
        have hso := sorted_c (s.lims high p.1 p.2) hN (by omega)
        have hgk := St.rk_get hc hpa hrl high
        rw [← hlim] at hgk
        have hg : ((sortI (s.lims high p.1 p.2)).map intP)[r]? = some (.int .i64 (s.endS r high).lim) := by rw [List.getElem?_map, hgk]; rfl
        rw [hL] at hso
        simp [-getElem?_pos, hrk, hsw]
        refine call_gives (k := 0) (fs := []) (xs := [s.pv, .int .i64 r]) (cs := []) rfl rfl hspan rfl ?_
        cases high
        all_goals
          simp [-getElem?_pos, -List.getElem?_map, -List.map_map, rangeP]
          refine call_gives (k := 0) (fs := []) (xs := [s.pv, u8sP p.1, intsP (s.lims _ p.1 p.2)]) (cs := []) rfl rfl htr rfl ?_
          simp [-getElem?_pos, -List.getElem?_map, -List.map_map]
          refine .inl (call_vec [] (fs := []) (xs := [intsP (s.lims _ p.1 p.2)]) (cs := []) rfl rfl hso ?_)
          simp [-getElem?_pos, -List.getElem?_map, -List.map_map, frzsL, nblt, hrl, hg]
          refine call_gives (k := 0) (fs := []) (xs := []) (cs := []) rfl rfl awake_c rfl ?_
          simp [-getElem?_pos]
      · have hin' : (decide (0 ≤ k) && decide (k ≤ (s.runs.length : Int) - 1)) = false := by simp; omega
        rw [hin'] at hin
        have ha : s.asked k = 2 := by unfold St.asked; rw [if_pos hpo, if_neg hk]
        have hrk : s.rank k = ((0, 0), 2) := by unfold St.rank; rw [ha, if_neg (by decide)]
        have hsw : s.shows k high = (([], []), 2) := by unfold St.shows; rw [ha, if_neg (by decide)]
        simp [-getElem?_pos, hpo, hw]
        refine call_gives (k := 0) (fs := []) (xs := [.int .i64 k, .int .i64 0, .int .i64 ((s.runs.length : Int) - 1)]) (cs := []) rfl rfl hin rfl ?_
        simp [-getElem?_pos, hrk, hsw, u8sP, intsP_eq, w0]
        refine call_gives (k := 0) (fs := []) (xs := []) (cs := []) rfl rfl awake_c rfl ?_
        simp [-getElem?_pos]
    · have ha : s.asked k = s.possible := by unfold St.asked; rw [if_neg hpo]
      have hrk : s.rank k = ((0, 0), s.possible) := by unfold St.rank; rw [ha, if_neg hpo]
      have hsw : s.shows k high = (([], []), s.possible) := by unfold St.shows; rw [ha, if_neg hpo]
      rw [hrk, hsw]
      clear hr hsh hrk hsw ha
      have hv := St.possible_vals hpo
      generalize s.possible = e at *
      clear hpo
      rcases hv with rfl | rfl | rfl
      all_goals
        simp [-getElem?_pos, u8sP, intsP_eq, w0]
        refine call_gives (k := 0) (fs := []) (xs := []) (cs := []) rfl rfl awake_c rfl ?_
        simp [-getElem?_pos]
  · have hn' : decide ((s.runs.length : Int) ≤ 20) = false := by simp; omega
    simp [-getElem?_pos, -decide_eq_true_eq, -decide_eq_false_iff_not, hn']
    refine call_gives (k := 0) (fs := []) (xs := []) (cs := []) rfl rfl awake_c rfl ?_
    simp [-getElem?_pos]
end Go.Proofs.Ytpfogpkocdlloaa

/-! The statement StairRanks holds: for every input the law answers true, and its argument reads behind the call as before. No conditions. -/
namespace Go.Proofs.Ytpfogpkocdlloaa
open Go.ChangeShapes Go.WideShapes Go.ChangeAt Go.RowKit

set_option maxRecDepth 100000 in
theorem walkStairRanks (v0 v1 v2 : Value) (W : World) {H : Type} {enc : TypeId × Value → H} {base : Nat} {sp : Nat → Bool} {hd : Bool} {d0 d1 d2 : DataW H} {p0 p1 p2 : List MemPlace}
    (k0 : Value.okWide Try.prog W .any base 24 v0) (h0 : DataW.Trod enc Try.prog W 0 sp hd 24 v0 d0 p0)
    (k1 : Value.okWide Try.prog W .any base 3 v1) (h1 : DataW.Trod enc Try.prog W 0 sp hd 3 v1 d1 p1)
    (k2 : Value.okWide Try.prog W .any base 4 v2) (h2 : DataW.Trod enc Try.prog W 0 sp hd 4 v2 d2 p2) :
    Calls Try.prog 7 #[v0, v1, v2] W fun e w' => e = .returned (.bool true) ∧ Keep [] W w' := by
  obtain ⟨n0, h0⟩ := h0
  obtain ⟨s0, w0, l0, r0⟩ := rd_stairs k0 h0
  obtain ⟨s1, rfl, rfl, rfl, w1⟩ := open_int Try.underlying3 k1 h1
  have w1 := kind_range w1
  obtain ⟨s2, rfl, rfl, rfl⟩ := open_bool Try.underlying4 k2 h2
  refine calls_bool (xs := [s0.pv, .int .i64 s1, .bool s2]) (b := true) ((ranks_law s0 s1 s2).mono (fun _ _ h => h.1)) rfl (fun j v x e1 e2 => ?_)
  match j with
  | 0 => simp at e1 e2; subst e1 e2; exact r0
  | 1 => simp at e1 e2; subst e1 e2; exact .int .i64 s1
  | 2 => simp at e1 e2; subst e1 e2; exact .bool s2
  | j + 3 => simp at e1
set_option maxRecDepth 100000 in
theorem liftedStairRanks (os : Os) (started : os.Started) (H : Type) (enc : TypeId × Value → H) :
    ReturnsInHanded {} Try.checked os 7 .any (Rows.stairRanksSpec.pre6 enc Try.prog Try.f7 Rows.stairRanksRow.domain false) (Rows.stairRanksSpec.post enc Try.prog Try.f7 false true false false) := by
  refine returnsInHanded_of_change (C := Try.checked) own started (by kernel_rfl) Try.func7
    (ChangeSpec.witness6 (enc := enc) (C := Try.checked) false ⟨#[], #[.agg #[.int .i64 0, .int .i64 0, .slice none 0 0], .int .i64 0, .bool false], []⟩ 8 (by kernel_rfl) (by kernel_rfl) (by kernel_rfl) (by kernel_rfl)) ?_
  intro W base args ds gs before hval0 hW hcnd _
  have hval : ∀ (j : Nat) t v, Try.f7.params[j]? = some t → args[j]? = some v → Value.okWide Try.prog W .any base t v := hval0
  have hW' := hW
  obtain ⟨p, q, hA0, hV, rfl, hfz, hnd⟩ := hW
  have hA : DataW.TrodAll enc Try.prog W 0 (fun _ => true) true Try.f7.params.toList args.toList ds p := hA0
  rw [Try.params7] at hA hval
  obtain ⟨v0, vs0, d0, ds0, p0, q0, hargs, rfl, rfl, h0, r0⟩ := trodAll_cons hA
  obtain ⟨v1, vs1, d1, ds1, p1, q1, rfl, rfl, rfl, h1, r1⟩ := trodAll_cons r0
  obtain ⟨v2, vs2, d2, ds2, p2, q2, rfl, rfl, rfl, h2, r2⟩ := trodAll_cons r1
  obtain ⟨rfl, rfl, rfl⟩ := trodAll_nil r2
  have hargs' : args = #[v0, v1, v2] := by
    apply Array.ext'
    exact hargs
  subst hargs'
  have k0 := hval 0 _ v0 rfl rfl
  have k1 := hval 1 _ v1 rfl rfl
  have k2 := hval 2 _ v2 rfl rfl
  obtain ⟨rfl, rfl⟩ := trodVars_none hV
  refine (walkStairRanks v0 v1 v2 W k0 h0 k1 h1 k2 h2).mono fun e W' ⟨he, hk⟩ => ?_
  subst he
  exact ⟨_, rfl, post_law (tb := 4) laidP rowedP fullP (by decide +kernel) rfl rfl rfl Try.underlying4 hW' hk⟩
theorem overStairRanks : Rows.stairRanksRow.holds Try.pinned (OpenSpec.ofChange Rows.stairRanksSpec) :=
  OpenClaim.holds_of_wide 7 Try.f7 rfl rfl rfl rfl rfl rfl rfl ⟨rfl, rfl, rfl, rfl, rfl⟩ rfl rfl rfl rfl rfl (by kernel_rfl) Try.func7 (by kernel_rfl)
    (of_decide_eq_true (by kernel_rfl)) (by unfold Func.isWrapper; first | (rw [if_pos (by decide +kernel)]; kernel_rfl) | (rw [if_neg (by decide +kernel)]; exact ⟨rfl, rfl⟩))
    (fun os started H enc _ => liftedStairRanks os started H enc)
theorem provedStairRanks : Rows.StairRanksSaid := overStairRanks
end Go.Proofs.Ytpfogpkocdlloaa
