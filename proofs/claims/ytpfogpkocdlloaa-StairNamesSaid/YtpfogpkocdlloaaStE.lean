/- Contracts of layer 4's functions (stair): Shows. (Several texts in one.) -/
import Derived.Test.YtpfogpkocdlloaaStC
import Derived.Test.YtpfogpkocdlloaaStA
import Derived.Test.YtpfogpkocdlloaaBaseD
import Derived.Test.YtpfogpkocdlloaaStD
set_option linter.unusedVariables false
set_option linter.unusedSimpArgs false
/-! Contracts of layer 4's functions (stair): Shows. -/
namespace Go.Proofs.Ytpfogpkocdlloaa
open Go.RowKit
attribute [local simp] Box.purge Site.isLoc

set_option maxRecDepth 10000
set_option linter.unusedSimpArgs false

attribute [local simp] AS.exp expG Box.ren AV.map AV.mapL outsOk noRet Site.isRet Box.allS AV.allS AV.allSL retB dropL AS.adds renL outG outOk lentBx inG fnOf lookA List.findIdx?_cons
theorem cloneU_c (l : List Int) (h0 : l ≠ []) (hl : l.length ≤ 1000000) : CallsA Try.prog 53 ([u8sP l].map .pv) [] (fun r B => r = .vec (.ret 0) 1 0 l.length ∧ B = [(.ret 0, .arr 5 1 (l.map u8P))]) := by
  obtain ⟨x, r, rfl⟩ : ∃ x r, l = x :: r := by
    cases l with
    | nil => exact absurd rfl h0
    | cons x r => exact ⟨x, r, rfl⟩
  refine calls_of_awpB [.loc 7 0] mixed L53_ok (Nat.le_of_ble_eq_true rfl) ?_
  have hl' : Nat.ble (r.length + 1) 1000000 = true := by rw [Nat.ble_eq]; simpa using hl
  have hn : nilOf QK.sl (.pv (.lst false 1 (u8P x :: List.map u8P r))) = some false := rfl
  simp [-getElem?_pos, L53, u8sP, hl', hn]
/-- A truth by which an end of a rank's span is reached; the error. -/
def St.bestP (s : St) (k : Nat) (high : Bool) : List Int × List Int := (s.endS k high).best.getD ([], [])
def St.shows (s : St) (k : Int) (high : Bool) : (List Int × List Int) × Int := if s.asked k = 0 then (((s.bestP k.toNat high).1, s.lims high (s.bestP k.toNat high).1 (s.bestP k.toNat high).2), 0) else (([], []), s.asked k)
theorem St.bestP_mem {s : St} (h : s.possible = 0) (k : Nat) (high : Bool) : s.bestP k high ∈ s.all ∧ (s.endS k high).best = some (s.bestP k high) := by
  obtain ⟨p, h1, h2⟩ := St.endS_ok h k high
  have : s.bestP k high = p := by unfold St.bestP; rw [h2]; rfl
  rw [this]
  exact ⟨h1, h2⟩
attribute [local simp] retFz frzL AS.frz AV.frz AV.frzL Box.frz AS.tidy
def showsP (r : (List Int × List Int) × Int) : PV := .tup [u8sP r.1.1, intsP r.1.2, .int .i64 r.2]
set_option maxHeartbeats 16000000 in
theorem shows_c (s : St) (hl : s.runs.length ≤ 1000000) (k : Int) (high : Bool) : CallsA Try.prog 26 ([s.pv, .int .i64 k, .bool high].map .pv) [] (fun r B => r = .pv (showsP (s.shows k high)) ∧ B = []) := by
  refine CallsA.weak2 ?_
  refine calls_of_awpF [.loc 30 0, .loc 33 0] mixed L26_ok (Nat.le_of_ble_eq_true rfl) ?_
  generalize hR : (fun (r : AV) (B : List (Site × Box)) => ∃ x, r = .pv x ∧ B = [] ∧ ∀ m v, RdP m v x → RdP m v (showsP (s.shows k high))) = R
  simp [-getElem?_pos, L26, St.pv]
  refine call_gives (k := 0) (fs := []) (xs := [s.pv, .int .i64 k]) (cs := []) rfl rfl (asked_c s hl k) rfl ?_
  cases hc : decide (s.asked k = 0)
  · have hc' : ¬ s.asked k = 0 := by simpa using hc
    simp [-getElem?_pos, hc']
    rw [← hR]
    refine ⟨_, rfl, rfl, fun m v hv => ?_⟩
    have hs : s.shows k high = (([], []), s.asked k) := by unfold St.shows; rw [if_neg hc']
    rw [hs]
    cases hv with
    | tup vs _ h0 h2 =>
      refine .tup vs _ (by simpa using h0) (fun j d c k1 k2 => ?_)
      match j with
      | 0 => simp at k2; subst k2; exact emp_lst (h2 0 d _ k1 rfl)
      | 1 => simp at k2; subst k2; exact emp_lst (h2 1 d _ k1 rfl)
      | 2 => simp at k2; subst k2; exact h2 2 d _ k1 rfl
      | j + 3 => simp at k2
  · have hc' : s.asked k = 0 := by simpa using hc
    obtain ⟨hp, hk0, hk1⟩ := St.asked0 hc'
    obtain ⟨r, rfl⟩ : ∃ r : Nat, k = r := ⟨k.toNat, by omega⟩
    have hr : r < s.runs.length := by omega
    have hch := St.possible0 hp
    obtain ⟨q1, q2, q3, _⟩ := St.check0 hch
    obtain ⟨hpa, hb⟩ := St.bestP_mem hp r high
    have hsh : s.shows (r : Int) high = (((s.bestP r high).1, s.lims high (s.bestP r high).1 (s.bestP r high).2), 0) := by unfold St.shows; rw [if_pos hc']; rfl
    rw [hsh] at hR
    generalize s.bestP r high = p at *
    obtain ⟨hp1, hp2, _, hp4⟩ := St.all_ok hch hpa
    have hJ := St.pad_junk q3 hp1 hp2
    have he := end_c s hp r hr high p hb hpa
    obtain ⟨xs, hx1, hmap⟩ : ∃ xs, hV s (s.pad p.1) (s.pad p.2) = .agg xs ∧ List.map AV.pv xs = hA s (s.pad p.1) (s.pad p.2) := ⟨_, rfl, by simp [hA]⟩
    have hA31 : (hA s (s.pad p.1) (s.pad p.2)).length = 31 := hA_len hJ.d14 hJ.l14
    have hxl : xs.length = 31 := by rw [← hA31, ← hmap, List.length_map]
    have htk : List.take 31 (hA s (s.pad p.1) (s.pad p.2)) = hA s (s.pad p.1) (s.pad p.2) := List.take_of_length_le (by omega)
    have hun : unpvs (hA s (s.pad p.1) (s.pad p.2)) = some xs := by rw [← hmap, unpvs_map]
    have hble : Nat.ble 31 (hA s (s.pad p.1) (s.pad p.2)).length = true := by rw [hA31]; rfl
    have hbeq : ((hA s (s.pad p.1) (s.pad p.2)).length == 31) = true := by rw [hA31]; rfl
    have hdid : (xs.drop 3).take s.runs.length = p.1.map u8P := by
      have hh : xs = [.int .i64 s.levels, .int .i64 s.start, .lst false 2 (s.runs.map Rn.pv)] ++ ((s.pad p.1).map u8V ++ (s.pad p.2).map i64V) := by
        have := hx1
        unfold hV at this
        injection this with this
        exact this.symm
      rw [hh]
      show List.take s.runs.length ((s.pad p.1).map u8V ++ (s.pad p.2).map i64V) = _
      rw [List.take_append_of_le_length (by rw [List.length_map, hJ.d14]; exact q3), ← List.map_take, St.pad_take hp1]
      rfl
    rw [hx1] at he
    have hm : ∀ (l : List PV) (k : Nat), List.map (AV.purge k) (l.map AV.pv) = l.map AV.pv := fun l k => by rw [List.map_map]; rfl
    have hne : p.1 ≠ [] := fun e => by rw [e] at hp1; simp at hp1; omega
    have hcl := cloneU_c p.1 hne (by omega)
    have hlm := limits_c s high (s.pad p.1) (s.pad p.2) hJ (by omega) q3 (St.pad_mem hp4)
    rw [St.pad_take hp1, St.pad_take hp2, hx1] at hlm
    have hllen : (s.lims high p.1 p.2).length = s.runs.length := by rw [St.lims_len (by omega)]; exact hp1
    have ht1 : List.take s.runs.length (p.1.map u8P) = p.1.map u8P := List.take_of_length_le (by simp [hp1])
    have ht2 : List.take s.runs.length ((s.lims high p.1 p.2).map intP) = (s.lims high p.1 p.2).map intP := List.take_of_length_le (by simp [hllen])
    rw [hp1] at hcl
    simp [-getElem?_pos, hc']
    refine .inl (call_pv [] (fs := []) (xs := [s.pv, .int .i64 r, .bool high]) (cs := []) rfl rfl he ?_)
    have hn14 : s.runs.length ≤ 14 := q3
    simp [-getElem?_pos, frzsL, hxl, -List.map_map, hm, hmap, hA31, hble, hun, htk, nble, hn14, unpvs_map, hdid]
    refine call_vec [] (fs := []) (xs := [u8sP p.1]) (cs := []) rfl rfl hcl ?_
    simp [-getElem?_pos, frzsL, -List.map_map]
    refine .inl (call_vec [] (fs := []) (xs := [.agg xs, .bool high]) (cs := []) rfl rfl hlm ?_)
    simp [-getElem?_pos, frzsL, -List.map_map]
    simp [-getElem?_pos, -List.map_map, hp1, hllen, ht1, ht2]
    rw [← hR]
    exact ⟨_, rfl, rfl, fun m v hv => hv⟩
end Go.Proofs.Ytpfogpkocdlloaa

/-! Contracts of the reference (tensileref04): Sorted. -/
namespace Go.Proofs.Ytpfogpkocdlloaa
open Go.RowKit
attribute [local simp] Box.purge Site.isLoc

set_option maxRecDepth 10000
set_option linter.unusedSimpArgs false

/-- The first i numbers are in rising order. -/
def Srt (c : List Int) (i : Nat) : Prop := ∀ (a b : Nat) (x y : Int), a < b → b < i → c[a]? = some x → c[b]? = some y → x ≤ y
/-- So are the first i + 1 but the one at k, and what stands behind that one is not less. -/
def SrtK (c : List Int) (i k : Nat) : Prop := (∀ (a b : Nat) (x y : Int), a < b → b ≤ i → a ≠ k → b ≠ k → c[a]? = some x → c[b]? = some y → x ≤ y) ∧ (∀ (j : Nat) (x y : Int), k < j → j ≤ i → c[k]? = some x → c[j]? = some y → x ≤ y)
theorem SrtK.start {c : List Int} {i : Nat} (h : Srt c i) : SrtK c i i := ⟨fun a b x y hab hb _ hbk h1 h2 => h a b x y hab (by omega) h1 h2, fun j x y h1 h2 => by omega⟩
theorem SrtK.done {c : List Int} {i k : Nat} (h : SrtK c i k) (hk : k = 0 ∨ ∃ x y : Int, c[k]? = some x ∧ c[k - 1]? = some y ∧ y ≤ x) : Srt c (i + 1) := by
  intro a b x y hab hb h1 h2
  by_cases ha : a = k
  · subst ha; exact h.2 b x y hab (by omega) h1 h2
  · by_cases hbk : b = k
    · subst hbk
      rcases hk with hk | ⟨u, v, h3, h4, h5⟩
      · omega
      · rw [h3] at h2
        injection h2 with h2
        by_cases ha1 : a = b - 1
        · rw [ha1, h4] at h1; injection h1; omega
        · have := h.1 a (b - 1) x v (by omega) (by omega) ha (by omega) h1 h4
          omega
    · exact h.1 a b x y hab (by omega) ha hbk h1 h2
theorem SrtK.step {c : List Int} {i k : Nat} (h : SrtK c i (k + 1)) (hk : k + 1 ≤ i) {x y : Int} (hx : c[k + 1]? = some x) (hy : c[k]? = some y) (hxy : x < y) : SrtK ((c.set (k + 1) y).set k x) i k := by
  have hl := (List.getElem?_eq_some_iff.1 hx).1
  have e0 : ((c.set (k + 1) y).set k x)[k]? = some x := by rw [List.getElem?_set_self (by rw [List.length_set]; omega)]
  have e1 : ((c.set (k + 1) y).set k x)[k + 1]? = some y := by rw [List.getElem?_set_ne (by omega), List.getElem?_set_self hl]
  have en : ∀ a, a ≠ k → a ≠ k + 1 → ((c.set (k + 1) y).set k x)[a]? = c[a]? := fun a h1 h2 => by rw [List.getElem?_set_ne (by omega), List.getElem?_set_ne (by omega)]
  refine ⟨fun a b u v hab hb ha hbk h1 h2 => ?_, fun j u v h1 h2 h3 h4 => ?_⟩
  · by_cases hb1 : b = k + 1
    · subst hb1
      rw [e1] at h2; injection h2 with h2
      rw [en a ha (by omega)] at h1
      have := h.1 a k u y (by omega) (by omega) (by omega) (by omega) h1 hy
      omega
    · rw [en b hbk hb1] at h2
      by_cases ha1 : a = k + 1
      · subst ha1
        rw [e1] at h1; injection h1 with h1
        have := h.1 k b y v (by omega) hb (by omega) hb1 hy h2
        omega
      · rw [en a ha ha1] at h1
        exact h.1 a b u v hab hb ha1 hb1 h1 h2
  · rw [e0] at h3; injection h3 with h3
    by_cases hj : j = k + 1
    · subst hj
      rw [e1] at h4; injection h4
      omega
    · rw [en j (by omega) hj] at h4
      have := h.2 j x v (by omega) h2 hx h4
      omega
theorem swap_perm {c : List Int} {k : Nat} {x y : Int} (hx : c[k + 1]? = some x) (hy : c[k]? = some y) : ((c.set (k + 1) y).set k x).Perm c := by
  obtain ⟨h1, rfl⟩ := List.getElem?_eq_some_iff.1 hx
  obtain ⟨h2, rfl⟩ := List.getElem?_eq_some_iff.1 hy
  exact List.set_set_perm h1 h2
theorem Srt.all {c l : List Int} (h : Srt c c.length) (hp : c.Perm l) : c = sortI l := by
  refine sorted_eq (hp.trans (sortI_perm l).symm) ?_ (sortI_sorted l)
  rw [List.pairwise_iff_getElem]
  intro a b ha hb hab
  exact h a b _ _ hab hb (List.getElem?_eq_getElem ha) (List.getElem?_eq_getElem hb)
attribute [local simp] AS.exp expG Box.ren AV.map AV.mapL outsOk noRet Site.isRet Box.allS AV.allS AV.allSL retB dropL AS.adds renL outG outOk lentBx inG fnOf lookA List.findIdx?_cons
set_option maxHeartbeats 8000000 in
theorem sorted_c (l : List Int) (h0 : l ≠ []) (hl : l.length ≤ 1000) : CallsA Try.prog 30 ([intsP l].map .pv) [] (fun r B => r = .vec (.ret 0) 1 0 l.length ∧ B = [(.ret 0, .arr 3 1 ((sortI l).map intP))]) := by
  have hn0 : 0 < l.length := by cases l with | nil => exact absurd rfl h0 | cons => simp
  refine calls_of_awpB [.loc 8 0] mixed L30_ok (Nat.le_of_ble_eq_true rfl) ?_
  have hl6 : l.length ≤ 1000000 := by omega
  simp [-getElem?_pos, L30, intsP_eq, nble, hl6]
  refine awp_loopS (fun n τ => ∃ (i : Nat) (c : List Int), i ≤ l.length ∧ n = l.length - i ∧ c.Perm l ∧ Srt c i ∧ τ = ⟨[(3, .vec (.loc 8 0) 1 0 l.length), (4, .pv (.int .i64 i))], [(.loc 8 0, .arr 3 1 (c.map intP))]⟩)
    ⟨l.length, _, Sub.mk (by simp) (by simp), 0, l, by omega, rfl, .refl _, fun a b x y _ hb => by omega, rfl⟩ ?_
  rintro J hJ n τ ⟨i, c, hi, rfl, hp, hs, rfl⟩
  have hcl : c.length = l.length := hp.length_eq
  by_cases hlt : i < l.length
  · have hw : IntKind.i64.wrap ((i : Int) + 1) = ((i + 1 : Nat) : Int) := by rw [wrap64 (by omega)]; omega
    simp [-getElem?_pos, hlt]
    refine awp_loopS (fun n τ => ∃ (k : Nat) (c : List Int), k ≤ i ∧ n = k ∧ c.Perm l ∧ SrtK c i k ∧ τ = ⟨[(3, .vec (.loc 8 0) 1 0 l.length), (4, .pv (.int .i64 i)), (5, .pv (.int .i64 k))], [(.loc 8 0, .arr 3 1 (c.map intP))]⟩)
      ⟨i, _, Sub.mk (by simp) (by simp), i, c, by omega, rfl, hp, SrtK.start hs, rfl⟩ ?_
    clear hs hcl hp c
    rintro I hI k τ ⟨_, c, hk, rfl, hp, hs, rfl⟩
    have hcl : c.length = l.length := hp.length_eq
    cases k with
    | zero =>
      have hround := hJ _ _ ⟨i + 1, c, hlt, rfl, hp, hs.done (.inl rfl), rfl⟩
      simp [-getElem?_pos, hw]
      exact ⟨_, _, (by omega : l.length - (i + 1) < l.length - i), Sub.mk (by simp) (by simp), hround⟩
    | succ k =>
      have hx : c[k + 1]? = some (c[k + 1]'(by omega)) := List.getElem?_eq_getElem _
      have hy : c[k]? = some (c[k]'(by omega)) := List.getElem?_eq_getElem _
      generalize c[k + 1]'(by omega) = x at hx
      generalize c[k]'(by omega) = y at hy
      have hg1 : (c.map intP)[k + 1]? = some (.int .i64 x) := by rw [List.getElem?_map, hx]; rfl
      have hg2 : (c.map intP)[k]? = some (.int .i64 y) := by rw [List.getElem?_map, hy]; rfl
      have hgt : decide (((k : Int) + 1) > 0) = true := decide_eq_true (by omega)
      have hw2 : IntKind.i64.wrap (k : Int) = (k : Int) := by rw [wrap64 (by omega)]
      have hb1 : k + 1 < l.length := by omega
      have hb2 : k < l.length := by omega
      by_cases hxy : x < y
      · have hround := hI _ _ ⟨k, (c.set (k + 1) y).set k x, by omega, rfl, (swap_perm hx hy).trans hp, hs.step hk hx hy hxy, rfl⟩
        simp [-getElem?_pos, -List.getElem?_map, hgt, hw2, hg1, hg2, nblt, hb1, hb2, hxy]
        exact ⟨_, _, (by omega : k < k + 1), Sub.mk (by simp) (by simp [setAt, List.map_set, intP]), hround⟩
      · have hround := hJ _ _ ⟨i + 1, c, hlt, rfl, hp, hs.done (.inr ⟨x, y, hx, hy, by omega⟩), rfl⟩
        simp [-getElem?_pos, -List.getElem?_map, hgt, hw2, hg1, hg2, nblt, hb1, hb2, hxy, hw]
        exact ⟨_, _, (by omega : l.length - (i + 1) < l.length - i), Sub.mk (by simp) (by simp), hround⟩
  · have he : i = l.length := by omega
    subst he
    rw [← hcl] at hs
    have := hs.all hp
    subst this
    simp [-getElem?_pos, hcl]
end Go.Proofs.Ytpfogpkocdlloaa

/-! Contracts of Go's library at bytes: Contains, Sort. -/
namespace Go.Proofs.Ytpfogpkocdlloaa
open Go.RowKit
attribute [local simp] Box.purge Site.isLoc

set_option maxRecDepth 10000
set_option linter.unusedSimpArgs false

theorem calls_every {P : Program} {f : FuncId} {xs : List PV} {y : PV} (hc : Callable P f) (h : ∀ (w : World) (m : Mem) (vs : Array Value), vs.size = xs.length → (∀ (j : Nat) (d : Value) (c : PV), vs[j]? = some d → xs[j]? = some c → RdP m d c) → Calls P f vs w (fun e w' => (∃ v, e = .returned v ∧ RdP m v y) ∧ w' = w)) : Gives P f xs y := by
  refine ⟨hc, fun w m ρ vs hB hm hsz hrd => (h w m vs (by simpa using hsz) (fun j d c k1 k2 => (hrd j d (.pv c) k1 (by rw [List.getElem?_map, k2]; rfl)).pv_inv)).mono ?_⟩
  rintro e w' ⟨⟨v, rfl, hv⟩, rfl⟩
  exact ⟨v, .pv y, [], ρ, m, rfl, ⟨rfl, rfl⟩, Bxs.nil _ _ _, Le.refl m, hm, fun _ => rfl, fun s b k hs => by simp [List.lookup] at hs, fun b o v h => .inl h, .pv _ _ hv, Keep.rfl' _ _⟩
theorem bits_c (x : Int) (h0 : 0 ≤ x) (h1 : x ≤ 18446744073709551615) : Gives Try.prog 84 [.int .u64 x] (.int .i64 (Lib.bitLen x.toNat)) := by
  refine calls_every ⟨_, _, Try.func84, by decide +kernel, rfl⟩ (fun w m vs hsz hrd => ?_)
  obtain ⟨v, rfl⟩ : ∃ v, vs = #[v] := by
    match vs, hsz with
    | ⟨[v]⟩, _ => exact ⟨v, rfl⟩
  have hv := hrd 0 v _ rfl rfl
  cases hv
  have hD : ∀ D, _ := fun D => AnyS.bits_LenInS { Try.lays189 with } D x w h0 h1
  have := calls_of_every_depth hD
  refine this.mono ?_
  rintro e w' ⟨rfl, rfl⟩
  exact ⟨⟨_, rfl, .int _ _⟩, rfl⟩
theorem nan8_c (x : Int) : Gives Try.prog 106 [.int .u8 x] (.bool false) := by
  refine calls_of_awpS mixed L106_ok (Nat.le_of_ble_eq_true rfl) ?_
  simp [-getElem?_pos, L106]
theorem less8_c (x y : Int) : Gives Try.prog 95 [.int .u8 x, .int .u8 y] (.bool (decide (x < y))) := by
  refine calls_of_awpS mixed L95_ok (Nat.le_of_ble_eq_true rfl) ?_
  simp [-getElem?_pos, L95]
  refine call_gives (k := 0) (fs := []) (xs := [.int .u8 x]) (cs := []) rfl rfl (nan8_c x) rfl ?_
  simp [-getElem?_pos]
attribute [local simp] AS.exp expG Box.ren AV.map AV.mapL outsOk noRet Site.isRet Box.allS AV.allS AV.allSL retB dropL AS.adds renL outG outOk lentBx inG fnOf lookA List.findIdx?_cons
def u8L (l : List Int) : List PV := l.map u8V
theorem u8L_get {l : List Int} {i : Nat} {x : Int} (h : l[i]? = some x) : (u8L l)[i]? = some (.int .u8 x) := by unfold u8L; rw [List.getElem?_map, h]; rfl
theorem u8L_len {l : List Int} : (u8L l).length = l.length := by unfold u8L; simp
theorem u8L_set {l : List Int} {i : Nat} {x : Int} : (u8L l).set i (.int .u8 x) = u8L (l.set i x) := by unfold u8L; rw [List.map_set]; rfl
set_option maxHeartbeats 8000000 in
theorem isort8_c (l : List Int) (h0 : l ≠ []) (hl : l.length ≤ 1000) : CallsA Try.prog 89 [.vec (.par 0) 1 0 l.length, .pv (.int .i64 0), .pv (.int .i64 l.length)] [(.par 0, .arr 5 1 (u8L l))] (fun r B => r = .pv (.tup []) ∧ B = [(.par 0, .arr 5 1 (u8L (sortI l)))]) := by
  have hn0 : 0 < l.length := by cases l with | nil => exact absurd rfl h0 | cons => simp
  refine calls_of_awpB [.par 0] mixed L89_ok (Nat.le_of_ble_eq_true rfl) ?_
  have hw0 : IntKind.i64.wrap 1 = 1 := rfl
  simp [-getElem?_pos, L89, hw0]
  refine awp_loopS (fun n τ => ∃ (i : Nat) (c : List Int), 1 ≤ i ∧ i ≤ l.length ∧ n = l.length - i ∧ c.Perm l ∧ Srt c i ∧ τ = ⟨[(0, .vec (.par 0) 1 0 l.length), (1, .pv (.int .i64 0)), (2, .pv (.int .i64 l.length)), (6, .pv (.int .i64 i))], [(.par 0, .arr 5 1 (u8L c))]⟩)
    ⟨l.length - 1, _, Sub.mk (by simp) (by simp), 1, l, by omega, by omega, by omega, .refl _, fun a b x y _ hb => by omega, rfl⟩ ?_
  rintro J hJ n τ ⟨i, c, hi1, hi, rfl, hp, hs, rfl⟩
  have hcl : c.length = l.length := hp.length_eq
  by_cases hlt : i < l.length
  · have hw : IntKind.i64.wrap ((i : Int) + 1) = ((i + 1 : Nat) : Int) := by rw [wrap64 (by omega)]; omega
    simp [-getElem?_pos, hlt]
    refine awp_loopS (fun n τ => ∃ (k : Nat) (c : List Int), k ≤ i ∧ n = k ∧ c.Perm l ∧ SrtK c i k ∧ τ = ⟨[(0, .vec (.par 0) 1 0 l.length), (1, .pv (.int .i64 0)), (2, .pv (.int .i64 l.length)), (6, .pv (.int .i64 i)), (7, .pv (.int .i64 k))], [(.par 0, .arr 5 1 (u8L c))]⟩)
      ⟨i, _, Sub.mk (by simp) (by simp), i, c, by omega, rfl, hp, SrtK.start hs, rfl⟩ ?_
    clear hs hcl hp c
    rintro I hI k τ ⟨_, c, hk, rfl, hp, hs, rfl⟩
    have hcl : c.length = l.length := hp.length_eq
    cases k with
    | zero =>
      have hround := hJ _ _ ⟨i + 1, c, by omega, hlt, rfl, hp, hs.done (.inl rfl), rfl⟩
      simp [-getElem?_pos, hw]
      exact ⟨_, _, (by omega : l.length - (i + 1) < l.length - i), Sub.mk (by simp) (by simp), hround⟩
    | succ k =>
      have hx : c[k + 1]? = some (c[k + 1]'(by omega)) := List.getElem?_eq_getElem _
      have hy : c[k]? = some (c[k]'(by omega)) := List.getElem?_eq_getElem _
      generalize c[k + 1]'(by omega) = x at hx
      generalize c[k]'(by omega) = y at hy
      have hg1 := u8L_get hx
      have hg2 := u8L_get hy
      have hgt : decide (((k : Int) + 1) > 0) = true := decide_eq_true (by omega)
      have hw2 : IntKind.i64.wrap (k : Int) = (k : Int) := by rw [wrap64 (by omega)]
      have hb1 : k + 1 < l.length := by omega
      have hb2 : k < l.length := by omega
      by_cases hxy : x < y
      · have hround := hI _ _ ⟨k, (c.set (k + 1) y).set k x, by omega, rfl, (swap_perm hx hy).trans hp, hs.step hk hx hy hxy, rfl⟩
        simp [-getElem?_pos, -List.getElem?_map, hgt, hw2, hg1, hg2, nblt, hb1, hb2]
        refine call_gives (k := 0) (fs := []) (xs := [.int .u8 x, .int .u8 y]) (cs := []) rfl rfl (less8_c x y) rfl ?_
        simp [-getElem?_pos, -List.getElem?_map, hgt, hw2, hg1, hg2, nblt, hb1, hb2, hxy]
        exact ⟨_, _, (by omega : k < k + 1), Sub.mk (by simp) (by simp [setAt, u8L_set]), hround⟩
      · have hround := hJ _ _ ⟨i + 1, c, by omega, hlt, rfl, hp, hs.done (.inr ⟨x, y, hx, hy, by omega⟩), rfl⟩
        simp [-getElem?_pos, -List.getElem?_map, hgt, hw2, hg1, hg2, nblt, hb1, hb2]
        refine call_gives (k := 0) (fs := []) (xs := [.int .u8 x, .int .u8 y]) (cs := []) rfl rfl (less8_c x y) rfl ?_
        simp [-getElem?_pos, -List.getElem?_map, hgt, hw2, hg1, hg2, nblt, hb1, hb2, hxy, hw]
        exact ⟨_, _, (by omega : l.length - (i + 1) < l.length - i), Sub.mk (by simp) (by simp), hround⟩
  · have he : i = l.length := by omega
    subst he
    rw [← hcl] at hs
    have := hs.all hp
    subst this
    simp [-getElem?_pos, hcl]
end Go.Proofs.Ytpfogpkocdlloaa

/-! Contracts of Go's library at bytes: Sort, Contains. -/
namespace Go.Proofs.Ytpfogpkocdlloaa
open Go.RowKit
attribute [local simp] Box.purge Site.isLoc

set_option maxRecDepth 10000
set_option linter.unusedSimpArgs false

attribute [local simp] AS.exp expG Box.ren AV.map AV.mapL outsOk noRet Site.isRet Box.allS AV.allS AV.allSL retB dropL AS.adds renL outG outOk lentBx inG fnOf lookA List.findIdx?_cons
set_option maxHeartbeats 8000000 in
theorem pdq8_c (l : List Int) (k : Int) (h0 : l ≠ []) (hl : l.length ≤ 12) : CallsA Try.prog 83 [.vec (.par 0) 1 0 l.length, .pv (.int .i64 0), .pv (.int .i64 l.length), .pv (.int .i64 k)] [(.par 0, .arr 5 1 (u8L l))] (fun r B => r = .pv (.tup []) ∧ B = [(.par 0, .arr 5 1 (u8L (sortI l)))]) := by
  refine calls_of_awpB [.par 0] mixed L83_ok (Nat.le_of_ble_eq_true rfl) ?_
  have hw : IntKind.i64.wrap (l.length : Int) = l.length := wrap64 (by omega)
  have hd : decide ((l.length : Int) ≤ 12) = true := decide_eq_true (by omega)
  simp [-getElem?_pos, L83, hw, hd]
  refine awp_loopS (fun n τ => n = 0 ∧ τ = ⟨[(0, .vec (.par 0) 1 0 l.length), (1, .pv (.int .i64 0)), (2, .pv (.int .i64 l.length)), (3, .pv (.int .i64 k))], [(.par 0, .arr 5 1 (u8L l))]⟩) ⟨0, _, Sub.mk (by simp) (by simp), rfl, rfl⟩ ?_
  rintro J hJ n τ ⟨rfl, rfl⟩
  simp [-getElem?_pos, hw, hd, -decide_eq_true_eq]
  refine call_lent (as' := [.vec (.par 0) 1 0 l.length, .pv (.int .i64 0), .pv (.int .i64 l.length)]) (B := [(.par 0, .arr 5 1 (u8L l))]) (fs := []) (cs := []) 200 [.par 0] ?_ rfl rfl rfl ?_ ?_ (isort8_c l h0 (by omega)) ?_
  · rfl
  · rfl
  · rfl
  rintro r0 B0 ⟨rfl, rfl⟩
  refine ⟨rfl, by simp, ?_⟩
  simp [-getElem?_pos]
set_option maxHeartbeats 8000000 in
theorem sort8_c (l : List Int) (h0 : l ≠ []) (hl : l.length ≤ 12) : CallsA Try.prog 67 [.vec (.par 0) 1 0 l.length] [(.par 0, .arr 5 1 (u8L l))] (fun r B => r = .pv (.tup []) ∧ B = [(.par 0, .arr 5 1 (u8L (sortI l)))]) := by
  refine calls_of_awpB [.par 0] mixed L67_ok (Nat.le_of_ble_eq_true rfl) ?_
  have hw : IntKind.u64.wrap (l.length : Int) = l.length := by rw [IntKind.wrap_u64]; omega
  simp [-getElem?_pos, L67, hw]
  refine call_gives (k := 0) (fs := []) (xs := [.int .u64 l.length]) (cs := []) rfl rfl (bits_c l.length (by omega) (by omega)) rfl ?_
  simp [-getElem?_pos]
  refine call_lent (as' := [.vec (.par 0) 1 0 l.length, .pv (.int .i64 0), .pv (.int .i64 l.length), .pv (.int .i64 (Lib.bitLen l.length))]) (B := [(.par 0, .arr 5 1 (u8L l))]) (fs := []) (cs := []) 200 [.par 0] ?_ rfl rfl rfl ?_ ?_ (pdq8_c l _ h0 hl) ?_
  · rfl
  · rfl
  · rfl
  rintro r0 B0 ⟨rfl, rfl⟩
  refine ⟨rfl, by simp, ?_⟩
  simp [-getElem?_pos]
/-- Where a byte stands first. -/
def idx8 (x : Int) : List Int → Nat → Int
  | [], _ => -1
  | y :: r, k => if x = y then k else idx8 x r (k + 1)
theorem idx8_has (x : Int) : ∀ (l : List Int) (k : Nat), decide (idx8 x l k ≥ 0) = l.contains x
  | [], k => rfl
  | y :: r, k => by
    unfold idx8
    by_cases h : x = y
    · simp [h]
    · rw [if_neg h, idx8_has x r (k + 1)]
      simp [h]
set_option maxHeartbeats 8000000 in
theorem index8_c (l : List Int) (x : Int) (hl : l.length ≤ 1000000) : Gives Try.prog 82 [.lst false 1 (u8L l), .int .u8 x] (.int .i64 (idx8 x l 0)) := by
  refine calls_of_awpS mixed L82_ok (Nat.le_of_ble_eq_true rfl) ?_
  simp [-getElem?_pos, L82, u8L_len]
  refine awp_loopS (fun n τ => ∃ k : Nat, k ≤ l.length ∧ n = l.length - k ∧ idx8 x l 0 = idx8 x (l.drop k) k ∧ τ = ⟨[(0, .pv (.lst false 1 (u8L l))), (1, .pv (.int .u8 x)), (7, .pv (.int .i64 l.length)), (8, .pv (.int .i64 k))], []⟩)
    ⟨l.length, _, Sub.mk (by simp) (by simp), 0, by omega, rfl, rfl, rfl⟩ ?_
  rintro J hJ n τ ⟨k, hk, rfl, he, rfl⟩
  by_cases hlt : k < l.length
  · have hx : l[k]? = some (l[k]) := List.getElem?_eq_getElem hlt
    have hdr : l.drop k = l[k] :: l.drop (k + 1) := List.drop_eq_getElem_cons hlt
    generalize l[k] = y at hx hdr
    have hg := u8L_get hx
    have hw : IntKind.i64.wrap ((k : Int) + 1) = ((k + 1 : Nat) : Int) := by rw [wrap64 (by omega)]; omega
    rw [hdr, idx8] at he
    by_cases hxy : x = y
    · rw [if_pos hxy] at he
      subst hxy
      simp [-getElem?_pos, hlt, hg, he]
    · rw [if_neg hxy] at he
      have hround := hJ _ _ ⟨k + 1, by omega, rfl, he, rfl⟩
      simp [-getElem?_pos, hlt, hg, hxy, hw]
      exact ⟨_, _, (by omega : l.length - (k + 1) < l.length - k), Sub.mk (by simp) (by simp), hround⟩
  · have e : k = l.length := by omega
    subst e
    rw [List.drop_length] at he
    simp [-getElem?_pos, he, idx8]
theorem contains8_c (l : List Int) (x : Int) (hl : l.length ≤ 1000000) : Gives Try.prog 66 [.lst false 1 (u8L l), .int .u8 x] (.bool (l.contains x)) := by
  rw [← idx8_has x l 0]
  refine calls_of_awpS mixed L66_ok (Nat.le_of_ble_eq_true rfl) ?_
  simp [-getElem?_pos, L66]
  refine call_gives (k := 0) (fs := []) (xs := [.lst false 1 (u8L l), .int .u8 x]) (cs := []) rfl rfl (index8_c l x hl) rfl ?_
  simp [-getElem?_pos]
end Go.Proofs.Ytpfogpkocdlloaa

/-! Contracts of layer 4's functions (stair): Runs, what it does with a history. -/
namespace Go.Proofs.Ytpfogpkocdlloaa
open Go.RowKit
attribute [local simp] Box.purge Site.isLoc

set_option maxRecDepth 10000
set_option linter.unusedSimpArgs false

/-- The first k of some are changed by others. -/
def upTo {α β : Type} (f : α → β → α) (xs : List α) (ys : List β) (k : Nat) : List α := List.zipWith f (xs.take k) ys ++ xs.drop k
theorem upTo_zero {α β : Type} {f : α → β → α} {xs : List α} {ys : List β} : upTo f xs ys 0 = xs := by simp [upTo]
theorem upTo_all {α β : Type} {f : α → β → α} {xs : List α} {ys : List β} : upTo f xs ys xs.length = List.zipWith f xs ys := by simp [upTo]
theorem upTo_len {α β : Type} {f : α → β → α} {xs : List α} {ys : List β} {k : Nat} (hk : k ≤ ys.length) (hx : k ≤ xs.length) : (upTo f xs ys k).length = xs.length := by simp [upTo]; omega
theorem upTo_get {α β : Type} {f : α → β → α} {xs : List α} {ys : List β} {k : Nat} (hk : k ≤ ys.length) (hx : k ≤ xs.length) (j : Nat) (hj : k ≤ j) : (upTo f xs ys k)[j]? = xs[j]? := by
  unfold upTo
  have hl : (List.zipWith f (xs.take k) ys).length = k := by simp; omega
  rw [List.getElem?_append_right (by omega), hl, List.getElem?_drop]
  congr 1; omega
theorem upTo_lt {α β : Type} {f : α → β → α} {xs : List α} {ys : List β} {k j : Nat} {x : α} {y : β} (hj : j < k) (hx : xs[j]? = some x) (hy : ys[j]? = some y) : (upTo f xs ys k)[j]? = some (f x y) := by
  unfold upTo
  have h1 := (List.getElem?_eq_some_iff.1 hx).1
  have h2 := (List.getElem?_eq_some_iff.1 hy).1
  rw [List.getElem?_append_left (by simp; omega), List.getElem?_zipWith, List.getElem?_take_of_lt hj, hx, hy]
theorem upTo_set {α β : Type} {f : α → β → α} {xs : List α} {ys : List β} {k : Nat} {x : α} {y : β} (hx : xs[k]? = some x) (hy : ys[k]? = some y) : (upTo f xs ys k).set k (f x y) = upTo f xs ys (k + 1) := by
  have h1 := (List.getElem?_eq_some_iff.1 hx).1
  have h2 := (List.getElem?_eq_some_iff.1 hy).1
  refine List.ext_getElem? (fun j => ?_)
  by_cases e : j = k
  · subst e
    rw [List.getElem?_set_self (by rw [upTo_len (by omega) (by omega)]; exact h1), upTo_lt (by omega) hx hy]
  · rw [List.getElem?_set_ne (fun h => e h.symm)]
    by_cases h3 : j < k
    · rw [upTo_lt h3 (List.getElem?_eq_getElem (by omega)) (List.getElem?_eq_getElem (by omega)), upTo_lt (by omega) (List.getElem?_eq_getElem (by omega)) (List.getElem?_eq_getElem (by omega))]
    · rw [upTo_get (by omega) (by omega) j (by omega), upTo_get (by omega) (by omega) j (by omega)]
structure RunS where
  lv : List (Int × Int)
  rs : List (List Int)
  first : Bool
def lvS (first : Bool) (p : Int × Int) (v : Int) : Int × Int := match first with
  | true => (v, v)
  | false => (min p.1 v, max p.2 v)
def rsS (xs : List Int) (r : Int) : List Int := if xs.contains r = true then xs else xs ++ [r]
def RunS.step (n : Nat) (c : RunS) (x : PV) : RunS := ⟨List.zipWith (lvS c.first) c.lv ((lsOf x).take n), List.zipWith rsS c.rs ((dsOf x).take n), false⟩
structure RunS.ok (n : Nat) (c : RunS) : Prop where
  lv : c.lv.length = n
  rs : c.rs.length = n
  sm : ∀ xs ∈ c.rs, xs.Nodup ∧ ∀ y ∈ xs, 0 ≤ y ∧ y ≤ 2
def pairP (p : Int × Int) : PV := .agg [.int .i64 p.1, .int .i64 p.2]
def ownP (l : List Int) : RowE := .own (u8L l)
noncomputable def runX (n : Nat) (c : RunS) : List Box := [.loop (rcode Try.prog 40 0) [27] 101 [(2, .ptr (.par 1) 0), (3, .ptr (.par 2) 0), (6, .ptr (.par 3) 0)] none, .cells [.vec (.par 4) 2 0 n], .cells [.vec (.par 5) 1 0 n], .cells [.pv (.bool c.first)], .arr 28 2 (c.lv.map pairP), .rows 41 5 1 (c.rs.map ownP)]
noncomputable def runB (s : St) (d l : List Int) (n : Nat) (first : Bool) (L : List PV) (E : List RowE) : List (Site × Box) := [(.loc 7 0, .cells (hA s d l)), (.par 1, .cells [.vec (.par 4) 2 0 n]), (.par 2, .cells [.vec (.par 5) 1 0 n]), (.par 3, .cells [.pv (.bool first)]), (.par 4, .arr 28 2 L), (.par 5, .rows 41 5 1 E)]
def runT (n k : Nat) : List (Nat × AV) := [(2, .ptr (.par 1) 0), (3, .ptr (.par 2) 0), (6, .ptr (.par 3) 0), (7, .ptr (.loc 7 0) 0), (31, .pv (.int .i64 n)), (32, .pv (.int .i64 k))]
theorem cok40 : COk Try.prog (tyOf tys) L40.code := litF_ok L40_ok L40_tab
attribute [local simp] AS.exp expG Box.ren AV.map AV.mapL outsOk noRet Site.isRet Box.allS AV.allS AV.allSL retB St.cells mayF dropL AS.adds renL outG outOk lentBx inG fnOf lookA List.findIdx?_cons
theorem own_purge' {D : Nat} : RowE.map (AV.purge D) ∘ ownP = ownP := rfl
theorem own_purge {D : Nat} {l : List (List Int)} : (l.map ownP).map (RowE.map (AV.purge D)) = l.map ownP := by rw [List.map_map]; rfl
theorem nodup_small {l : List Int} (hn : l.Nodup) (h : ∀ y ∈ l, 0 ≤ y ∧ y ≤ 2) : l.length ≤ 3 := by
  match l with
  | [] | [_] | [_, _] | [_, _, _] => simp
  | a :: b :: c :: d :: r =>
    have h1 := h a (by simp)
    have h2 := h b (by simp)
    have h3 := h c (by simp)
    have h4 := h d (by simp)
    simp at hn
    omega
/-- When the greater end is asked for: with a list within, and with it outside. -/
noncomputable def runM1 (s : St) (d l : List Int) (n : Nat) (first : Bool) (L : List PV) (E : List RowE) (hi v : Int) (k : Nat) (a : Int) : AS :=
  ⟨[(8, .pv (.int .i64 k)), (9, .pv (.int .i64 v)), (46, .vec (.par 4) 2 0 n), (47, .pv (.int .i64 k)), (55, .pv (.int .i64 a)), (62, .vec (.loc 62 0) 1 0 2)] ++ runT n k, (.loc 62 0, .arr 3 1 [.int .i64 hi, .int .i64 v]) :: runB s d l n first L E⟩
noncomputable def runM (s : St) (d l : List Int) (n : Nat) (first : Bool) (L : List PV) (E : List RowE) (q : List Int) (hi v : Int) (k : Nat) (a : Int) : AS :=
  ⟨[(8, .pv (.int .i64 k)), (9, .pv (.int .i64 v)), (46, .vec (.par 4) 2 0 n), (47, .pv (.int .i64 k)), (55, .pv (.int .i64 a)), (62, .vec (.loc 62 0) 1 0 2)] ++ runT n k, (.loc 62 0, .arr 3 1 [.int .i64 hi, .int .i64 v]) :: (.loc 200 0, .arr 5 1 (u8L q)) :: runB s d l n first L E⟩
theorem runM_out (s : St) (d l : List Int) (n : Nat) (first : Bool) (L : List PV) (E : List RowE) (q : List Int) (hi v : Int) (k : Nat) (a : Int) (hEk : E[k]? = some (ownP q)) (hEp : ∀ D, E.map (RowE.map (AV.purge D)) = E) :
    Sub (runM s d l n first L (E.set k (.av (.vec (.loc 200 0) 1 0 q.length))) q hi v k a) (runM1 s d l n first L E hi v k a) := by
  refine (Sub.mk ?_ ?_).trans' (rows_out (σ := runM1 s d l n first L E hi v k a) 200 (s := .par 5) (e := 41) (e2 := 5) (n := 1) (i := k) (els := E) (xs := u8L q) ?_ hEk)
  · simp [runM1, runT, runB]
  · simp [runM1, runT, runB, hA_purge, hEp, u8L_len]
  · simp [runM1, runT, runB, hEp]
/-- When all of a run is done, with its list outside. -/
noncomputable def runE (s : St) (d l : List Int) (n : Nat) (first : Bool) (L : List PV) (E : List RowE) (q : List Int) (D k : Nat) : AS := ⟨runT n k, (.loc D 0, .arr 5 1 (u8L q)) :: runB s d l n first L E⟩
theorem runE_in (s : St) (d l : List Int) (n : Nat) (first : Bool) (L : List PV) (E : List RowE) (q : List Int) (D k j : Nat) (hD : 50 ≤ D) (hE : E[j]? = some (.av (.vec (.loc D 0) 1 0 q.length))) :
    Sub ⟨runT n k, runB s d l n first L (E.set j (ownP q))⟩ (runE s d l n first L E q D k) := by
  have h7 : (D == 7) = false := by simp; omega
  have h7' : ¬ (7 = D) := by omega
  refine (Sub.mk ?_ ?_).trans' (rows_in (σ := runE s d l n first L E q D k) (s := .par 5) (s' := .loc D 0) (e := 41) (e2 := 5) (n := 1) (i := j) (els := E) (xs := u8L q) ?_ ?_ ?_ ?_)
  · simp [runE, runT, runB]
  · simp [runE, runT, runB, h7', ownP]
  · simp [runE, runT, runB]
  · simp [runE, runT, runB]
  · simp
  · rw [u8L_len]; exact hE
noncomputable def runA (s : St) (d l : List Int) (n : Nat) (first : Bool) (L : List PV) (E : List RowE) (q : List Int) (k : Nat) : AS := ⟨[(76, .vec (.par 5) 1 0 n), (77, .pv (.int .i64 k)), (87, .vec (.loc 87 0) 1 0 q.length)] ++ runT n k, (.loc 87 0, .arr 5 1 (u8L q)) :: runB s d l n first L E⟩
set_option maxHeartbeats 16000000 in
theorem runs_yields (s : St) (hs : s.runs.length ≤ 14) (c : RunS) (hc : c.ok s.runs.length) (x : PV) (hx : s.item x) : YieldsA Try.prog 0 [.pv x] (laid 0 (runX s.runs.length c)) (fun r B => r = .pv (.bool true) ∧ B = laid 0 (runX s.runs.length (c.step s.runs.length x))) := by
  have hcok : COk Try.prog (tyOf tys) (.rng 101 (.t 26) (rcode Try.prog 40 0) Y40_0a Y40_0b [27]) := cok40.2.2.2.2.1.2
  refine yields_of_awpS mixed hcok.1 hcok.2.1 rfl rfl (by simp) rfl ?_
  obtain ⟨d, l, hxe, hJ, hd, hl⟩ := hx.ex
  obtain ⟨xs, hx1, hmap⟩ : ∃ xs, x = .agg xs ∧ List.map AV.pv xs = hA s d l := ⟨_, hxe, by simp [hA]⟩
  have hA31 : (hA s d l).length = 31 := hA_len hJ.d14 hJ.l14
  have hxl : xs.length = 31 := by rw [← hA31, ← hmap, List.length_map]
  have htk : List.take 31 (hA s d l) = hA s d l := List.take_of_length_le (by omega)
  have htl : List.drop 31 (hA s d l) = [] := List.drop_of_length_le (by omega)
  have hbeq : ((hA s d l).length == 31) = true := by rw [hA31]; rfl
  have hble : Nat.ble 31 (hA s d l).length = true := by rw [hA31]; rfl
  have h2 : (hA s d l)[2]? = some (.pv (.lst false 2 (s.runs.map Rn.pv))) := rfl
  have hds : dsOf x = d := by rw [hxe]; exact dsOf_hV hJ.d14
  have hls : lsOf x = l := by rw [hxe]; exact lsOf_hV hJ.d14
  unfold RunS.step
  rw [hds, hls]
  obtain ⟨lv, rs, first⟩ := c
  obtain ⟨c1, c2, c3⟩ := hc
  simp only at c1 c2 c3
  obtain ⟨n, hn⟩ : ∃ n, n = s.runs.length := ⟨_, rfl⟩
  rw [← hn] at c1 c2 hs ⊢
  have hdl : (d.take n).length = n := by rw [List.length_take, hJ.d14]; omega
  have hll : (l.take n).length = n := by rw [List.length_take, hJ.l14]; omega
  subst hx1
  unfold runX
  simp only
  generalize hLF : (List.zipWith (lvS first) lv (l.take n)).map pairP = LF
  generalize hEF : (List.zipWith rsS rs (d.take n)).map ownP = EF
  simp [-getElem?_pos, Y40_0a, Y40_0b, laid, putL, hmap, hA31, hxl, htk, htl, hbeq, hble, h2, hA_purge, own_purge']
  have hL0 : ∀ k, k ≤ n → (upTo (lvS first) lv (l.take n) k).length = n := fun k hk => by rw [upTo_len (by omega) (by omega)]; exact c1
  have hE0 : ∀ k, k ≤ n → (upTo rsS rs (d.take n) k).length = n := fun k hk => by rw [upTo_len (by omega) (by omega)]; exact c2
  refine awp_loopS (fun m τ => ∃ k : Nat, k ≤ n ∧ m = n - k ∧ τ = ⟨runT n k, runB s d l n first ((upTo (lvS first) lv (l.take n) k).map pairP) ((upTo rsS rs (d.take n) k).map ownP)⟩)
    ⟨n, _, Sub.mk (by simp [runT, hn]) (by simp [runB, upTo_zero]), 0, by omega, rfl, rfl⟩ ?_
  rintro J hJl m τ ⟨k, hk, rfl, rfl⟩
  by_cases hlt : k < n
  · obtain ⟨r, hdk⟩ : ∃ r, d[k]? = some r := ⟨d[k]'(by have := hJ.d14; omega), List.getElem?_eq_getElem _⟩
    obtain ⟨v, hlk⟩ : ∃ v, l[k]? = some v := ⟨l[k]'(by have := hJ.l14; omega), List.getElem?_eq_getElem _⟩
    obtain ⟨p, hpk⟩ : ∃ p, lv[k]? = some p := ⟨lv[k]'(by omega), List.getElem?_eq_getElem _⟩
    obtain ⟨q, hqk⟩ : ∃ q, rs[k]? = some q := ⟨rs[k]'(by omega), List.getElem?_eq_getElem _⟩
    have hg1 : (hA s d l)[3 + k]? = some (.pv (.int .u8 r)) := hA_d hdk
    have hg2 : (hA s d l)[17 + k]? = some (.pv (.int .i64 v)) := hA_l hJ.d14 hlk
    have hb14 : k.blt 14 = true := by rw [Nat.blt_eq]; omega
    have hbn : k.blt n = true := by rw [Nat.blt_eq]; omega
    have hw : IntKind.i64.wrap ((k : Int) + 1) = ((k + 1 : Nat) : Int) := by rw [wrap64 (by omega)]; omega
    have hLn : (upTo (lvS first) lv (l.take n) (k + 1)).map pairP = ((upTo (lvS first) lv (l.take n) k).map pairP).set k (pairP (lvS first p v)) := by
      rw [← upTo_set hpk (by rw [List.getElem?_take_of_lt hlt]; exact hlk), List.map_set]
    have hEn : (upTo rsS rs (d.take n) (k + 1)).map ownP = ((upTo rsS rs (d.take n) k).map ownP).set k (ownP (rsS q r)) := by
      rw [← upTo_set hqk (by rw [List.getElem?_take_of_lt hlt]; exact hdk), List.map_set]
    have hround := hJl _ _ ⟨k + 1, by omega, rfl, rfl⟩
    rw [hLn, hEn] at hround
    have hLk : ((upTo (lvS first) lv (l.take n) k).map pairP)[k]? = some (pairP p) := by rw [List.getElem?_map, upTo_get (by omega) (by omega) k (by omega), hpk]; rfl
    have hEk : ((upTo rsS rs (d.take n) k).map ownP)[k]? = some (ownP q) := by rw [List.getElem?_map, upTo_get (by omega) (by omega) k (by omega), hqk]; rfl
    have hLl : ((upTo (lvS first) lv (l.take n) k).map pairP).length = n := by rw [List.length_map]; exact hL0 k hk
    have hEl : ((upTo rsS rs (d.take n) k).map ownP).length = n := by rw [List.length_map]; exact hE0 k hk
    have hEp : ∀ D, ((upTo rsS rs (d.take n) k).map ownP).map (RowE.map (AV.purge D)) = (upTo rsS rs (d.take n) k).map ownP := fun D => own_purge
    have hq := c3 q (List.mem_of_getElem? hqk)
    have hr := hd r (by rw [List.mem_iff_getElem?]; exact ⟨k, by rw [List.getElem?_take_of_lt (by omega)]; exact hdk⟩)
    generalize (upTo (lvS first) lv (l.take n) k).map pairP = L at *
    generalize (upTo rsS rs (d.take n) k).map ownP = E at *
    -- GEN (gen_runs.py)
    have b02 : Nat.blt 0 2 = true := rfl
    have b22 : Nat.ble 2 2 = true := rfl
    have b11 : Nat.blt 0 1 = true := rfl
    have hqn : q.length ≤ 1000000 := by
      have := nodup_small hq.1 hq.2; omega
    have hcon := contains8_c q r hqn
    obtain ⟨lo, hi⟩ := p
    have hE2 : (E.set k (.av (.vec (.loc 200 0) 1 0 q.length)))[k]? = some (.av (.vec (.loc 200 0) 1 0 q.length)) := List.getElem?_set_self (by omega)
    have hE2p : ∀ D, D < 150 → (E.set k (.av (.vec (.loc 200 0) 1 0 q.length))).map (RowE.map (AV.purge D)) = E.set k (.av (.vec (.loc 200 0) 1 0 q.length)) := fun D hD => by
      rw [List.map_set, hEp]
      congr 1
      simp [RowE.map, AV.purge, AV.has, Site.isLoc]
      omega
    have hE2l : (E.set k (.av (.vec (.loc 200 0) 1 0 q.length))).length = n := by rw [List.length_set]; exact hEl
    have hqt : (u8L q).take q.length = u8L q := List.take_of_length_le (by rw [u8L_len]; omega)
    have hset : (E.set k (.av (.vec (.loc 200 0) 1 0 q.length))).set k (ownP (rsS q r)) = E.set k (ownP (rsS q r)) := List.set_set ..
    cases first with
    | true =>
      have hL1 : (L.set k (.agg [.int .i64 v, .int .i64 v]))[k]? = some (.agg [.int .i64 v, .int .i64 v]) := List.getElem?_set_self (by omega)
      have hLL : (L.set k (.agg [.int .i64 v, .int .i64 v])).set k (.agg [.int .i64 v, .int .i64 v]) = L.set k (pairP (lvS true (lo, hi) v)) := by rw [List.set_set]; simp [pairP, lvS]
      have hL1l : (L.set k (.agg [.int .i64 v, .int .i64 v])).length = n := by rw [List.length_set]; exact hLl
      simp [-getElem?_pos, -List.map_map, runT, runB, hlt, hb14, hbn, hg1, hg2, hA_purge, hEp, hLk, pairP, setAt, b02, b22]
      generalize (L.set k (.agg [.int .i64 v, .int .i64 v])) = L1 at *
      simp [-getElem?_pos, -List.map_map, hbn, hL1, hA_purge, hEp]
      have hsub : ∀ {σ : AS}, subB (runM1 s d l n true L1 E v v k v).bx σ → subT (runM1 s d l n true L1 E v v k v).tm σ → Sub (runM s d l n true L1 (E.set k (.av (.vec (.loc 200 0) 1 0 q.length))) q v v k v) σ := fun h1 h2 => (runM_out s d l n true L1 E q v v k v hEk hEp).trans' (Sub.mk h2 h1)
      refine ltS_seq (runM s d l n true L1 (E.set k (.av (.vec (.loc 200 0) 1 0 q.length))) q v v k v) ?_ ?_
      · simp [-getElem?_pos, -List.map_map, ltS_alt, ltS_no, hbn, hL1, hA_purge, hEp]
        repeat' (with_reducible refine And.intro ?_ ?_)
        all_goals
          refine call_give (k := 1) rfl rfl (least_c v v) rfl ?_
          simp [-getElem?_pos, -List.map_map, ltS_alt, ltS_no, hA_purge, hEp]
          refine hsub ?_ ?_
          · simp [runM1, runT, runB]
          · simp [runM1, runT, runB]
      · simp [-getElem?_pos, -List.map_map, ltS_alt, ltS_no, runM, runT, runB]
        refine call_give (k := 1) rfl rfl (greatest_c v v) rfl ?_
        simp [-getElem?_pos, -List.map_map, ltS_alt, ltS_no, hbn, hL1, b02, b22, setAt]
        rw [hLL]
        simp [-getElem?_pos, -List.map_map, hb14, hbn, hg1, hE2, hE2l]
        refine call_gives (k := 1) (fs := []) (xs := [.lst false 1 (u8L q), .int .u8 r]) (cs := []) rfl (by simp [snapW, AV.snap, AV.snap0, hqt, u8L_len]) hcon rfl ?_
        cases hc : q.contains r
        · have hrs : rsS q r = q ++ [r] := by unfold rsS; rw [hc]; rfl
          rw [hrs] at hround
          have hble1 : Nat.ble (q.length + 1) 1000000 = true := by rw [Nat.ble_eq]; have := nodup_small hq.1 hq.2; omega
          have hb1k : Nat.ble 1 1000 = true := rfl
          have hqr : u8L q ++ [PV.int .u8 r] = u8L (q ++ [r]) := by simp [u8L, u8V]
          have hsubA : ∀ {σ : AS}, subB (runA s d l n true (L.set k (pairP (lvS true (lo, hi) v))) (E.set k (.av (.vec (.loc 200 0) 1 0 q.length))) (q ++ [r]) k).bx σ → subT (runA s d l n true (L.set k (pairP (lvS true (lo, hi) v))) (E.set k (.av (.vec (.loc 200 0) 1 0 q.length))) (q ++ [r]) k).tm σ → Sub (runA s d l n true (L.set k (pairP (lvS true (lo, hi) v))) (E.set k (.av (.vec (.loc 200 0) 1 0 q.length))) (q ++ [r]) k) σ := fun h1 h2 => Sub.mk h2 h1
          simp [-getElem?_pos, -List.map_map, hb14, hbn, hg1, hE2, hE2l]
          refine ltS_seq (runA s d l n true (L.set k (pairP (lvS true (lo, hi) v))) (E.set k (.av (.vec (.loc 200 0) 1 0 q.length))) (q ++ [r]) k) ?_ ?_
          · simp [-getElem?_pos, -List.map_map, -List.map_set, ltS_alt, ltS_no, hA_purge, hE2p, u8L_len, hble1, hb1k, hqr]
            repeat' (with_reducible refine And.intro ?_ ?_)
            all_goals
              refine hsubA ?_ ?_
              · simp [runA, runT, runB]
              · simp [runA, runT, runB]
          · simp [-getElem?_pos, -List.map_map, ltS_alt, ltS_no, runA, runT, runB, hbn, hE2l, hlt, hw]
            exact ⟨_, _, (by omega : n - (k + 1) < n - k), (runE_in s d l n true (L.set k (pairP (lvS true (lo, hi) v))) ((E.set k (.av (.vec (.loc 200 0) 1 0 q.length))).set k (.av (.vec (.loc 87 0) 1 0 (q ++ [r]).length))) (q ++ [r]) 87 (k + 1) k (by omega) (List.getElem?_set_self (by rw [hE2l]; exact hlt))).trans' (Sub.mk (by simp [runE, runT]) (by simp [runE, runB])), by rw [List.set_set, List.set_set]; exact hround⟩
        · have hrs : rsS q r = q := by unfold rsS; rw [hc]; rfl
          rw [hrs] at hround
          simp [-getElem?_pos, -List.map_map, hw]
          exact ⟨_, _, (by omega : n - (k + 1) < n - k), (runE_in s d l n true (L.set k (pairP (lvS true (lo, hi) v))) (E.set k (.av (.vec (.loc 200 0) 1 0 q.length))) q 200 (k + 1) k (by omega) hE2).trans' (Sub.mk (by simp [runE, runT]) (by simp [runE, runB])), by rw [List.set_set]; exact hround⟩
    | false =>
      have hL1 : L[k]? = some (.agg [.int .i64 lo, .int .i64 hi]) := hLk
      have hLL : L.set k (.agg [.int .i64 (min lo v), .int .i64 (max hi v)]) = L.set k (pairP (lvS false (lo, hi) v)) := by rfl
      have hL1l : L.length = n := by exact hLl
      simp [-getElem?_pos, -List.map_map, runT, runB, hlt, hb14, hbn, hg1, hg2, hA_purge, hEp, hLk, pairP, setAt, b02, b22]
      have hsub : ∀ {σ : AS}, subB (runM1 s d l n false L E hi v k (min lo v)).bx σ → subT (runM1 s d l n false L E hi v k (min lo v)).tm σ → Sub (runM s d l n false L (E.set k (.av (.vec (.loc 200 0) 1 0 q.length))) q hi v k (min lo v)) σ := fun h1 h2 => (runM_out s d l n false L E q hi v k (min lo v) hEk hEp).trans' (Sub.mk h2 h1)
      refine ltS_seq (runM s d l n false L (E.set k (.av (.vec (.loc 200 0) 1 0 q.length))) q hi v k (min lo v)) ?_ ?_
      · simp [-getElem?_pos, -List.map_map, ltS_alt, ltS_no, hbn, hL1, hA_purge, hEp]
        repeat' (with_reducible refine And.intro ?_ ?_)
        all_goals
          refine call_give (k := 1) rfl rfl (least_c lo v) rfl ?_
          simp [-getElem?_pos, -List.map_map, ltS_alt, ltS_no, hA_purge, hEp]
          refine hsub ?_ ?_
          · simp [runM1, runT, runB]
          · simp [runM1, runT, runB]
      · simp [-getElem?_pos, -List.map_map, ltS_alt, ltS_no, runM, runT, runB]
        refine call_give (k := 1) rfl rfl (greatest_c hi v) rfl ?_
        simp [-getElem?_pos, -List.map_map, ltS_alt, ltS_no, hbn, hL1, b02, b22, setAt]
        rw [hLL]
        simp [-getElem?_pos, -List.map_map, hb14, hbn, hg1, hE2, hE2l]
        refine call_gives (k := 1) (fs := []) (xs := [.lst false 1 (u8L q), .int .u8 r]) (cs := []) rfl (by simp [snapW, AV.snap, AV.snap0, hqt, u8L_len]) hcon rfl ?_
        cases hc : q.contains r
        · have hrs : rsS q r = q ++ [r] := by unfold rsS; rw [hc]; rfl
          rw [hrs] at hround
          have hble1 : Nat.ble (q.length + 1) 1000000 = true := by rw [Nat.ble_eq]; have := nodup_small hq.1 hq.2; omega
          have hb1k : Nat.ble 1 1000 = true := rfl
          have hqr : u8L q ++ [PV.int .u8 r] = u8L (q ++ [r]) := by simp [u8L, u8V]
          have hsubA : ∀ {σ : AS}, subB (runA s d l n false (L.set k (pairP (lvS false (lo, hi) v))) (E.set k (.av (.vec (.loc 200 0) 1 0 q.length))) (q ++ [r]) k).bx σ → subT (runA s d l n false (L.set k (pairP (lvS false (lo, hi) v))) (E.set k (.av (.vec (.loc 200 0) 1 0 q.length))) (q ++ [r]) k).tm σ → Sub (runA s d l n false (L.set k (pairP (lvS false (lo, hi) v))) (E.set k (.av (.vec (.loc 200 0) 1 0 q.length))) (q ++ [r]) k) σ := fun h1 h2 => Sub.mk h2 h1
          simp [-getElem?_pos, -List.map_map, hb14, hbn, hg1, hE2, hE2l]
          refine ltS_seq (runA s d l n false (L.set k (pairP (lvS false (lo, hi) v))) (E.set k (.av (.vec (.loc 200 0) 1 0 q.length))) (q ++ [r]) k) ?_ ?_
          · simp [-getElem?_pos, -List.map_map, -List.map_set, ltS_alt, ltS_no, hA_purge, hE2p, u8L_len, hble1, hb1k, hqr]
            repeat' (with_reducible refine And.intro ?_ ?_)
            all_goals
              refine hsubA ?_ ?_
              · simp [runA, runT, runB]
              · simp [runA, runT, runB]
          · simp [-getElem?_pos, -List.map_map, ltS_alt, ltS_no, runA, runT, runB, hbn, hE2l, hlt, hw]
            exact ⟨_, _, (by omega : n - (k + 1) < n - k), (runE_in s d l n false (L.set k (pairP (lvS false (lo, hi) v))) ((E.set k (.av (.vec (.loc 200 0) 1 0 q.length))).set k (.av (.vec (.loc 87 0) 1 0 (q ++ [r]).length))) (q ++ [r]) 87 (k + 1) k (by omega) (List.getElem?_set_self (by rw [hE2l]; exact hlt))).trans' (Sub.mk (by simp [runE, runT]) (by simp [runE, runB])), by rw [List.set_set, List.set_set]; exact hround⟩
        · have hrs : rsS q r = q := by unfold rsS; rw [hc]; rfl
          rw [hrs] at hround
          simp [-getElem?_pos, -List.map_map, hw]
          exact ⟨_, _, (by omega : n - (k + 1) < n - k), (runE_in s d l n false (L.set k (pairP (lvS false (lo, hi) v))) (E.set k (.av (.vec (.loc 200 0) 1 0 q.length))) q 200 (k + 1) k (by omega) hE2).trans' (Sub.mk (by simp [runE, runT]) (by simp [runE, runB])), by rw [List.set_set]; exact hround⟩
  · have e : k = n := by omega
    subst e
    have h1 : upTo (lvS first) lv (l.take k) k = List.zipWith (lvS first) lv (l.take k) := by
      have := upTo_all (f := lvS first) (xs := lv) (ys := l.take k); rw [c1] at this; exact this
    have h2 : upTo rsS rs (d.take k) k = List.zipWith rsS rs (d.take k) := by
      have := upTo_all (f := rsS) (xs := rs) (ys := d.take k); rw [c2] at this; exact this
    rw [h1, h2, hLF, hEF]
    have hEFr : ∀ g, EF.map (RowE.map g) = EF := fun g => by rw [← hEF, List.map_map]; rfl
    have hEFa : ∀ (g : Site → Bool) (x : RowE), x ∈ EF → RowE.allS g x = true := fun g x hx => by
      rw [← hEF] at hx
      obtain ⟨y, _, rfl⟩ := List.mem_map.1 hx
      rfl
    simp [-getElem?_pos, runT, runB]
    refine ⟨[], [.par 1, .par 2, .par 3, .par 4, .par 5], rfl, rfl, by simp [frzL]; exact hEFa _, rfl, ?_⟩
    simp [frzL, hEFr]
end Go.Proofs.Ytpfogpkocdlloaa

/-! Contracts of layer 4's functions (stair): Runs. -/
namespace Go.Proofs.Ytpfogpkocdlloaa
open Go.RowKit
attribute [local simp] Box.purge Site.isLoc

set_option maxRecDepth 10000
set_option linter.unusedSimpArgs false

theorem rsS_ok {xs : List Int} {r : Int} (h : xs.Nodup ∧ ∀ y ∈ xs, 0 ≤ y ∧ y ≤ 2) (hr : 0 ≤ r ∧ r ≤ 2) : (rsS xs r).Nodup ∧ ∀ y ∈ rsS xs r, 0 ≤ y ∧ y ≤ 2 := by
  unfold rsS
  split
  · exact h
  · rename_i hc
    have hc' : r ∉ xs := by simpa using hc
    refine ⟨List.nodup_append.2 ⟨h.1, by simp, fun a ha b hb e => ?_⟩, fun y hy => ?_⟩
    · simp at hb; subst hb; subst e; exact hc' ha
    · rcases List.mem_append.1 hy with hy | hy
      · exact h.2 y hy
      · simp at hy; subst hy; exact hr
theorem rsS_ne {xs : List Int} {r : Int} : rsS xs r ≠ [] := by
  unfold rsS
  split
  · rename_i hc; intro e; rw [e] at hc; cases hc
  · simp
theorem zw_mem {α β γ : Type} {f : α → β → γ} {a : List α} {b : List β} {z : γ} (h : z ∈ List.zipWith f a b) : ∃ x ∈ a, ∃ y ∈ b, z = f x y := by
  obtain ⟨i, hi⟩ := List.mem_iff_getElem?.1 h
  rw [List.getElem?_zipWith] at hi
  cases ha : a[i]? with
  | none => simp [ha] at hi
  | some x =>
    cases hb : b[i]? with
    | none => simp [ha, hb] at hi
    | some y =>
      simp [ha, hb] at hi
      exact ⟨x, List.mem_of_getElem? ha, y, List.mem_of_getElem? hb, hi.symm⟩
theorem RunS.step_ok {s : St} (hs : s.runs.length ≤ 14) {c : RunS} (hc : c.ok s.runs.length) {x : PV} (hx : s.item x) : (c.step s.runs.length x).ok s.runs.length := by
  obtain ⟨d, l, rfl, hJ, hd, hl⟩ := hx.ex
  have e1 : dsOf (hV s d l) = d := dsOf_hV hJ.d14
  have e2 : lsOf (hV s d l) = l := lsOf_hV hJ.d14
  refine ⟨?_, ?_, fun xs hxs => ?_⟩
  · show (List.zipWith _ c.lv ((lsOf (hV s d l)).take _)).length = _
    rw [e2, List.length_zipWith, hc.lv, List.length_take, hJ.l14]; omega
  · show (List.zipWith _ c.rs ((dsOf (hV s d l)).take _)).length = _
    rw [e1, List.length_zipWith, hc.rs, List.length_take, hJ.d14]; omega
  · have hxs' : xs ∈ List.zipWith rsS c.rs ((dsOf (hV s d l)).take s.runs.length) := hxs
    rw [e1] at hxs'
    obtain ⟨a, ha, b, hb, rfl⟩ := zw_mem hxs'
    exact rsS_ok (hc.sm a ha) (hd b hb)
noncomputable def runC (s : St) (hs : s.runs.length ≤ 14) : Cons Try.prog where
  m := 6
  S := RunS
  X := runX s.runs.length
  step c x := (c.step s.runs.length x, true)
  good x := s.item x
  live c := c.ok s.runs.length
  m0 := by omega
  len _ := rfl
  cl c := by
    intro b hb
    simp [runX] at hb
    rcases hb with rfl | rfl | rfl | rfl | rfl | rfl <;> first | rfl | skip
    refine List.all_eq_true.2 (fun e he => ?_)
    obtain ⟨y, _, rfl⟩ := List.mem_map.1 he
    rfl
  goes c x hc hx _ := RunS.step_ok hs hc hx
  yields c x hc hx := runs_yields s hs c hc x hx
def RunS.path (c : RunS) (p : List Int × List Int) : RunS := ⟨List.zipWith (lvS c.first) c.lv p.2, List.zipWith rsS c.rs p.1, false⟩
def RunS.z (n : Nat) : RunS := ⟨List.replicate n (0, 0), List.replicate n [], true⟩
theorem RunS.z_ok (n : Nat) : (RunS.z n).ok n := ⟨by simp [RunS.z], by simp [RunS.z], fun xs h => by
  have : xs = [] := List.eq_of_mem_replicate h
  subst this; simp⟩
def St.runS (s : St) : RunS := s.all.foldl RunS.path (RunS.z s.runs.length)
theorem runC_run {s : St} (hs : s.runs.length ≤ 14) (h : s.check = 0) : ∀ (l : List (List Int × List Int)) (c : RunS), (∀ p ∈ l, p ∈ s.all) → (runC s hs).run c (l.map fun p => hV s (s.pad p.1) (s.pad p.2)) = (l.foldl RunS.path c, true)
  | [], c, _ => rfl
  | p :: l, c, hp => by
    have hpm := hp p (by simp)
    obtain ⟨p1, p2, _, _⟩ := St.all_ok h hpm
    have e : c.step s.runs.length (hV s (s.pad p.1) (s.pad p.2)) = c.path p := by
      have hJ := St.pad_junk (s := s) hs p1 p2
      unfold RunS.step RunS.path
      rw [dsOf_hV hJ.d14, lsOf_hV hJ.d14, St.pad_take p1, St.pad_take p2]
    have h2 := runC_run hs h l (c.path p) (fun q hq => hp q (by simp [hq]))
    rw [← e] at h2
    rw [List.foldl_cons, ← e]
    exact h2
theorem RunS.path_ok {s : St} (h : s.check = 0) {c : RunS} (hc : c.ok s.runs.length) {p : List Int × List Int} (hp : p ∈ s.all) : (c.path p).ok s.runs.length ∧ ∀ xs ∈ (c.path p).rs, xs ≠ [] := by
  obtain ⟨p1, p2, p3, _⟩ := St.all_ok h hp
  refine ⟨⟨?_, ?_, fun xs hxs => ?_⟩, fun xs hxs => ?_⟩
  · simp [RunS.path, hc.lv, p2]
  · simp [RunS.path, hc.rs, p1]
  · obtain ⟨a, ha, b, hb, rfl⟩ := zw_mem (show xs ∈ List.zipWith rsS c.rs p.1 from hxs)
    exact rsS_ok (hc.sm a ha) (p3 b hb)
  · obtain ⟨a, ha, b, hb, rfl⟩ := zw_mem (show xs ∈ List.zipWith rsS c.rs p.1 from hxs)
    exact rsS_ne
theorem RunS.fold_ok {s : St} (h : s.check = 0) : ∀ (l : List (List Int × List Int)) (c : RunS), (∀ p ∈ l, p ∈ s.all) → c.ok s.runs.length → (l.foldl RunS.path c).ok s.runs.length ∧ (l ≠ [] → ∀ xs ∈ (l.foldl RunS.path c).rs, xs ≠ [])
  | [], c, _, hc => ⟨hc, fun e => absurd rfl e⟩
  | [p], c, hp, hc => by
    obtain ⟨h1, h2⟩ := RunS.path_ok h hc (hp p (by simp))
    exact ⟨h1, fun _ => h2⟩
  | p :: q :: l, c, hp, hc => by
    obtain ⟨h1, h2⟩ := RunS.path_ok h hc (hp p (by simp))
    obtain ⟨h3, h4⟩ := RunS.fold_ok h (q :: l) (c.path p) (fun x hx => hp x (by simp at hx ⊢; exact .inr hx)) h1
    exact ⟨h3, fun _ => h4 (by simp)⟩
/-- What Runs tells. -/
def St.runsP (s : St) : PV := if s.possible = 0 then .tup [.lst false 2 (s.runS.lv.map pairP), .lst false 1 (s.runS.rs.map fun l => .lst false 1 (u8L (sortI l))), .int .i64 0] else .tup [.emp (some true), .emp (some true), .int .i64 s.possible]
def zLv (n : Nat) : List PV := (RunS.z n).lv.map pairP
def zRs (n : Nat) : List RowE := (RunS.z n).rs.map ownP
def zNil (n : Nat) : List PV := List.replicate n (.emp (some true))
theorem zNil_eq {n : Nat} : List.replicate n (PV.emp (some true)) = zNil n := rfl
theorem zRs_eq {n : Nat} : (zNil n).map (fun _ => RowE.own []) = zRs n := by
  show (List.replicate n (PV.emp (some true))).map _ = (List.replicate n []).map ownP
  rw [List.map_replicate, List.map_replicate]; rfl
theorem zLv_eq {n : Nat} : List.replicate n (PV.agg [.int .i64 0, .int .i64 0]) = zLv n := by
  show _ = (List.replicate n ((0 : Int), (0 : Int))).map pairP
  rw [List.map_replicate]; rfl
attribute [local simp] AS.exp expG Box.ren AV.map AV.mapL outsOk noRet Site.isRet Box.allS AV.allS AV.allSL retB St.cells mayF dropL AS.adds renL outG outOk lentBx inG fnOf lookA List.findIdx?_cons
attribute [local simp] retFz frzL AS.frz AV.frz AV.frzL Box.frz AS.tidy Box.live AV.live
noncomputable def rnB (s : St) (n : Nat) (E : Box) : List (Site × Box) := [(.loc 1 0, .cells s.cells), (.loc 2 0, .cells [.vec (.loc 20 0) 2 0 n]), (.loc 3 0, .cells [.pv (.emp (some true))]), (.loc 20 0, .arr 28 2 (zLv n)), (.loc 24 0, E)]
def rnT (n : Nat) : List (Nat × AV) := [(1, .ptr (.loc 1 0) 0), (2, .ptr (.loc 2 0) 0), (3, .ptr (.loc 3 0) 0), (24, .vec (.loc 24 0) 1 0 n)]
theorem rn_mk (s : St) (n : Nat) : Sub ⟨rnT n, rnB s n (.rows 41 5 1 (zRs n))⟩ ⟨rnT n, rnB s n (.arr 41 1 (zNil n))⟩ := by
  refine (Sub.mk ?_ ?_).trans' (rows_mk (σ := ⟨rnT n, rnB s n (.arr 41 1 (zNil n))⟩) 5 (s := .loc 24 0) (e := 41) (n := 1) (xs := zNil n) ?_ (fun x hx => ⟨_, List.eq_of_mem_replicate hx⟩) (by omega))
  · simp [rnT, rnB]
  · simp [rnT, rnB, zRs_eq]
  · simp [rnT, rnB]
/-- When the lists are sorted. -/
def srE (RS : List (List Int)) (k : Nat) : List RowE := (upTo (fun l _ => sortI l) RS RS k).map ownP
noncomputable def srT (n k : Nat) : List (Nat × AV) := [(2, .ptr (.loc 2 0) 0), (3, .ptr (.loc 3 0) 0), (90, .vec (.loc 24 0) 1 0 n), (91, .pv (.int .i64 n)), (92, .pv (.int .i64 k))]
noncomputable def srB (n : Nat) (LV : List (Int × Int)) (E : List RowE) : List (Site × Box) := [(.loc 2 0, .cells [.vec (.loc 20 0) 2 0 n]), (.loc 3 0, .cells [.vec (.loc 24 0) 1 0 n]), (.loc 20 0, .arr 28 2 (LV.map pairP)), (.loc 24 0, .rows 41 5 1 E)]
noncomputable def srO (n : Nat) (LV : List (Int × Int)) (E : List RowE) (q : List Int) (j k : Nat) : AS := ⟨srT n j, (.loc 200 0, .arr 5 1 (u8L q)) :: srB n LV (E.set k (.av (.vec (.loc 200 0) 1 0 q.length)))⟩
noncomputable def srH (n : Nat) (LV : List (Int × Int)) (RS : List (List Int)) (k : Nat) : AS := match RS[k]? with
  | some q => srO n LV (srE RS k) q k k
  | none => ⟨srT n k, srB n LV (srE RS k)⟩
theorem srE_get {RS : List (List Int)} {k : Nat} {q : List Int} (h : RS[k]? = some q) : (srE RS k)[k]? = some (ownP q) := by
  unfold srE
  have := (List.getElem?_eq_some_iff.1 h).1
  rw [List.getElem?_map, upTo_get (by omega) (by omega) k (by omega), h]; rfl
theorem srE_set {RS : List (List Int)} {k : Nat} {q : List Int} (h : RS[k]? = some q) : (srE RS k).set k (ownP (sortI q)) = srE RS (k + 1) := by
  unfold srE
  rw [← upTo_set (f := fun l _ => sortI l) h h, List.map_set]
theorem srE_len {RS : List (List Int)} {k : Nat} (h : k ≤ RS.length) : (srE RS k).length = RS.length := by
  unfold srE
  rw [List.length_map, upTo_len h h]
theorem srE_all {RS : List (List Int)} : srE RS RS.length = (RS.map sortI).map ownP := by
  unfold srE
  rw [upTo_all, List.zipWith_self]
theorem srE_map {RS : List (List Int)} {k : Nat} (g : AV → AV) : (srE RS k).map (RowE.map g) = srE RS k := by
  unfold srE
  rw [List.map_map]; rfl
theorem sr_fr (n : Nat) (LV : List (Int × Int)) (RS : List (List Int)) (T : List (Nat × AV)) : Sub ⟨T, [(.loc 2 0, .cells [.vec (.loc 20 0) 2 0 n]), (.loc 3 0, .cells [.vec (.loc 24 0) 1 0 n]), (.loc 20 0, .arr 28 2 (LV.map pairP)), (.loc 24 0, .arr 41 1 (RS.map fun l => .lst false 1 (u8L (sortI l))))]⟩ ⟨T, srB n LV ((RS.map sortI).map ownP)⟩ := by
  have h : (RS.map sortI).map ownP = (RS.map fun l => u8L (sortI l)).map RowE.own := by rw [List.map_map, List.map_map]; rfl
  have h2 : RS.map (fun l => PV.lst false 1 (u8L (sortI l))) = (RS.map fun l => u8L (sortI l)).map (PV.lst false 1) := by rw [List.map_map]; rfl
  rw [h, h2]
  refine (SubS.sub ⟨fun t a k => ?_, fun s b k => subB_spec ?_ s b k⟩).trans' (rows_fr (σ := ⟨T, srB n LV ((RS.map fun l => u8L (sortI l)).map RowE.own)⟩) (s := .loc 24 0) (e := 41) (e2 := 5) (n := 1) (xss := RS.map fun l => u8L (sortI l)) ?_)
  · exact k
  · simp [srB]
  · simp [srB]
theorem srH_sub (n : Nat) (LV : List (Int × Int)) (RS : List (List Int)) (k : Nat) : Sub (srH n LV RS k) ⟨srT n k, srB n LV (srE RS k)⟩ := by
  unfold srH
  cases h : RS[k]? with
  | none => exact Sub.refl' _
  | some q =>
    refine (Sub.mk ?_ ?_).trans' (rows_out (σ := ⟨srT n k, srB n LV (srE RS k)⟩) 200 (s := .loc 24 0) (e := 41) (e2 := 5) (n := 1) (i := k) (els := srE RS k) (xs := u8L q) ?_ (srE_get h))
    · simp [srT]
    · simp [srB, srE_map, u8L_len]
    · simp [srB, srE_map]
/-- .. a list was sorted. -/
theorem srH_in (n : Nat) (LV : List (Int × Int)) (RS : List (List Int)) (k : Nat) (q : List Int) (h : RS[k]? = some q) : Sub (srH n LV RS (k + 1)) ⟨srT n (k + 1), (.loc 200 0, .arr 5 1 (u8L (sortI q))) :: srB n LV ((srE RS k).set k (.av (.vec (.loc 200 0) 1 0 q.length)))⟩ := by
  have hk := (List.getElem?_eq_some_iff.1 h).1
  refine (srH_sub n LV RS (k + 1)).trans' ((Sub.mk ?_ ?_).trans' (rows_in (σ := ⟨srT n (k + 1), (.loc 200 0, .arr 5 1 (u8L (sortI q))) :: srB n LV ((srE RS k).set k (.av (.vec (.loc 200 0) 1 0 q.length)))⟩) (s := .loc 24 0) (s' := .loc 200 0) (e := 41) (e2 := 5) (n := 1) (i := k) (els := (srE RS k).set k (.av (.vec (.loc 200 0) 1 0 q.length))) (xs := u8L (sortI q)) ?_ ?_ ?_ ?_))
  · simp [srT]
  · have := srE_set h
    simp [srB, ← this, ownP]
  · simp [srB]
  · simp [srB]
  · simp
  · rw [u8L_len, sortI_len, List.getElem?_set_self (by rw [srE_len (by omega)]; exact hk)]
set_option maxHeartbeats 16000000 in
theorem runs_c (s : St) (hl : s.runs.length ≤ 1000000) : Gives Try.prog 40 [s.pv] s.runsP := by
  refine calls_of_awpF [.loc 20 0, .loc 24 0] mixed L40_ok (Nat.le_of_ble_eq_true rfl) ?_
  simp [-getElem?_pos, L40, St.pv]
  refine call_gives (k := 0) rfl rfl (possible_c s hl) rfl ?_
  cases hc : decide (s.possible = 0)
  · have hc' : ¬ s.possible = 0 := by simpa using hc
    simp [-getElem?_pos, hc', St.runsP]
  · have hc' : s.possible = 0 := by simpa using hc
    have hch := St.possible0 hc'
    obtain ⟨q1, q2, q3, _⟩ := St.check0 hch
    simp [-getElem?_pos, hc']
    obtain ⟨n, hn⟩ : ∃ n, n = s.runs.length := ⟨_, rfl⟩
    rw [← hn]
    have hnn : Nat.ble n n = true := by rw [Nat.ble_eq]; omega
    have hn6 : Nat.ble n 1000000 = true := by rw [Nat.ble_eq]; omega
    have h24 : Nat.ble 24 1000 = true := rfl
    have h16 : Nat.ble 16 1000 = true := rfl
    refine ltS_seq ⟨rnT n, rnB s n (.rows 41 5 1 (zRs n))⟩ ?_ ?_
    · simp [-getElem?_pos, ltS_alt, ltS_no, hnn, hn6, h24, h16, ← hn, zNil_eq, zLv_eq]
      repeat' (with_reducible refine And.intro ?_ ?_)
      all_goals
        refine (rn_mk s n).trans' (Sub.mk ?_ ?_)
        · simp [rnT, rnB]
        · simp [rnT, rnB]
    · simp [-getElem?_pos, ltS_alt, ltS_no, rnT, rnB]
      refine call_lent (as' := [.pv s.pv]) (B := []) (fs := []) (cs := []) 26 [] ?_ rfl rfl rfl ?_ ?_ (histories_c s) ?_
      · rfl
      · rfl
      · rfl
      rintro r0 B0 ⟨rfl, rfl⟩
      refine ⟨rfl, by simp [hisB], ?_⟩
      have hzp : ∀ D, (zRs n).map (RowE.map (AV.purge D)) = zRs n := fun D => own_purge
      simp [-getElem?_pos, hisF, hisB, hzp]
      have hit := iter_c (runC s q3) s (by omega) (by omega) q3 [] (RunS.z s.runs.length) (goodNil s) (RunS.z_ok _) (fun x hx => by
        rw [St.items_all] at hx
        obtain ⟨p, hp, rfl⟩ := List.mem_map.1 hx
        exact St.item_of hch hp)
      rw [St.items_all, runC_run q3 hch s.all _ (fun p hp => hp)] at hit
      refine rng_lent [.loc 101 0, .loc 2 0, .loc 3 0, .loc 6 0, .loc 20 0, .loc 24 0, .loc 26 0, .loc 26 1, .loc 26 2, .loc 26 3, .loc 26 4] [(2, .ptr (.loc 2 0) 0), (3, .ptr (.loc 3 0) 0), (6, .ptr (.loc 6 0) 0)] (gf := 69) (fs := []) (cs := [.ptr (.loc 26 0) 0, .ptr (.loc 26 3) 0, .ptr (.loc 26 4) 0]) ?_ ?_ rfl rfl ?_ ?_ ?_ hit ?_
      · rfl
      · simp
      · have hzr : ∀ g, (zRs n).map (RowE.map g) = zRs n := fun g => by
          unfold zRs; rw [List.map_map]; rfl
        have hza : ∀ (g : Site → Bool) (x : RowE), x ∈ zRs n → RowE.allS g x = true := fun g x hx => by
          obtain ⟨y, _, rfl⟩ := List.mem_map.1 hx
          rfl
        show _ = some (laid 0 (runX s.runs.length (RunS.z s.runs.length) ++ own5B s [] 6))
        rw [← hn]
        have e1 : (RunS.z n).lv.map pairP = zLv n := rfl
        have e2 : (RunS.z n).rs.map ownP = zRs n := rfl
        have e3 : (RunS.z n).first = true := rfl
        have hzl : ∀ g, (zRs n).all (RowE.allS g) = true := fun g => List.all_eq_true.2 (hza g)
        simp [runX, own5B, laid, hzp, hzr, e1, e2, e3, canF', hzl, Kn.pv, -List.all_eq_true]
      · rfl
      · rfl
      rintro r B' ⟨rfl, M', hM', rfl⟩
      have hrun : (List.foldl RunS.path (RunS.z s.runs.length) s.all, true).fst = s.runS := rfl
      rw [hrun]
      obtain ⟨hok, hne⟩ := RunS.fold_ok hch s.all (RunS.z s.runs.length) (fun p hp => hp) (RunS.z_ok _)
      have hne' := hne (St.all_ne hc')
      refine ⟨rfl, ?_, ?_⟩
      · have h7 := closed_own5 (C := runC s q3) (c := s.runS) (s := s) (M := M')
        exact fun p hp => laid_ok (n := 11) (L := (runC s q3).X s.runS ++ own5B s M' (runC s q3).m) (by simp [runC, runX, own5B]) h7 p hp
      · refine ⟨_, _, _, _, _, rfl, ?_⟩
        have hok1 := hok.lv
        have hok2 := hok.rs
        have hok3 := hok.sm
        have hrp : s.runsP = .tup [.lst false 2 (s.runS.lv.map pairP), .lst false 1 (s.runS.rs.map fun l => .lst false 1 (u8L (sortI l))), .int .i64 0] := by unfold St.runsP; rw [if_pos hc']
        rw [hrp]
        change s.runS.lv.length = _ at hok1
        change s.runS.rs.length = _ at hok2
        change ∀ xs ∈ s.runS.rs, _ at hok3
        change ∀ xs ∈ s.runS.rs, _ at hne'
        clear hok hne hit hrp hrun
        rw [← hn] at hok1 hok2
        obtain ⟨⟨LV, RS, fi⟩, hcc⟩ : ∃ c, c = s.runS := ⟨_, rfl⟩
        rw [← hcc] at hok1 hok2 hok3 hne' ⊢
        simp only at hok1 hok2 hok3 hne' ⊢
        have hRr : ∀ g, (RS.map ownP).map (RowE.map g) = RS.map ownP := fun g => by rw [List.map_map]; rfl
        have hRa : ∀ (g : Site → Bool) (x : RowE), x ∈ RS.map ownP → RowE.allS g x = true := fun g x hx => by
          obtain ⟨y, _, rfl⟩ := List.mem_map.1 hx
          rfl
        simp [-getElem?_pos, -List.map_map, runC, runX, own5B, laid, jumpQ, ← hn, hRr]
        refine awp_loopS (fun m τ => ∃ k : Nat, k ≤ n ∧ m = n - k ∧ τ = srH n LV RS k) ⟨n, _, (srH_sub n LV RS 0).trans' (Sub.mk (by simp [srT]) (by simp [srB, srE, upTo_zero])), 0, by omega, rfl, rfl⟩ ?_
        rintro J hJl m τ ⟨k, hk, rfl, rfl⟩
        unfold srH
        cases hq : RS[k]? with
        | some q =>
          have hlt : k < n := by have := (List.getElem?_eq_some_iff.1 hq).1; omega
          have hround := hJl _ _ ⟨k + 1, by omega, rfl, rfl⟩
          have hw : IntKind.i64.wrap ((k : Int) + 1) = ((k + 1 : Nat) : Int) := by rw [wrap64 (by omega)]; omega
          have hel := srE_len (RS := RS) (k := k) (by omega)
          have hE2 : ((srE RS k).set k (.av (.vec (.loc 200 0) 1 0 q.length)))[k]? = some (.av (.vec (.loc 200 0) 1 0 q.length)) := List.getElem?_set_self (by omega)
          have hE2p : ((srE RS k).set k (.av (.vec (.loc 200 0) 1 0 q.length))).map (RowE.map (AV.purge 300)) = (srE RS k).set k (.av (.vec (.loc 200 0) 1 0 q.length)) := by
            rw [List.map_set, srE_map]; rfl
          have hq0 := hne' q (List.mem_of_getElem? hq)
          obtain ⟨hq1, hq2⟩ := hok3 q (List.mem_of_getElem? hq)
          have hq3 := nodup_small hq1 hq2
          have hin := srH_in n LV RS k q hq
          dsimp only
          unfold srO
          generalize (srE RS k).set k (.av (.vec (.loc 200 0) 1 0 q.length)) = E2 at *
          have hbk : k.blt n = true := by rw [Nat.blt_eq]; omega
          simp [-getElem?_pos, -List.map_map, srT, srB, hlt, hE2, hbk]
          refine call_lent (as' := [.vec (.par 0) 1 0 q.length]) (B := [(.par 0, .arr 5 1 (u8L q))]) (fs := []) (cs := []) 300 [.loc 200 0] ?_ rfl rfl ?_ ?_ ?_ (sort8_c q hq0 (by omega)) ?_
          · rfl
          · simp
          · simp
          · simp
          rintro r0 B0 ⟨rfl, rfl⟩
          refine ⟨rfl, by simp, ?_⟩
          simp [-getElem?_pos, -List.map_map, -List.map_set, hE2p, hw]
          exact ⟨_, _, (by omega : n - (k + 1) < n - k), hin.trans' (Sub.mk (by simp [srT]) (by simp [srB])), hround⟩
        | none =>
          have he : k = n := by have := List.getElem?_eq_none_iff.1 hq; omega
          subst he
          rw [← hok2, srE_all]
          simp [-getElem?_pos, -List.map_map, srT, srB]
          refine ltS_seq ⟨[(2, .ptr (.loc 2 0) 0), (3, .ptr (.loc 3 0) 0), (99, .vec (.loc 20 0) 2 0 RS.length), (100, .vec (.loc 24 0) 1 0 RS.length)], [(.loc 2 0, .cells [.vec (.loc 20 0) 2 0 RS.length]), (.loc 3 0, .cells [.vec (.loc 24 0) 1 0 RS.length]), (.loc 20 0, .arr 28 2 (LV.map pairP)), (.loc 24 0, .arr 41 1 (RS.map fun l => .lst false 1 (u8L (sortI l))))]⟩ ?_ ?_
          · simp [-getElem?_pos, -List.map_map, ltS_alt, ltS_no]
            repeat' (with_reducible refine And.intro ?_ ?_)
            all_goals
              refine (sr_fr RS.length LV RS _).trans' (Sub.mk ?_ ?_)
              · simp
              · simp [srB]
          · have hLl : List.take RS.length (LV.map pairP) = LV.map pairP := List.take_of_length_le (by simp; omega)
            have hRl : List.take RS.length (RS.map fun l => PV.lst false 1 (u8L (sortI l))) = RS.map fun l => PV.lst false 1 (u8L (sortI l)) := List.take_of_length_le (by simp)
            have hle : RS.length ≤ k := by omega
            simp [-getElem?_pos, ltS_alt, ltS_no, hLl, hRl, hle, hok1]
end Go.Proofs.Ytpfogpkocdlloaa

/-! What Runs tells, in plain words. No program here. -/
namespace Go.Proofs.Ytpfogpkocdlloaa
open Go.RowKit

/-- Of the histories P: the level's span and the results of run i. -/
structure RunAt (P : List (List Int × List Int)) (i : Nat) (lo hi : Int) (q : List Int) : Prop where
  bd : ∀ p ∈ P, ∀ v, p.2[i]? = some v → lo ≤ v ∧ v ≤ hi
  lo' : ∃ p ∈ P, p.2[i]? = some lo
  hi' : ∃ p ∈ P, p.2[i]? = some hi
  nd : q.Nodup
  mem : ∀ r, r ∈ q ↔ ∃ p ∈ P, p.1[i]? = some r
structure RunSp (n : Nat) (P : List (List Int × List Int)) (c : RunS) : Prop where
  first : c.first = false
  at' : ∀ i, i < n → ∃ lo hi q, c.lv[i]? = some (lo, hi) ∧ c.rs[i]? = some q ∧ RunAt P i lo hi q
theorem zw_get {α β γ : Type} {f : α → β → γ} {a : List α} {b : List β} {i : Nat} {x : α} {y : β} (ha : a[i]? = some x) (hb : b[i]? = some y) : (List.zipWith f a b)[i]? = some (f x y) := by rw [List.getElem?_zipWith, ha, hb]
theorem rsS_nil {r : Int} : rsS [] r = [r] := by simp [rsS]
theorem RunSp.start {n : Nat} {p : List Int × List Int} (h1 : p.1.length = n) (h2 : p.2.length = n) : RunSp n [p] ((RunS.z n).path p) := by
  refine ⟨rfl, fun i hi => ?_⟩
  have e1 : p.1[i]? = some (p.1[i]'(by omega)) := List.getElem?_eq_getElem _
  have e2 : p.2[i]? = some (p.2[i]'(by omega)) := List.getElem?_eq_getElem _
  generalize p.1[i]'(by omega) = r at e1
  generalize p.2[i]'(by omega) = v at e2
  refine ⟨v, v, [r], ?_, ?_, ⟨fun q hq u hu => ?_, ⟨p, by simp, e2⟩, ⟨p, by simp, e2⟩, by simp, fun x => ?_⟩⟩
  · show (List.zipWith (lvS true) (List.replicate n (0, 0)) p.2)[i]? = _
    exact zw_get (x := (0, 0)) (List.getElem?_replicate_of_lt hi) e2
  · show (List.zipWith rsS (List.replicate n []) p.1)[i]? = _
    rw [zw_get (x := []) (List.getElem?_replicate_of_lt hi) e1, rsS_nil]
  · simp at hq; subst hq
    rw [e2] at hu; cases hu; omega
  · simp only [List.mem_singleton, exists_eq_left, e1, Option.some.injEq]
    exact eq_comm
theorem rsS_mem {q : List Int} {r x : Int} : x ∈ rsS q r ↔ x ∈ q ∨ x = r := by
  unfold rsS
  split
  · rename_i h
    have h' : r ∈ q := by simpa using h
    exact ⟨.inl, fun k => k.elim id (fun e => by rw [e]; exact h')⟩
  · simp
theorem rsS_nd {q : List Int} {r : Int} (h : q.Nodup) : (rsS q r).Nodup := by
  unfold rsS
  split
  · exact h
  · rename_i hc
    have hc' : r ∉ q := by simpa using hc
    refine List.nodup_append.2 ⟨h, by simp, fun a ha b hb e => ?_⟩
    simp at hb; subst hb; subst e; exact hc' ha
theorem RunSp.next {n : Nat} {P : List (List Int × List Int)} {c : RunS} (h : RunSp n P c) {p : List Int × List Int} (h1 : p.1.length = n) (h2 : p.2.length = n) : RunSp n (P ++ [p]) (c.path p) := by
  refine ⟨rfl, fun i hi => ?_⟩
  obtain ⟨lo, hi', q, k1, k2, k3⟩ := h.at' i hi
  have e1 : p.1[i]? = some (p.1[i]'(by omega)) := List.getElem?_eq_getElem _
  have e2 : p.2[i]? = some (p.2[i]'(by omega)) := List.getElem?_eq_getElem _
  generalize p.1[i]'(by omega) = r at e1
  generalize p.2[i]'(by omega) = v at e2
  have hf := h.first
  refine ⟨min lo v, max hi' v, rsS q r, ?_, ?_, ⟨fun x hx u hu => ?_, ?_, ?_, rsS_nd k3.nd, fun x => ?_⟩⟩
  · show (List.zipWith (lvS c.first) c.lv p.2)[i]? = _
    rw [hf]
    exact zw_get k1 e2
  · exact zw_get k2 e1
  · rcases List.mem_append.1 hx with hx | hx
    · have := k3.bd x hx u hu; omega
    · simp at hx; subst hx
      rw [e2] at hu; cases hu; omega
  · by_cases hc : lo ≤ v
    · obtain ⟨p', hp', hq⟩ := k3.lo'
      exact ⟨p', by simp [hp'], by rw [hq]; congr 1; omega⟩
    · exact ⟨p, by simp, by rw [e2]; congr 1; omega⟩
  · by_cases hc : v ≤ hi'
    · obtain ⟨p', hp', hq⟩ := k3.hi'
      exact ⟨p', by simp [hp'], by rw [hq]; congr 1; omega⟩
    · exact ⟨p, by simp, by rw [e2]; congr 1; omega⟩
  · rw [rsS_mem, k3.mem]
    constructor
    · rintro (⟨p', hp', hq⟩ | rfl)
      · exact ⟨p', by simp [hp'], hq⟩
      · exact ⟨p, by simp, e1⟩
    · rintro ⟨p', hp', hq⟩
      rcases List.mem_append.1 hp' with hp' | hp'
      · exact .inl ⟨p', hp', hq⟩
      · simp at hp'; subst hp'
        rw [e1] at hq; cases hq; exact .inr rfl
theorem RunSp.fold {n : Nat} : ∀ (l : List (List Int × List Int)) (P : List (List Int × List Int)) (c : RunS), (∀ p ∈ l, p.1.length = n ∧ p.2.length = n) → RunSp n P c → RunSp n (P ++ l) (l.foldl RunS.path c)
  | [], P, c, _, h => by simpa using h
  | p :: l, P, c, hl, h => by
    have := RunSp.fold l (P ++ [p]) (c.path p) (fun q hq => hl q (by simp [hq])) (h.next (hl p (by simp)).1 (hl p (by simp)).2)
    simpa using this
theorem St.runs_sp {s : St} (hc : s.check = 0) (hp : s.possible = 0) : RunSp s.runs.length s.all s.runS := by
  have hlen : ∀ p ∈ s.all, p.1.length = s.runs.length ∧ p.2.length = s.runs.length := fun p hp => let ⟨h1, h2, _⟩ := St.all_ok hc hp; ⟨h1, h2⟩
  have hne := St.all_ne hp
  unfold St.runS
  generalize s.all = A at hlen hne
  match A, hne with
  | p :: l, _ => exact RunSp.fold l [p] _ (fun q hq => hlen q (by simp [hq])) (RunSp.start (hlen p (by simp)).1 (hlen p (by simp)).2)
theorem St.runs_len {s : St} (hc : s.check = 0) : s.runS.lv.length = s.runs.length ∧ s.runS.rs.length = s.runs.length := by
  have := (RunS.fold_ok hc s.all (RunS.z s.runs.length) (fun p hp => hp) (RunS.z_ok _)).1
  exact ⟨this.lv, this.rs⟩
theorem sortI_of_mem {a b : List Int} (ha : a.Nodup) (hb : b.Nodup) (h : ∀ x, x ∈ a ↔ x ∈ b) : sortI a = sortI b := by
  have hp : a.Perm b := (List.perm_ext_iff_of_nodup ha hb).2 h
  exact sorted_eq ((sortI_perm a).trans (hp.trans (sortI_perm b).symm)) (sortI_sorted a) (sortI_sorted b)
/-- The results in rising order. -/
def seen3 (f : Int → Bool) : List Int := [0, 1, 2].filter f
theorem sortI_seen {q : List Int} (hq : q.Nodup) (h : ∀ y ∈ q, 0 ≤ y ∧ y ≤ 2) (f : Int → Bool) (hf : ∀ x, 0 ≤ x → x ≤ 2 → (f x = true ↔ x ∈ q)) : sortI q = seen3 f := by
  refine sorted_eq ((sortI_perm q).trans ((List.perm_ext_iff_of_nodup hq ?_).2 fun x => ?_)) (sortI_sorted q) ?_
  · exact List.Pairwise.sublist List.filter_sublist (show [(0 : Int), 1, 2].Nodup by decide)
  · unfold seen3
    rw [List.mem_filter]
    constructor
    · intro hx
      have := h x hx
      refine ⟨?_, (hf x this.1 this.2).2 hx⟩
      have : x = 0 ∨ x = 1 ∨ x = 2 := by omega
      simpa using this
    · rintro ⟨h1, h2⟩
      have : x = 0 ∨ x = 1 ∨ x = 2 := by simpa using h1
      exact (hf x (by omega) (by omega)).1 h2
  · unfold seen3
    refine List.Pairwise.sublist List.filter_sublist ?_
    decide
end Go.Proofs.Ytpfogpkocdlloaa

/-! Contracts of the law's helpers: same. Lists of the results that were seen. -/
namespace Go.Proofs.Ytpfogpkocdlloaa
open Go.RowKit
attribute [local simp] Box.purge Site.isLoc

set_option maxRecDepth 10000
set_option linter.unusedSimpArgs false

theorem u8L_eq {l : List Int} : u8L l = l.map u8P := rfl
def smB (a b : List Int) (k : Nat) : AS := ⟨[(0, .pv (.lst false 1 (u8L a))), (1, .pv (.lst false 1 (u8L b))), (5, .pv (.int .i64 k))], []⟩
set_option maxHeartbeats 8000000 in
theorem same_c (a b : List Int) (ha : a.length ≤ 1000000) : Gives Try.prog 42 [.lst false 1 (u8L a), .lst false 1 (u8L b)] (.bool (decide (a = b))) := by
  refine calls_of_awpS mixed L42_ok (Nat.le_of_ble_eq_true rfl) ?_
  by_cases hl : a.length = b.length
  · have hl' : ((a.length : Int) = (b.length : Int)) := by omega
    simp [-getElem?_pos, L42, u8L_len, hl']
    refine awp_loopS (fun n τ => ∃ k : Nat, k ≤ a.length ∧ n = a.length - k ∧ a.take k = b.take k ∧ τ = smB a b k) ⟨a.length, _, Sub.mk (by simp [smB]) (by simp [smB]), 0, by omega, rfl, rfl, rfl⟩ ?_
    rintro J hJ n τ ⟨k, hk, rfl, he, rfl⟩
    by_cases hlt : k < a.length
    · have hx : a[k]? = some (a[k]) := List.getElem?_eq_getElem hlt
      have hy : b[k]? = some (b[k]'(by omega)) := List.getElem?_eq_getElem _
      generalize a[k] = x at hx
      generalize b[k]'(by omega) = y at hy
      have hg1 := u8L_get hx
      have hg2 := u8L_get hy
      have hw : IntKind.i64.wrap ((k : Int) + 1) = ((k + 1 : Nat) : Int) := by rw [wrap64 (by omega)]; omega
      by_cases hxy : x = y
      · subst hxy
        have hround := hJ _ _ ⟨k + 1, by omega, rfl, by rw [List.take_add_one, List.take_add_one, he, hx, hy], rfl⟩
        simp [-getElem?_pos, smB, u8L_len, hlt, hg1, hg2, hw]
        exact ⟨_, _, (by omega : a.length - (k + 1) < a.length - k), Sub.mk (by simp [smB]) (by simp [smB]), hround⟩
      · have hne : ¬ a = b := fun e => by subst e; rw [hx] at hy; cases hy; exact hxy rfl
        simp [-getElem?_pos, smB, u8L_len, hlt, hg1, hg2, hxy, hne]
    · have e : k = a.length := by omega
      subst e
      have hab : a = b := by
        rw [List.take_length, hl, List.take_length] at he; exact he
      subst hab
      simp [-getElem?_pos, smB, u8L_len]
  · have hne : ¬ a = b := fun e => hl (by rw [e])
    have hl' : ¬ ((a.length : Int) = (b.length : Int)) := by omega
    simp [-getElem?_pos, L42, u8L_len, hl', hne]
end Go.Proofs.Ytpfogpkocdlloaa
