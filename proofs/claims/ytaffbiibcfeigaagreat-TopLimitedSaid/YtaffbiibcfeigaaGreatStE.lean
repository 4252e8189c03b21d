/- Contracts of layer 4's functions (stair): Shows. (Several texts in one.) -/
import Derived.Test.YtaffbiibcfeigaaGreatStC
import Derived.Test.YtaffbiibcfeigaaGreatStA
import Derived.Test.YtaffbiibcfeigaaGreatBaseD
set_option linter.unusedVariables false
set_option linter.unusedSimpArgs false
/-! Contracts of layer 4's functions (stair): Shows. -/
namespace Go.Proofs.YtaffbiibcfeigaaGreat
open Go.RowKit
attribute [local simp] Box.purge Site.isLoc
set_option maxRecDepth 10000
set_option linter.unusedSimpArgs false
attribute [local simp] AS.exp expG Box.ren AV.map AV.mapL outsOk noRet Site.isRet Box.allS AV.allS AV.allSL retB dropL AS.adds renL outG outOk lentBx inG fnOf lookA List.findIdx?_cons
attribute [local simp] retFz frzL AS.frz AV.frz AV.frzL Box.frz AS.tidy
end Go.Proofs.YtaffbiibcfeigaaGreat
/-! Contracts of the reference (tensileref04): Sorted. -/
namespace Go.Proofs.YtaffbiibcfeigaaGreat
open Go.RowKit
attribute [local simp] Box.purge Site.isLoc
set_option maxRecDepth 10000
set_option linter.unusedSimpArgs false
/-- The first i numbers are in rising order. -/
def Srt (c : List Int) (i : Nat) : Prop := ∀ (a b : Nat) (x y : Int), a < b → b < i → c[a]? = some x → c[b]? = some y → x ≤ y
/-- So are the first i + 1 but the one at k, and what stands behind that one is not less. -/
def SrtK (c : List Int) (i k : Nat) : Prop := (∀ (a b : Nat) (x y : Int), a < b → b ≤ i → a ≠ k → b ≠ k → c[a]? = some x → c[b]? = some y → x ≤ y) ∧ (∀ (j : Nat) (x y : Int), k < j → j ≤ i → c[k]? = some x → c[j]? = some y → x ≤ y)
theorem SrtK.start {c : List Int} {i : Nat} (h : Srt c i) : SrtK c i i := ⟨fun a b x y hab hb _ hbk h1 h2 => h a b x y hab (by omega) h1 h2, fun j x y h1 h2 => by omega⟩
theorem SrtK.done {c : List Int} {i k : Nat} (h : SrtK c i k) (hk : k = 0 ∨ ∃ x y : Int, c[k]? = some x ∧ c[k - 1]? = some y ∧ y ≤ x) : Srt c (i + 1) := by
  intro a b x y hab hb h1 h2
  by_cases ha : a = k
  · subst ha; exact h.2 b x y hab (by omega) h1 h2
  · by_cases hbk : b = k
    · subst hbk
      rcases hk with hk | ⟨u, v, h3, h4, h5⟩
      · omega
      · rw [h3] at h2
        injection h2 with h2
        by_cases ha1 : a = b - 1
        · rw [ha1, h4] at h1; injection h1; omega
        · have := h.1 a (b - 1) x v (by omega) (by omega) ha (by omega) h1 h4
          omega
    · exact h.1 a b x y hab (by omega) ha hbk h1 h2
theorem SrtK.step {c : List Int} {i k : Nat} (h : SrtK c i (k + 1)) (hk : k + 1 ≤ i) {x y : Int} (hx : c[k + 1]? = some x) (hy : c[k]? = some y) (hxy : x < y) : SrtK ((c.set (k + 1) y).set k x) i k := by
  have hl := (List.getElem?_eq_some_iff.1 hx).1
  have e0 : ((c.set (k + 1) y).set k x)[k]? = some x := by rw [List.getElem?_set_self (by rw [List.length_set]; omega)]
  have e1 : ((c.set (k + 1) y).set k x)[k + 1]? = some y := by rw [List.getElem?_set_ne (by omega), List.getElem?_set_self hl]
  have en : ∀ a, a ≠ k → a ≠ k + 1 → ((c.set (k + 1) y).set k x)[a]? = c[a]? := fun a h1 h2 => by rw [List.getElem?_set_ne (by omega), List.getElem?_set_ne (by omega)]
  refine ⟨fun a b u v hab hb ha hbk h1 h2 => ?_, fun j u v h1 h2 h3 h4 => ?_⟩
  · by_cases hb1 : b = k + 1
    · subst hb1
      rw [e1] at h2; injection h2 with h2
      rw [en a ha (by omega)] at h1
      have := h.1 a k u y (by omega) (by omega) (by omega) (by omega) h1 hy
      omega
    · rw [en b hbk hb1] at h2
      by_cases ha1 : a = k + 1
      · subst ha1
        rw [e1] at h1; injection h1 with h1
        have := h.1 k b y v (by omega) hb (by omega) hb1 hy h2
        omega
      · rw [en a ha ha1] at h1
        exact h.1 a b u v hab hb ha1 hb1 h1 h2
  · rw [e0] at h3; injection h3 with h3
    by_cases hj : j = k + 1
    · subst hj
      rw [e1] at h4; injection h4
      omega
    · rw [en j (by omega) hj] at h4
      have := h.2 j x v (by omega) h2 hx h4
      omega
theorem swap_perm {c : List Int} {k : Nat} {x y : Int} (hx : c[k + 1]? = some x) (hy : c[k]? = some y) : ((c.set (k + 1) y).set k x).Perm c := by
  obtain ⟨h1, rfl⟩ := List.getElem?_eq_some_iff.1 hx
  obtain ⟨h2, rfl⟩ := List.getElem?_eq_some_iff.1 hy
  exact List.set_set_perm h1 h2
theorem Srt.all {c l : List Int} (h : Srt c c.length) (hp : c.Perm l) : c = sortI l := by
  refine sorted_eq (hp.trans (sortI_perm l).symm) ?_ (sortI_sorted l)
  rw [List.pairwise_iff_getElem]
  intro a b ha hb hab
  exact h a b _ _ hab hb (List.getElem?_eq_getElem ha) (List.getElem?_eq_getElem hb)
attribute [local simp] AS.exp expG Box.ren AV.map AV.mapL outsOk noRet Site.isRet Box.allS AV.allS AV.allSL retB dropL AS.adds renL outG outOk lentBx inG fnOf lookA List.findIdx?_cons
set_option maxHeartbeats 8000000 in
theorem sorted_c (l : List Int) (h0 : l ≠ []) (hl : l.length ≤ 1000) : CallsA Tryz.prog 45 ([intsP l].map .pv) [] (fun r B => r = .vec (.ret 0) 1 0 l.length ∧ B = [(.ret 0, .arr 3 1 ((sortI l).map intP))]) := by
  have hn0 : 0 < l.length := by cases l with | nil => exact absurd rfl h0 | cons => simp
  refine calls_of_awpB [.loc 8 0] mixed L45_ok (Nat.le_of_ble_eq_true rfl) ?_
  have hl6 : l.length ≤ 1000000 := by omega
  simp [-getElem?_pos, L45, intsP_eq, nble, hl6]
  refine awp_loopS (fun n τ => ∃ (i : Nat) (c : List Int), i ≤ l.length ∧ n = l.length - i ∧ c.Perm l ∧ Srt c i ∧ τ = ⟨[(3, .vec (.loc 8 0) 1 0 l.length), (4, .pv (.int .i64 i))], [(.loc 8 0, .arr 3 1 (c.map intP))]⟩)
    ⟨l.length, _, Sub.mk (by simp) (by simp), 0, l, by omega, rfl, .refl _, fun a b x y _ hb => by omega, rfl⟩ ?_
  rintro J hJ n τ ⟨i, c, hi, rfl, hp, hs, rfl⟩
  have hcl : c.length = l.length := hp.length_eq
  by_cases hlt : i < l.length
  · have hw : IntKind.i64.wrap ((i : Int) + 1) = ((i + 1 : Nat) : Int) := by rw [wrap64 (by omega)]; omega
    simp [-getElem?_pos, hlt]
    refine awp_loopS (fun n τ => ∃ (k : Nat) (c : List Int), k ≤ i ∧ n = k ∧ c.Perm l ∧ SrtK c i k ∧ τ = ⟨[(3, .vec (.loc 8 0) 1 0 l.length), (4, .pv (.int .i64 i)), (5, .pv (.int .i64 k))], [(.loc 8 0, .arr 3 1 (c.map intP))]⟩)
      ⟨i, _, Sub.mk (by simp) (by simp), i, c, by omega, rfl, hp, SrtK.start hs, rfl⟩ ?_
    clear hs hcl hp c
    rintro I hI k τ ⟨_, c, hk, rfl, hp, hs, rfl⟩
    have hcl : c.length = l.length := hp.length_eq
    cases k with
    | zero =>
      have hround := hJ _ _ ⟨i + 1, c, hlt, rfl, hp, hs.done (.inl rfl), rfl⟩
      simp [-getElem?_pos, hw]
      exact ⟨_, _, (by omega : l.length - (i + 1) < l.length - i), Sub.mk (by simp) (by simp), hround⟩
    | succ k =>
      have hx : c[k + 1]? = some (c[k + 1]'(by omega)) := List.getElem?_eq_getElem _
      have hy : c[k]? = some (c[k]'(by omega)) := List.getElem?_eq_getElem _
      generalize c[k + 1]'(by omega) = x at hx
      generalize c[k]'(by omega) = y at hy
      have hg1 : (c.map intP)[k + 1]? = some (.int .i64 x) := by rw [List.getElem?_map, hx]; rfl
      have hg2 : (c.map intP)[k]? = some (.int .i64 y) := by rw [List.getElem?_map, hy]; rfl
      have hgt : decide (((k : Int) + 1) > 0) = true := decide_eq_true (by omega)
      have hw2 : IntKind.i64.wrap (k : Int) = (k : Int) := by rw [wrap64 (by omega)]
      have hb1 : k + 1 < l.length := by omega
      have hb2 : k < l.length := by omega
      by_cases hxy : x < y
      · have hround := hI _ _ ⟨k, (c.set (k + 1) y).set k x, by omega, rfl, (swap_perm hx hy).trans hp, hs.step hk hx hy hxy, rfl⟩
        simp [-getElem?_pos, -List.getElem?_map, hgt, hw2, hg1, hg2, nblt, hb1, hb2, hxy]
        exact ⟨_, _, (by omega : k < k + 1), Sub.mk (by simp) (by simp [setAt, List.map_set, intP]), hround⟩
      · have hround := hJ _ _ ⟨i + 1, c, hlt, rfl, hp, hs.done (.inr ⟨x, y, hx, hy, by omega⟩), rfl⟩
        simp [-getElem?_pos, -List.getElem?_map, hgt, hw2, hg1, hg2, nblt, hb1, hb2, hxy, hw]
        exact ⟨_, _, (by omega : l.length - (i + 1) < l.length - i), Sub.mk (by simp) (by simp), hround⟩
  · have he : i = l.length := by omega
    subst he
    rw [← hcl] at hs
    have := hs.all hp
    subst this
    simp [-getElem?_pos, hcl]
end Go.Proofs.YtaffbiibcfeigaaGreat
/-! Contracts of Go's library at bytes: Contains, Sort. -/
namespace Go.Proofs.YtaffbiibcfeigaaGreat
open Go.RowKit
attribute [local simp] Box.purge Site.isLoc
set_option maxRecDepth 10000
set_option linter.unusedSimpArgs false
attribute [local simp] AS.exp expG Box.ren AV.map AV.mapL outsOk noRet Site.isRet Box.allS AV.allS AV.allSL retB dropL AS.adds renL outG outOk lentBx inG fnOf lookA List.findIdx?_cons
end Go.Proofs.YtaffbiibcfeigaaGreat
/-! Contracts of Go's library at bytes: Sort, Contains. -/
namespace Go.Proofs.YtaffbiibcfeigaaGreat
open Go.RowKit
attribute [local simp] Box.purge Site.isLoc
set_option maxRecDepth 10000
set_option linter.unusedSimpArgs false
attribute [local simp] AS.exp expG Box.ren AV.map AV.mapL outsOk noRet Site.isRet Box.allS AV.allS AV.allSL retB dropL AS.adds renL outG outOk lentBx inG fnOf lookA List.findIdx?_cons
end Go.Proofs.YtaffbiibcfeigaaGreat
/-! Contracts of layer 4's functions (stair): Runs, what it does with a history. -/
namespace Go.Proofs.YtaffbiibcfeigaaGreat
open Go.RowKit
attribute [local simp] Box.purge Site.isLoc
set_option maxRecDepth 10000
set_option linter.unusedSimpArgs false
structure RunS where
  lv : List (Int × Int)
  rs : List (List Int)
  first : Bool
def lvS (first : Bool) (p : Int × Int) (v : Int) : Int × Int := match first with
  | true => (v, v)
  | false => (min p.1 v, max p.2 v)
def rsS (xs : List Int) (r : Int) : List Int := if xs.contains r = true then xs else xs ++ [r]
def RunS.step (n : Nat) (c : RunS) (x : PV) : RunS := ⟨List.zipWith (lvS c.first) c.lv ((lsOf x).take n), List.zipWith rsS c.rs ((dsOf x).take n), false⟩
structure RunS.ok (n : Nat) (c : RunS) : Prop where
  lv : c.lv.length = n
  rs : c.rs.length = n
  sm : ∀ xs ∈ c.rs, xs.Nodup ∧ ∀ y ∈ xs, 0 ≤ y ∧ y ≤ 2
attribute [local simp] AS.exp expG Box.ren AV.map AV.mapL outsOk noRet Site.isRet Box.allS AV.allS AV.allSL retB St.cells mayF dropL AS.adds renL outG outOk lentBx inG fnOf lookA List.findIdx?_cons
end Go.Proofs.YtaffbiibcfeigaaGreat
/-! Contracts of layer 4's functions (stair): Runs. -/
namespace Go.Proofs.YtaffbiibcfeigaaGreat
open Go.RowKit
attribute [local simp] Box.purge Site.isLoc
set_option maxRecDepth 10000
set_option linter.unusedSimpArgs false
def RunS.path (c : RunS) (p : List Int × List Int) : RunS := ⟨List.zipWith (lvS c.first) c.lv p.2, List.zipWith rsS c.rs p.1, false⟩
def RunS.z (n : Nat) : RunS := ⟨List.replicate n (0, 0), List.replicate n [], true⟩
def St.runS (s : St) : RunS := s.all.foldl RunS.path (RunS.z s.runs.length)
attribute [local simp] AS.exp expG Box.ren AV.map AV.mapL outsOk noRet Site.isRet Box.allS AV.allS AV.allSL retB St.cells mayF dropL AS.adds renL outG outOk lentBx inG fnOf lookA List.findIdx?_cons
attribute [local simp] retFz frzL AS.frz AV.frz AV.frzL Box.frz AS.tidy Box.live AV.live
end Go.Proofs.YtaffbiibcfeigaaGreat
/-! What Runs tells, in plain words. No program here. -/
namespace Go.Proofs.YtaffbiibcfeigaaGreat
open Go.RowKit
/-- Of the histories P: the level's span and the results of run i. -/
structure RunAt (P : List (List Int × List Int)) (i : Nat) (lo hi : Int) (q : List Int) : Prop where
  bd : ∀ p ∈ P, ∀ v, p.2[i]? = some v → lo ≤ v ∧ v ≤ hi
  lo' : ∃ p ∈ P, p.2[i]? = some lo
  hi' : ∃ p ∈ P, p.2[i]? = some hi
  nd : q.Nodup
  mem : ∀ r, r ∈ q ↔ ∃ p ∈ P, p.1[i]? = some r
structure RunSp (n : Nat) (P : List (List Int × List Int)) (c : RunS) : Prop where
  first : c.first = false
  at' : ∀ i, i < n → ∃ lo hi q, c.lv[i]? = some (lo, hi) ∧ c.rs[i]? = some q ∧ RunAt P i lo hi q
theorem zw_get {α β γ : Type} {f : α → β → γ} {a : List α} {b : List β} {i : Nat} {x : α} {y : β} (ha : a[i]? = some x) (hb : b[i]? = some y) : (List.zipWith f a b)[i]? = some (f x y) := by rw [List.getElem?_zipWith, ha, hb]
theorem rsS_nil {r : Int} : rsS [] r = [r] := by simp [rsS]
theorem RunSp.start {n : Nat} {p : List Int × List Int} (h1 : p.1.length = n) (h2 : p.2.length = n) : RunSp n [p] ((RunS.z n).path p) := by
  refine ⟨rfl, fun i hi => ?_⟩
  have e1 : p.1[i]? = some (p.1[i]'(by omega)) := List.getElem?_eq_getElem _
  have e2 : p.2[i]? = some (p.2[i]'(by omega)) := List.getElem?_eq_getElem _
  generalize p.1[i]'(by omega) = r at e1
  generalize p.2[i]'(by omega) = v at e2
  refine ⟨v, v, [r], ?_, ?_, ⟨fun q hq u hu => ?_, ⟨p, by simp, e2⟩, ⟨p, by simp, e2⟩, by simp, fun x => ?_⟩⟩
  · show (List.zipWith (lvS true) (List.replicate n (0, 0)) p.2)[i]? = _
    exact zw_get (x := (0, 0)) (List.getElem?_replicate_of_lt hi) e2
  · show (List.zipWith rsS (List.replicate n []) p.1)[i]? = _
    rw [zw_get (x := []) (List.getElem?_replicate_of_lt hi) e1, rsS_nil]
  · simp at hq; subst hq
    rw [e2] at hu; cases hu; omega
  · simp only [List.mem_singleton, exists_eq_left, e1, Option.some.injEq]
    exact eq_comm
theorem rsS_mem {q : List Int} {r x : Int} : x ∈ rsS q r ↔ x ∈ q ∨ x = r := by
  unfold rsS
  split
  · rename_i h
    have h' : r ∈ q := by simpa using h
    exact ⟨.inl, fun k => k.elim id (fun e => by rw [e]; exact h')⟩
  · simp
theorem rsS_nd {q : List Int} {r : Int} (h : q.Nodup) : (rsS q r).Nodup := by
  unfold rsS
  split
  · exact h
  · rename_i hc
    have hc' : r ∉ q := by simpa using hc
    refine List.nodup_append.2 ⟨h, by simp, fun a ha b hb e => ?_⟩
    simp at hb; subst hb; subst e; exact hc' ha
theorem RunSp.next {n : Nat} {P : List (List Int × List Int)} {c : RunS} (h : RunSp n P c) {p : List Int × List Int} (h1 : p.1.length = n) (h2 : p.2.length = n) : RunSp n (P ++ [p]) (c.path p) := by
  refine ⟨rfl, fun i hi => ?_⟩
  obtain ⟨lo, hi', q, k1, k2, k3⟩ := h.at' i hi
  have e1 : p.1[i]? = some (p.1[i]'(by omega)) := List.getElem?_eq_getElem _
  have e2 : p.2[i]? = some (p.2[i]'(by omega)) := List.getElem?_eq_getElem _
  generalize p.1[i]'(by omega) = r at e1
  generalize p.2[i]'(by omega) = v at e2
  have hf := h.first
  refine ⟨min lo v, max hi' v, rsS q r, ?_, ?_, ⟨fun x hx u hu => ?_, ?_, ?_, rsS_nd k3.nd, fun x => ?_⟩⟩
  · show (List.zipWith (lvS c.first) c.lv p.2)[i]? = _
    rw [hf]
    exact zw_get k1 e2
  · exact zw_get k2 e1
  · rcases List.mem_append.1 hx with hx | hx
    · have := k3.bd x hx u hu; omega
    · simp at hx; subst hx
      rw [e2] at hu; cases hu; omega
  · by_cases hc : lo ≤ v
    · obtain ⟨p', hp', hq⟩ := k3.lo'
      exact ⟨p', by simp [hp'], by rw [hq]; congr 1; omega⟩
    · exact ⟨p, by simp, by rw [e2]; congr 1; omega⟩
  · by_cases hc : v ≤ hi'
    · obtain ⟨p', hp', hq⟩ := k3.hi'
      exact ⟨p', by simp [hp'], by rw [hq]; congr 1; omega⟩
    · exact ⟨p, by simp, by rw [e2]; congr 1; omega⟩
  · rw [rsS_mem, k3.mem]
    constructor
    · rintro (⟨p', hp', hq⟩ | rfl)
      · exact ⟨p', by simp [hp'], hq⟩
      · exact ⟨p, by simp, e1⟩
    · rintro ⟨p', hp', hq⟩
      rcases List.mem_append.1 hp' with hp' | hp'
      · exact .inl ⟨p', hp', hq⟩
      · simp at hp'; subst hp'
        rw [e1] at hq; cases hq; exact .inr rfl
end Go.Proofs.YtaffbiibcfeigaaGreat
