/- Contracts of the reference (tensileref04): Fault, Next, Levels. (Several texts in one.) -/
import Derived.Test.YtaffbiibcfeigaaGreatStB
set_option linter.unusedVariables false
set_option linter.unusedSimpArgs false
/-! Contracts of the reference (tensileref04): Fault, Next, Levels. -/
namespace Go.Proofs.YtaffbiibcfeigaaGreat
open Go.RowKit
attribute [local simp] Box.purge Site.isLoc
set_option maxRecDepth 10000
set_option linter.unusedSimpArgs false
theorem next_c (s : St) (hs : 0 ≤ s.levels ∧ s.levels ≤ 1000) (v k : Int) (hv : -1000 ≤ v ∧ v ≤ 1000) : Gives Tryz.prog 131 [.int .i64 s.levels, .int .i64 v, .int .u8 k] (.int .i64 (s.next v k)) := by
  refine calls_of_awpS mixed L131_ok (Nat.le_of_ble_eq_true rfl) ?_
  have hw : IntKind.i64.wrap (v - 1) = v - 1 := wrap64 (by omega)
  have hw2 : IntKind.i64.wrap (v + 1) = v + 1 := wrap64 (by omega)
  have hw3 : IntKind.i64.wrap (s.levels - 1) = s.levels - 1 := wrap64 (by omega)
  by_cases h0 : k = 0
  · subst h0
    simp [-getElem?_pos, L131, hw, St.next]
    split <;> omega
  · by_cases h1 : k = 1
    · subst h1
      simp [-getElem?_pos, L131, hw2, hw3, St.next]
      split <;> omega
    · have : s.next v k = v := by unfold St.next; split <;> simp_all
      simp [-getElem?_pos, L131, h0, h1, this]
end Go.Proofs.YtaffbiibcfeigaaGreat
/-! Contracts of the reference (tensileref04): Levels, IsHistory. -/
namespace Go.Proofs.YtaffbiibcfeigaaGreat
open Go.RowKit
attribute [local simp] Box.purge Site.isLoc
set_option maxRecDepth 10000
set_option linter.unusedSimpArgs false
def u8P (n : Int) : PV := .int .u8 n
def u8sP (l : List Int) : PV := .lst false 1 (l.map u8P)
attribute [local simp] retFz frzL AS.frz AV.frz AV.frzL Box.frz AS.tidy
end Go.Proofs.YtaffbiibcfeigaaGreat
/-! Contracts (stair): is this a history? The reference's IsHistory, the program's ProveHistory. -/
namespace Go.Proofs.YtaffbiibcfeigaaGreat
open Go.RowKit
attribute [local simp] Box.purge Site.isLoc
set_option maxRecDepth 10000
set_option linter.unusedSimpArgs false
end Go.Proofs.YtaffbiibcfeigaaGreat
/-! Contracts (stair): ProveHistory. -/
namespace Go.Proofs.YtaffbiibcfeigaaGreat
open Go.RowKit
attribute [local simp] Box.purge Site.isLoc
set_option maxRecDepth 10000
set_option linter.unusedSimpArgs false
theorem moves_v : CallsA Tryz.prog 130 (([] : List PV).map .pv) [] (fun r B => r = .vec (.ret 0) 1 0 3 ∧ B = [(.ret 0, .arr 296 1 movesL)]) := by
  refine calls_of_awpB [.loc 4 0] mixed L130_ok (Nat.le_of_ble_eq_true rfl) ?_
  simp [-getElem?_pos, L130, movesL, retB, outsOk, AS.exp, expG, Box.ren, AV.map, AV.mapL, noRet, Site.isRet, Box.allS, AV.allS, AV.allSL, List.findIdx?_cons]
end Go.Proofs.YtaffbiibcfeigaaGreat
/-! Contracts of the reference (tensileref04): Histories. -/
namespace Go.Proofs.YtaffbiibcfeigaaGreat
open Go.RowKit
attribute [local simp] Box.purge Site.isLoc
set_option maxRecDepth 10000
set_option linter.unusedSimpArgs false
theorem CallsA.weakArgs {P : Program} {f : FuncId} {xs ys : List PV} {B : List (Site × Box)} {R : AV → List (Site × Box) → Prop} (h : CallsA P f (ys.map .pv) B R) (hl : xs.length = ys.length) (hw : ∀ (j : Nat) (x y : PV) (m : Mem) (v : Value), xs[j]? = some x → ys[j]? = some y → RdP m v x → RdP m v y) : CallsA P f (xs.map .pv) B R := by
  refine ⟨h.1, fun w m ρ vs h1 h2 h3 h4 => h.2 w m ρ vs h1 h2 (by simpa [hl] using h3) (fun j d c k1 k2 => ?_)⟩
  rw [List.getElem?_map] at k2
  obtain ⟨y, hy, rfl⟩ := Option.map_eq_some_iff.1 k2
  have hj : j < xs.length := by rw [hl]; exact (List.getElem?_eq_some_iff.1 hy).1
  have := h4 j d (.pv xs[j]) k1 (by rw [List.getElem?_map, List.getElem?_eq_getElem hj]; rfl)
  exact .pv _ _ (hw j _ _ _ _ (List.getElem?_eq_getElem hj) hy this.pv_inv)
theorem CallsA.weak2 {P : Program} {f : FuncId} {xs : List AV} {B : List (Site × Box)} {x' : PV} (h : CallsA P f xs B (fun r B => ∃ x, r = .pv x ∧ B = [] ∧ ∀ m v, RdP m v x → RdP m v x')) : CallsA P f xs B (fun r B => r = .pv x' ∧ B = []) := by
  refine ⟨h.1, fun w m ρ vs h1 h2 h3 h4 => (h.2 w m ρ vs h1 h2 h3 h4).mono fun e w' ⟨v, r, B', ρ', m', k1, ⟨x, k2, k3, hw⟩, k4, k5, k6, k7, k8, k9, k10, k11⟩ => ?_⟩
  subst k2 k3
  exact ⟨v, .pv x', [], ρ', m', k1, ⟨rfl, rfl⟩, k4, k5, k6, k7, k8, k9, .pv _ _ (hw _ _ k10.pv_inv), k11⟩
theorem lostN_cons (r : Rn) (rest : List Rn) : lostN (r :: rest) = lostN rest + (if r.res = 3 then 1 else 0) := by
  unfold lostN
  rw [List.countP_cons]
  simp
attribute [local simp] retFz frzL AS.frz AV.frz AV.frzL Box.frz AS.tidy
end Go.Proofs.YtaffbiibcfeigaaGreat
/-! The histories of the reference are those of the program (plain); contracts of layer 4's statements (stair): asked, bytes. -/
namespace Go.Proofs.YtaffbiibcfeigaaGreat
open Go.RowKit
attribute [local simp] Box.purge Site.isLoc
set_option maxRecDepth 10000
set_option linter.unusedSimpArgs false
theorem St.possible_all {s : St} (hc : s.check = 0) : s.possible = if s.all = [] then 9 else 0 := by
  unfold St.possible
  rw [if_pos hc, St.items_all]
  by_cases h : s.all = []
  · rw [h]; rfl
  · rw [if_neg h, if_neg]
    intro e
    exact h (List.map_eq_nil_iff.1 e)
attribute [local simp] retFz frzL AS.frz AV.frz AV.frzL Box.frz AS.tidy
end Go.Proofs.YtaffbiibcfeigaaGreat
