/- Contracts of the reference (tensileref04): Middle. (Several texts in one.) -/
import Derived.Test.YtaffbiibcfeigaaGreatStC
set_option linter.unusedVariables false
set_option linter.unusedSimpArgs false
/-! Contracts of the reference (tensileref04): Middle. -/
namespace Go.Proofs.YtaffbiibcfeigaaGreat
open Go.RowKit
attribute [local simp] Box.purge Site.isLoc
set_option maxRecDepth 10000
set_option linter.unusedSimpArgs false
end Go.Proofs.YtaffbiibcfeigaaGreat
/-! Contracts of the reference (tensileref04): the middle of a history. -/
namespace Go.Proofs.YtaffbiibcfeigaaGreat
open Go.RowKit
attribute [local simp] Box.purge Site.isLoc
set_option maxRecDepth 10000
set_option linter.unusedSimpArgs false
end Go.Proofs.YtaffbiibcfeigaaGreat
/-! The statement StairMiddles answers true. -/
namespace Go.Proofs.YtaffbiibcfeigaaGreat
open Go.RowKit
attribute [local simp] Box.purge Site.isLoc
set_option maxRecDepth 10000
set_option linter.unusedSimpArgs false
theorem St.next8 {s : St} (hs : 1 ≤ s.levels) {v : Int} (hv : 0 ≤ v ∧ v ≤ s.levels - 1) (k : Int) : 0 ≤ s.next v k ∧ s.next v k ≤ s.levels - 1 := by
  unfold St.next
  split <;> omega
end Go.Proofs.YtaffbiibcfeigaaGreat
/-! Plain laws of layer 4 (stair): lists in rising order; least and greatest ends; what is looser has more histories. -/
namespace Go.Proofs.YtaffbiibcfeigaaGreat
open Go.RowKit
/-! ### Rising order -/
theorem sorted_le_iff : ∀ (L : List Int) (k : Nat) (y x : Int), L.Pairwise (· ≤ ·) → L[k]? = some y → (y ≤ x ↔ k < L.countP fun z => decide (z ≤ x))
  | [], k, y, x, _, h => by simp at h
  | a :: L, 0, y, x, hs, h => by
    simp at h; subst h
    constructor
    · intro h1
      rw [List.countP_cons]
      simp [h1]
    · intro h1
      rcases Int.lt_or_le x a with h2 | h2
      · exfalso
        have h0 : (a :: L).countP (fun z => decide (z ≤ x)) = 0 := by
          rw [List.countP_eq_zero]
          intro z hz
          rcases List.mem_cons.1 hz with rfl | hz
          · simp; omega
          · have := (List.pairwise_cons.1 hs).1 z hz
            simp; omega
        omega
      · exact h2
  | a :: L, k + 1, y, x, hs, h => by
    have hL := (List.pairwise_cons.1 hs).2
    have h' : L[k]? = some y := by simpa using h
    have ih := sorted_le_iff L k y x hL h'
    have hay := (List.pairwise_cons.1 hs).1 y (List.mem_of_getElem? h')
    rw [List.countP_cons, ih]
    constructor
    · intro h1
      have hy : y ≤ x := ih.2 h1
      have : a ≤ x := by omega
      simp [this]; omega
    · intro h1
      by_cases ha : a ≤ x
      · simp [ha] at h1; omega
      · exfalso
        have h0 : L.countP (fun z => decide (z ≤ x)) = 0 := by
          rw [List.countP_eq_zero]
          intro z hz
          have := (List.pairwise_cons.1 hs).1 z hz
          simp; omega
        simp [ha] at h1; omega
theorem countP_mono : ∀ {l l' : List Int} (x : Int), l.length = l'.length → (∀ (j : Nat) (a b : Int), l[j]? = some a → l'[j]? = some b → a ≤ b) → l'.countP (fun z => decide (z ≤ x)) ≤ l.countP (fun z => decide (z ≤ x))
  | [], [], x, _, _ => Nat.le_refl _
  | [], _ :: _, x, h, _ => by simp at h
  | _ :: _, [], x, h, _ => by simp at h
  | a :: l, b :: l', x, h, hle => by
    have ih := countP_mono (l := l) (l' := l') x (by simpa using h) (fun j a b h1 h2 => hle (j + 1) a b (by simpa using h1) (by simpa using h2))
    have h0 := hle 0 a b rfl rfl
    rw [List.countP_cons, List.countP_cons]
    by_cases hb : b ≤ x
    · have ha : a ≤ x := by omega
      simp [ha, hb]; exact ih
    · simp [hb]; omega
theorem sortI_mono {l l' : List Int} (hl : l.length = l'.length) (hle : ∀ (j : Nat) (a b : Int), l[j]? = some a → l'[j]? = some b → a ≤ b) {k : Nat} {a b : Int} (ha : (sortI l)[k]? = some a) (hb : (sortI l')[k]? = some b) : a ≤ b := by
  rw [sorted_le_iff _ k a b (sortI_sorted l) ha, (sortI_perm l).countP_eq]
  have h1 := (sorted_le_iff _ k b b (sortI_sorted l') hb).1 (Int.le_refl b)
  rw [(sortI_perm l').countP_eq] at h1
  exact Nat.lt_of_lt_of_le h1 (countP_mono b hl hle)
/-! ### The ends of a rank's span -/
theorem EndS.fold_false {s : St} {rank : Nat} : ∀ (l : List (List Int × List Int)) (c : EndS) (P : Int → Prop), (∀ p ∈ l, P (s.rk rank false p)) → (c.best.isSome = true → P c.lim) → (l ≠ [] ∨ c.best.isSome = true) →
    P (l.foldl (fun c p => c.step false (s.rk rank false p) p) c).lim ∧ (∀ p ∈ l, (l.foldl (fun c p => c.step false (s.rk rank false p) p) c).lim ≤ s.rk rank false p) ∧ (c.best.isSome = true → (l.foldl (fun c p => c.step false (s.rk rank false p) p) c).lim ≤ c.lim)
  | [], c, P, h1, h2, h3 => by
    rcases h3 with h3 | h3
    · exact absurd rfl h3
    · exact ⟨h2 h3, fun p hp => by simp at hp, fun _ => Int.le_refl _⟩
  | p :: l, c, P, h1, h2, h3 => by
    rw [List.foldl_cons]
    obtain ⟨best, lim⟩ := c
    have h0 := h1 p (by simp)
    cases best with
    | none =>
      have e : EndS.step false ⟨none, lim⟩ (s.rk rank false p) p = ⟨some p, s.rk rank false p⟩ := rfl
      rw [e]
      obtain ⟨k1, k2, k3⟩ := EndS.fold_false l ⟨some p, s.rk rank false p⟩ P (fun q hq => h1 q (by simp [hq])) (fun _ => h0) (.inr rfl)
      refine ⟨k1, fun q hq => ?_, fun h => by cases h⟩
      rcases List.mem_cons.1 hq with rfl | hq
      · exact k3 rfl
      · exact k2 q hq
    | some b =>
      by_cases hlt : s.rk rank false p < lim
      · have e : EndS.step false ⟨some b, lim⟩ (s.rk rank false p) p = ⟨some p, s.rk rank false p⟩ := by simp only [EndS.step]; rw [if_pos hlt]
        rw [e]
        obtain ⟨k1, k2, k3⟩ := EndS.fold_false l ⟨some p, s.rk rank false p⟩ P (fun q hq => h1 q (by simp [hq])) (fun _ => h0) (.inr rfl)
        have k3 := k3 rfl
        simp only at k3
        refine ⟨k1, fun q hq => ?_, fun _ => ?_⟩
        · rcases List.mem_cons.1 hq with rfl | hq
          · exact k3
          · exact k2 q hq
        · show _ ≤ lim
          omega
      · have e : EndS.step false ⟨some b, lim⟩ (s.rk rank false p) p = ⟨some b, lim⟩ := by simp only [EndS.step]; rw [if_neg hlt]
        rw [e]
        obtain ⟨k1, k2, k3⟩ := EndS.fold_false l ⟨some b, lim⟩ P (fun q hq => h1 q (by simp [hq])) (fun _ => h2 rfl) (.inr rfl)
        have k3 := k3 rfl
        simp only at k3
        refine ⟨k1, fun q hq => ?_, fun _ => k3⟩
        rcases List.mem_cons.1 hq with rfl | hq
        · omega
        · exact k2 q hq
theorem EndS.fold_true {s : St} {rank : Nat} : ∀ (l : List (List Int × List Int)) (c : EndS) (P : Int → Prop), (∀ p ∈ l, P (s.rk rank true p)) → (c.best.isSome = true → P c.lim) → (l ≠ [] ∨ c.best.isSome = true) →
    P (l.foldl (fun c p => c.step true (s.rk rank true p) p) c).lim ∧ (∀ p ∈ l, s.rk rank true p ≤ (l.foldl (fun c p => c.step true (s.rk rank true p) p) c).lim) ∧ (c.best.isSome = true → c.lim ≤ (l.foldl (fun c p => c.step true (s.rk rank true p) p) c).lim)
  | [], c, P, h1, h2, h3 => by
    rcases h3 with h3 | h3
    · exact absurd rfl h3
    · exact ⟨h2 h3, fun p hp => by simp at hp, fun _ => Int.le_refl _⟩
  | p :: l, c, P, h1, h2, h3 => by
    rw [List.foldl_cons]
    obtain ⟨best, lim⟩ := c
    have h0 := h1 p (by simp)
    cases best with
    | none =>
      have e : EndS.step true ⟨none, lim⟩ (s.rk rank true p) p = ⟨some p, s.rk rank true p⟩ := rfl
      rw [e]
      obtain ⟨k1, k2, k3⟩ := EndS.fold_true l ⟨some p, s.rk rank true p⟩ P (fun q hq => h1 q (by simp [hq])) (fun _ => h0) (.inr rfl)
      refine ⟨k1, fun q hq => ?_, fun h => by cases h⟩
      rcases List.mem_cons.1 hq with rfl | hq
      · exact k3 rfl
      · exact k2 q hq
    | some b =>
      by_cases hlt : s.rk rank true p > lim
      · have e : EndS.step true ⟨some b, lim⟩ (s.rk rank true p) p = ⟨some p, s.rk rank true p⟩ := by simp only [EndS.step]; rw [if_pos hlt]
        rw [e]
        obtain ⟨k1, k2, k3⟩ := EndS.fold_true l ⟨some p, s.rk rank true p⟩ P (fun q hq => h1 q (by simp [hq])) (fun _ => h0) (.inr rfl)
        have k3 := k3 rfl
        simp only at k3
        refine ⟨k1, fun q hq => ?_, fun _ => ?_⟩
        · rcases List.mem_cons.1 hq with rfl | hq
          · exact k3
          · exact k2 q hq
        · show lim ≤ _
          omega
      · have e : EndS.step true ⟨some b, lim⟩ (s.rk rank true p) p = ⟨some b, lim⟩ := by simp only [EndS.step]; rw [if_neg hlt]
        rw [e]
        obtain ⟨k1, k2, k3⟩ := EndS.fold_true l ⟨some b, lim⟩ P (fun q hq => h1 q (by simp [hq])) (fun _ => h2 rfl) (.inr rfl)
        have k3 := k3 rfl
        simp only at k3
        refine ⟨k1, fun q hq => ?_, fun _ => k3⟩
        rcases List.mem_cons.1 hq with rfl | hq
        · omega
        · exact k2 q hq
theorem St.lo_spec {s : St} (h : s.possible = 0) (rank : Nat) : (∃ p ∈ s.all, (s.endS rank false).lim = s.rk rank false p) ∧ ∀ p ∈ s.all, (s.endS rank false).lim ≤ s.rk rank false p := by
  obtain ⟨k1, k2, _⟩ := EndS.fold_false (s := s) (rank := rank) s.all ⟨none, 0⟩ (fun n => ∃ p ∈ s.all, n = s.rk rank false p) (fun p hp => ⟨p, hp, rfl⟩) (fun h => by cases h) (.inl (St.all_ne h))
  exact ⟨k1, k2⟩
theorem St.hi_spec {s : St} (h : s.possible = 0) (rank : Nat) : (∃ p ∈ s.all, (s.endS rank true).lim = s.rk rank true p) ∧ ∀ p ∈ s.all, s.rk rank true p ≤ (s.endS rank true).lim := by
  obtain ⟨k1, k2, _⟩ := EndS.fold_true (s := s) (rank := rank) s.all ⟨none, 0⟩ (fun n => ∃ p ∈ s.all, n = s.rk rank true p) (fun p hp => ⟨p, hp, rfl⟩) (fun h => by cases h) (.inl (St.all_ne h))
  exact ⟨k1, k2⟩
/-! ### What is looser -/
/-! ### The span of the middle -/
end Go.Proofs.YtaffbiibcfeigaaGreat
/-! Plain laws of layer 4 (stair): ranks. -/
namespace Go.Proofs.YtaffbiibcfeigaaGreat
open Go.RowKit
theorem St.rk_get {s : St} (hc : s.check = 0) {p : List Int × List Int} (hp : p ∈ s.all) {k : Nat} (hk : k < s.runs.length) (high : Bool) : (sortI (s.lims high p.1 p.2))[k]? = some (s.rk k high p) := by
  obtain ⟨h1, h2, _, _⟩ := St.all_ok hc hp
  unfold St.rk
  rw [List.getElem?_eq_getElem (by rw [sortI_len, St.lims_len (by omega)]; omega)]
  rfl
theorem St.rank_at {s : St} (h : s.possible = 0) {k : Nat} (hk : k < s.runs.length) : s.rank (k : Int) = (((s.endS k false).lim, (s.endS k true).lim), 0) := by
  have ha : s.asked (k : Int) = 0 := by unfold St.asked; rw [if_pos h, if_pos (by omega)]
  unfold St.rank
  rw [if_pos ha]; rfl
/-- All runs stopped. -/
def St.still (s : St) : St := ⟨s.levels, s.start, s.runs.map fun _ => ⟨s.start, 2⟩⟩
end Go.Proofs.YtaffbiibcfeigaaGreat
