/- Layer 10 (queue), plain law: the reason is the first of all lists of runs that lack room. (Several texts in one.) -/
import Derived.Test.YtohhjnpiiackjaaQuH
import Derived.Test.YtohhjnpiiackjaaQuE
set_option linter.unusedVariables false
set_option linter.unusedSimpArgs false
/-! Layer 10 (queue), plain law: the reason is the first of all lists of runs that lack room. -/
namespace Go.Proofs.Ytohhjnpiiackjaa
open Go.RowKit
set_option linter.unusedSimpArgs false
def lackB (q : Qu) (u : Nat) (l : List Int) : Bool := decide ((q.roomM l u : Int) < q.needs l)
/-- The lists are looked at, one after the other. -/
def firstF (P : List Int → Bool) : List (List Int) → Option (List Int) → Option (List Int) × Bool
  | [], o => (o, false)
  | l :: r, _ => if P l = true then (some l, true) else firstF P r (some l)
def loopL (rec : Nat → List (List Int)) : Nat → Nat → List (List Int)
  | 0, _ => []
  | f + 1, k => rec k ++ loopL rec f (k + 1)
/-- The lists that begin so, with so many more, from one on. -/
def listsM (n : Nat) : Nat → List Int → Nat → List (List Int)
  | 0, B, _ => [B]
  | m + 1, B, next => loopL (fun k => listsM n m (B ++ [(k : Int)]) (k + 1)) (n - next) next
def allL (n : Nat) : List (List Int) := loopL (fun k => listsM n k [] 0) n 1
theorem firstF_app {P : List Int → Bool} : ∀ (a b : List (List Int)) (o : Option (List Int)), firstF P (a ++ b) o = if (firstF P a o).2 = true then firstF P a o else firstF P b (firstF P a o).1
  | [], b, o => rfl
  | l :: a, b, o => by
    have ih := firstF_app (P := P) a b (some l)
    have e1 : firstF P (l :: a) o = if P l = true then (some l, true) else firstF P a (some l) := rfl
    have e2 : firstF P (l :: (a ++ b)) o = if P l = true then (some l, true) else firstF P (a ++ b) (some l) := rfl
    rw [List.cons_append, e1, e2]
    by_cases h : P l = true
    · simp [h]
    · simp only [if_neg h]
      rw [ih]
theorem loopR_is {P : List Int → Bool} {rec : Nat → Option (List Int) → Option (List Int) × Bool} {recL : Nat → List (List Int)} (h : ∀ k o, rec k o = firstF P (recL k) o) : ∀ (f k : Nat) (o : Option (List Int)), loopR rec f k o = firstF P (loopL recL f k) o
  | 0, k, o => rfl
  | f + 1, k, o => by
    unfold loopR loopL
    rw [firstF_app, h, loopR_is h f (k + 1)]
theorem fromM_is {q : Qu} {u : Nat} : ∀ (m : Nat) (L : List Int) (next : Nat) (o : Option (List Int)), fromM q u m L next o = firstF (lackB q u) (listsM q.rs.length m L next) o
  | 0, L, next, o => by
    show (some L, lackB q u L) = (if lackB q u L = true then _ else _)
    cases lackB q u L <;> rfl
  | m + 1, L, next, o => loopR_is (fun k o => fromM_is m (L ++ [(k : Int)]) (k + 1) o) _ _ _
theorem manyL_is {q : Qu} {u : Nat} : ∀ (f k : Nat) (o : Option (List Int)), manyL q u f k o = (firstF (lackB q u) (loopL (fun k => listsM q.rs.length k [] 0) f k) o).1
  | 0, k, o => rfl
  | f + 1, k, o => by
    unfold manyL loopL
    rw [firstF_app, fromM_is, manyL_is f (k + 1)]
    split <;> rfl
theorem firstF_find {P : List Int → Bool} : ∀ (l : List (List Int)) (o : Option (List Int)) (x : List Int), l.find? P = some x → firstF P l o = (some x, true)
  | [], o, x, h => by cases h
  | y :: l, o, x, h => by
    rw [List.find?_cons] at h
    unfold firstF
    cases hy : P y with
    | true => rw [hy] at h; cases h; rfl
    | false =>
      rw [hy] at h
      simp only [Bool.false_eq_true, if_false]
      exact firstF_find l (some y) x h
/-- Rising numbers from one on. -/
def Ris (n : Nat) : Nat → List Int → Prop
  | _, [] => True
  | next, y :: s => ∃ k : Nat, y = (k : Int) ∧ next ≤ k ∧ k < n ∧ Ris n (k + 1) s
theorem mem_loopL {rec : Nat → List (List Int)} {x : List Int} : ∀ (f k : Nat), x ∈ loopL rec f k ↔ ∃ i, k ≤ i ∧ i < k + f ∧ x ∈ rec i
  | 0, k => by
    constructor
    · intro h; cases h
    · rintro ⟨i, h1, h2, _⟩; omega
  | f + 1, k => by
    unfold loopL
    rw [List.mem_append, mem_loopL f (k + 1)]
    constructor
    · rintro (h | ⟨i, h1, h2, h3⟩)
      · exact ⟨k, Nat.le_refl _, by omega, h⟩
      · exact ⟨i, by omega, by omega, h3⟩
    · rintro ⟨i, h1, h2, h3⟩
      by_cases e : i = k
      · subst e; exact .inl h3
      · exact .inr ⟨i, by omega, by omega, h3⟩
theorem mem_lists {n : Nat} {x : List Int} : ∀ (m : Nat) (B : List Int) (next : Nat), x ∈ listsM n m B next ↔ ∃ s, x = B ++ s ∧ s.length = m ∧ Ris n next s
  | 0, B, next => by
    show x ∈ [B] ↔ _
    rw [List.mem_singleton]
    constructor
    · rintro rfl; exact ⟨[], by simp, rfl, trivial⟩
    · rintro ⟨s, h1, h2, _⟩
      rw [List.length_eq_zero_iff.1 h2] at h1
      simpa using h1
  | m + 1, B, next => by
    show x ∈ loopL _ _ _ ↔ _
    rw [mem_loopL]
    constructor
    · rintro ⟨k, h1, h2, h3⟩
      obtain ⟨s, e1, e2, e3⟩ := (mem_lists m _ _).1 h3
      exact ⟨(k : Int) :: s, by rw [e1]; simp, by simp [e2], k, rfl, h1, by omega, e3⟩
    · rintro ⟨s, e1, e2, e3⟩
      cases s with
      | nil => cases e2
      | cons y s =>
        obtain ⟨k, rfl, k1, k2, k3⟩ := e3
        exact ⟨k, k1, by omega, (mem_lists m _ _).2 ⟨s, by rw [e1]; simp, by simpa using e2, k3⟩⟩
theorem Ris.inc {n : Nat} : ∀ {next : Nat} {s : List Int}, Ris n next s → s.Pairwise (· < ·) ∧ ∀ x ∈ s, (next : Int) ≤ x ∧ x < n
  | next, [], _ => ⟨List.Pairwise.nil, fun x hx => by cases hx⟩
  | next, y :: s, ⟨k, e, h1, h2, h3⟩ => by
    subst e
    obtain ⟨a, b⟩ := Ris.inc h3
    refine ⟨List.pairwise_cons.2 ⟨fun x hx => by have := b x hx; omega, a⟩, fun x hx => ?_⟩
    rcases List.mem_cons.1 hx with e | e
    · subst e; omega
    · have := b x e; omega
theorem Ris.of {n : Nat} : ∀ {next : Nat} {s : List Int}, s.Pairwise (· < ·) → (∀ x ∈ s, (next : Int) ≤ x ∧ x < n) → Ris n next s
  | next, [], _, _ => trivial
  | next, y :: s, h1, h2 => by
    rw [List.pairwise_cons] at h1
    have hy := h2 y (by simp)
    refine ⟨y.toNat, by omega, by omega, by omega, Ris.of h1.2 fun x hx => ?_⟩
    have := h1.1 x hx
    have := h2 x (by simp [hx])
    omega
theorem rising_of {q : Qu} {l : List Int} (hp : l.Pairwise (· < ·)) (hin : ∀ x ∈ l, 0 ≤ x ∧ x < q.rs.length) : q.rising l = true := by
  unfold Qu.rising
  rw [List.all_eq_true]
  intro i hi
  rw [List.mem_range] at hi
  have hx : l[i]? = some l[i] := List.getElem?_eq_getElem hi
  have hr := hin _ (List.getElem_mem hi)
  unfold Qu.risAt
  rw [hx, Option.getD_some]
  simp only [Bool.and_eq_true, Bool.or_eq_true, decide_eq_true_eq]
  refine ⟨⟨by omega, by omega⟩, ?_⟩
  by_cases h0 : i = 0
  · exact .inl h0
  · right
    have hy : l[i - 1]? = some (l[i - 1]'(by omega)) := List.getElem?_eq_getElem (by omega)
    rw [hy, Option.getD_some]
    exact List.pairwise_iff_getElem.1 hp (i - 1) i (by omega) hi (by omega)
theorem rising_inc {q : Qu} {l : List Int} (h : q.rising l = true) : l.Pairwise (· < ·) := by
  have hs : ∀ i : Nat, i + 1 < l.length → ∀ x y : Int, l[i]? = some x → l[i + 1]? = some y → x < y := fun i hi x y hx hy => by
    simp only [Qu.rising, List.all_eq_true, List.mem_range] at h
    have := h (i + 1) hi
    simp only [Qu.risAt, hx, hy, Option.getD_some, Bool.and_eq_true, Bool.or_eq_true, decide_eq_true_eq, Nat.add_sub_cancel] at this
    omega
  have hm : ∀ d i : Nat, ∀ x y : Int, l[i]? = some x → l[i + d + 1]? = some y → x < y := by
    intro d
    induction d with
    | zero => exact fun i x y hx hy => hs i (List.getElem?_eq_some_iff.1 hy).1 x y hx hy
    | succ d ih =>
        intro i x y hx hy
        have hl := (List.getElem?_eq_some_iff.1 hy).1
        have hz : l[i + d + 1]? = some l[i + d + 1] := List.getElem?_eq_getElem (by omega)
        have h1 := ih i x _ hx hz
        have h2 := hs (i + d + 1) (by omega) _ y hz (by rw [← hy]; congr 1)
        omega
  rw [List.pairwise_iff_getElem]
  intro i j hi hj hij
  obtain ⟨d, rfl⟩ : ∃ d, j = i + d + 1 := ⟨j - i - 1, by omega⟩
  exact hm d i _ _ (List.getElem?_eq_getElem hi) (List.getElem?_eq_getElem hj)
theorem mem_allL {q : Qu} {x : List Int} : x ∈ allL q.rs.length ↔ q.rising x = true ∧ x ≠ [] := by
  unfold allL
  rw [mem_loopL]
  constructor
  · rintro ⟨k, h1, _, h3⟩
    obtain ⟨s, e1, e2, e3⟩ := (mem_lists k _ _).1 h3
    rw [List.nil_append] at e1
    subst e1
    obtain ⟨a, b⟩ := e3.inc
    exact ⟨rising_of a fun y hy => by have := b y hy; omega, fun e => by subst e; simp at e2; omega⟩
  · rintro ⟨h1, h2⟩
    have hl : x.length ≤ q.rs.length := by
      have hR := Runs.of_rising h1
      have := nodup_lt q.rs.length (x.map Int.toNat) (by
        rw [List.nodup_iff_pairwise_ne, List.pairwise_map]
        refine List.Pairwise.imp_of_mem ?_ (rising_inc h1)
        intro a b ha hb hlt e
        have := hR.inn a ha
        have := hR.inn b hb
        omega) (fun y hy => by
        obtain ⟨z, hz, rfl⟩ := List.mem_map.1 hy
        have := hR.inn z hz
        omega)
      simpa using this
    have h0 : 0 < x.length := List.length_pos_iff.2 h2
    exact ⟨x.length, by omega, by omega, (mem_lists _ _ _).2 ⟨x, by simp, rfl, Ris.of (rising_inc h1) fun y hy => by have := (Runs.of_rising h1).inn y hy; omega⟩⟩
/-- If some runs lack room, the reason is the first list of those that do. -/
theorem lack_find {q : Qu} {u : Nat} (h : Lack q u) : ∃ x, (allL q.rs.length).find? (lackB q u) = some x ∧ (manyL q u q.rs.length 1 none).getD [] = x ∧ q.rising x = true ∧ x ≠ [] ∧ (q.roomM x u : Int) < q.needs x := by
  obtain ⟨R, h1, h2⟩ := h
  have hne : R ≠ [] := fun e => by subst e; have : q.needs [] = 0 := rfl; omega
  have hm := mem_allL.2 ⟨h1, hne⟩
  cases hf : (allL q.rs.length).find? (lackB q u) with
  | none =>
    rw [List.find?_eq_none] at hf
    have := hf R hm
    simp [lackB] at this
    omega
  | some x =>
    have a := mem_allL.1 (List.mem_of_find?_eq_some hf)
    have b := List.find?_some hf
    refine ⟨x, rfl, ?_, a.1, a.2, by simpa [lackB] using b⟩
    rw [manyL_is]
    have e : loopL (fun k => listsM q.rs.length k [] 0) q.rs.length 1 = allL q.rs.length := rfl
    rw [e, firstF_find _ _ _ hf]; rfl
end Go.Proofs.Ytohhjnpiiackjaa
