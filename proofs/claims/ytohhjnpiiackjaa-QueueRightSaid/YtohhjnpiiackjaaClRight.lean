/- Layer 10 (queue), plain law: the reason is the first of all lists of runs that lack room. (Several texts in one.) -/
import Derived.Test.YtohhjnpiiackjaaQuH
import Derived.Test.YtohhjnpiiackjaaQuE
import Derived.Test.YtohhjnpiiackjaaRows
import Derived.WalkKit
import Derived.ProofKit
import Derived.OpenShut
set_option linter.unusedVariables false
set_option linter.unusedSimpArgs false
/-! Layer 10 (queue), plain law: the reason is the first of all lists of runs that lack room. -/
namespace Go.Proofs.Ytohhjnpiiackjaa
open Go.RowKit

set_option linter.unusedSimpArgs false
def lackB (q : Qu) (u : Nat) (l : List Int) : Bool := decide ((q.roomM l u : Int) < q.needs l)
/-- The lists are looked at, one after the other. -/
def firstF (P : List Int → Bool) : List (List Int) → Option (List Int) → Option (List Int) × Bool
  | [], o => (o, false)
  | l :: r, _ => if P l = true then (some l, true) else firstF P r (some l)
def loopL (rec : Nat → List (List Int)) : Nat → Nat → List (List Int)
  | 0, _ => []
  | f + 1, k => rec k ++ loopL rec f (k + 1)
/-- The lists that begin so, with so many more, from one on. -/
def listsM (n : Nat) : Nat → List Int → Nat → List (List Int)
  | 0, B, _ => [B]
  | m + 1, B, next => loopL (fun k => listsM n m (B ++ [(k : Int)]) (k + 1)) (n - next) next
def allL (n : Nat) : List (List Int) := loopL (fun k => listsM n k [] 0) n 1
theorem firstF_app {P : List Int → Bool} : ∀ (a b : List (List Int)) (o : Option (List Int)), firstF P (a ++ b) o = if (firstF P a o).2 = true then firstF P a o else firstF P b (firstF P a o).1
  | [], b, o => rfl
  | l :: a, b, o => by
    have ih := firstF_app (P := P) a b (some l)
    have e1 : firstF P (l :: a) o = if P l = true then (some l, true) else firstF P a (some l) := rfl
    have e2 : firstF P (l :: (a ++ b)) o = if P l = true then (some l, true) else firstF P (a ++ b) (some l) := rfl
    rw [List.cons_append, e1, e2]
    by_cases h : P l = true
    · simp [h]
    · simp only [if_neg h]
      rw [ih]
theorem loopR_is {P : List Int → Bool} {rec : Nat → Option (List Int) → Option (List Int) × Bool} {recL : Nat → List (List Int)} (h : ∀ k o, rec k o = firstF P (recL k) o) : ∀ (f k : Nat) (o : Option (List Int)), loopR rec f k o = firstF P (loopL recL f k) o
  | 0, k, o => rfl
  | f + 1, k, o => by
    unfold loopR loopL
    rw [firstF_app, h, loopR_is h f (k + 1)]
theorem fromM_is {q : Qu} {u : Nat} : ∀ (m : Nat) (L : List Int) (next : Nat) (o : Option (List Int)), fromM q u m L next o = firstF (lackB q u) (listsM q.rs.length m L next) o
  | 0, L, next, o => by
    show (some L, lackB q u L) = (if lackB q u L = true then _ else _)
    cases lackB q u L <;> rfl
  | m + 1, L, next, o => loopR_is (fun k o => fromM_is m (L ++ [(k : Int)]) (k + 1) o) _ _ _
theorem manyL_is {q : Qu} {u : Nat} : ∀ (f k : Nat) (o : Option (List Int)), manyL q u f k o = (firstF (lackB q u) (loopL (fun k => listsM q.rs.length k [] 0) f k) o).1
  | 0, k, o => rfl
  | f + 1, k, o => by
    unfold manyL loopL
    rw [firstF_app, fromM_is, manyL_is f (k + 1)]
    split <;> rfl
theorem firstF_find {P : List Int → Bool} : ∀ (l : List (List Int)) (o : Option (List Int)) (x : List Int), l.find? P = some x → firstF P l o = (some x, true)
  | [], o, x, h => by cases h
  | y :: l, o, x, h => by
    rw [List.find?_cons] at h
    unfold firstF
    cases hy : P y with
    | true => rw [hy] at h; cases h; rfl
    | false =>
      rw [hy] at h
      simp only [Bool.false_eq_true, if_false]
      exact firstF_find l (some y) x h
/-- Rising numbers from one on. -/
def Ris (n : Nat) : Nat → List Int → Prop
  | _, [] => True
  | next, y :: s => ∃ k : Nat, y = (k : Int) ∧ next ≤ k ∧ k < n ∧ Ris n (k + 1) s
theorem mem_loopL {rec : Nat → List (List Int)} {x : List Int} : ∀ (f k : Nat), x ∈ loopL rec f k ↔ ∃ i, k ≤ i ∧ i < k + f ∧ x ∈ rec i
  | 0, k => by
    constructor
    · intro h; cases h
    · rintro ⟨i, h1, h2, _⟩; omega
  | f + 1, k => by
    unfold loopL
    rw [List.mem_append, mem_loopL f (k + 1)]
    constructor
    · rintro (h | ⟨i, h1, h2, h3⟩)
      · exact ⟨k, Nat.le_refl _, by omega, h⟩
      · exact ⟨i, by omega, by omega, h3⟩
    · rintro ⟨i, h1, h2, h3⟩
      by_cases e : i = k
      · subst e; exact .inl h3
      · exact .inr ⟨i, by omega, by omega, h3⟩
theorem mem_lists {n : Nat} {x : List Int} : ∀ (m : Nat) (B : List Int) (next : Nat), x ∈ listsM n m B next ↔ ∃ s, x = B ++ s ∧ s.length = m ∧ Ris n next s
  | 0, B, next => by
    show x ∈ [B] ↔ _
    rw [List.mem_singleton]
    constructor
    · rintro rfl; exact ⟨[], by simp, rfl, trivial⟩
    · rintro ⟨s, h1, h2, _⟩
      rw [List.length_eq_zero_iff.1 h2] at h1
      simpa using h1
  | m + 1, B, next => by
    show x ∈ loopL _ _ _ ↔ _
    rw [mem_loopL]
    constructor
    · rintro ⟨k, h1, h2, h3⟩
      obtain ⟨s, e1, e2, e3⟩ := (mem_lists m _ _).1 h3
      exact ⟨(k : Int) :: s, by rw [e1]; simp, by simp [e2], k, rfl, h1, by omega, e3⟩
    · rintro ⟨s, e1, e2, e3⟩
      cases s with
      | nil => cases e2
      | cons y s =>
        obtain ⟨k, rfl, k1, k2, k3⟩ := e3
        exact ⟨k, k1, by omega, (mem_lists m _ _).2 ⟨s, by rw [e1]; simp, by simpa using e2, k3⟩⟩
theorem Ris.inc {n : Nat} : ∀ {next : Nat} {s : List Int}, Ris n next s → s.Pairwise (· < ·) ∧ ∀ x ∈ s, (next : Int) ≤ x ∧ x < n
  | next, [], _ => ⟨List.Pairwise.nil, fun x hx => by cases hx⟩
  | next, y :: s, ⟨k, e, h1, h2, h3⟩ => by
    subst e
    obtain ⟨a, b⟩ := Ris.inc h3
    refine ⟨List.pairwise_cons.2 ⟨fun x hx => by have := b x hx; omega, a⟩, fun x hx => ?_⟩
    rcases List.mem_cons.1 hx with e | e
    · subst e; omega
    · have := b x e; omega
theorem Ris.of {n : Nat} : ∀ {next : Nat} {s : List Int}, s.Pairwise (· < ·) → (∀ x ∈ s, (next : Int) ≤ x ∧ x < n) → Ris n next s
  | next, [], _, _ => trivial
  | next, y :: s, h1, h2 => by
    rw [List.pairwise_cons] at h1
    have hy := h2 y (by simp)
    refine ⟨y.toNat, by omega, by omega, by omega, Ris.of h1.2 fun x hx => ?_⟩
    have := h1.1 x hx
    have := h2 x (by simp [hx])
    omega
theorem rising_of {q : Qu} {l : List Int} (hp : l.Pairwise (· < ·)) (hin : ∀ x ∈ l, 0 ≤ x ∧ x < q.rs.length) : q.rising l = true := by
  unfold Qu.rising
  rw [List.all_eq_true]
  intro i hi
  rw [List.mem_range] at hi
  have hx : l[i]? = some l[i] := List.getElem?_eq_getElem hi
  have hr := hin _ (List.getElem_mem hi)
  unfold Qu.risAt
  rw [hx, Option.getD_some]
  simp only [Bool.and_eq_true, Bool.or_eq_true, decide_eq_true_eq]
  refine ⟨⟨by omega, by omega⟩, ?_⟩
  by_cases h0 : i = 0
  · exact .inl h0
  · right
    have hy : l[i - 1]? = some (l[i - 1]'(by omega)) := List.getElem?_eq_getElem (by omega)
    rw [hy, Option.getD_some]
    exact List.pairwise_iff_getElem.1 hp (i - 1) i (by omega) hi (by omega)
theorem rising_inc {q : Qu} {l : List Int} (h : q.rising l = true) : l.Pairwise (· < ·) := by
  have hs : ∀ i : Nat, i + 1 < l.length → ∀ x y : Int, l[i]? = some x → l[i + 1]? = some y → x < y := fun i hi x y hx hy => by
    simp only [Qu.rising, List.all_eq_true, List.mem_range] at h
    have := h (i + 1) hi
    simp only [Qu.risAt, hx, hy, Option.getD_some, Bool.and_eq_true, Bool.or_eq_true, decide_eq_true_eq, Nat.add_sub_cancel] at this
    omega
  have hm : ∀ d i : Nat, ∀ x y : Int, l[i]? = some x → l[i + d + 1]? = some y → x < y := by
    intro d
    induction d with
    | zero => exact fun i x y hx hy => hs i (List.getElem?_eq_some_iff.1 hy).1 x y hx hy
    | succ d ih =>
        intro i x y hx hy
        have hl := (List.getElem?_eq_some_iff.1 hy).1
        have hz : l[i + d + 1]? = some l[i + d + 1] := List.getElem?_eq_getElem (by omega)
        have h1 := ih i x _ hx hz
        have h2 := hs (i + d + 1) (by omega) _ y hz (by rw [← hy]; congr 1)
        omega
  rw [List.pairwise_iff_getElem]
  intro i j hi hj hij
  obtain ⟨d, rfl⟩ : ∃ d, j = i + d + 1 := ⟨j - i - 1, by omega⟩
  exact hm d i _ _ (List.getElem?_eq_getElem hi) (List.getElem?_eq_getElem hj)
theorem mem_allL {q : Qu} {x : List Int} : x ∈ allL q.rs.length ↔ q.rising x = true ∧ x ≠ [] := by
  unfold allL
  rw [mem_loopL]
  constructor
  · rintro ⟨k, h1, _, h3⟩
    obtain ⟨s, e1, e2, e3⟩ := (mem_lists k _ _).1 h3
    rw [List.nil_append] at e1
    subst e1
    obtain ⟨a, b⟩ := e3.inc
    exact ⟨rising_of a fun y hy => by have := b y hy; omega, fun e => by subst e; simp at e2; omega⟩
  · rintro ⟨h1, h2⟩
    have hl : x.length ≤ q.rs.length := by
      have hR := Runs.of_rising h1
      have := nodup_lt q.rs.length (x.map Int.toNat) (by
        rw [List.nodup_iff_pairwise_ne, List.pairwise_map]
        refine List.Pairwise.imp_of_mem ?_ (rising_inc h1)
        intro a b ha hb hlt e
        have := hR.inn a ha
        have := hR.inn b hb
        omega) (fun y hy => by
        obtain ⟨z, hz, rfl⟩ := List.mem_map.1 hy
        have := hR.inn z hz
        omega)
      simpa using this
    have h0 : 0 < x.length := List.length_pos_iff.2 h2
    exact ⟨x.length, by omega, by omega, (mem_lists _ _ _).2 ⟨x, by simp, rfl, Ris.of (rising_inc h1) fun y hy => by have := (Runs.of_rising h1).inn y hy; omega⟩⟩
/-- If some runs lack room, the reason is the first list of those that do. -/
theorem lack_find {q : Qu} {u : Nat} (h : Lack q u) : ∃ x, (allL q.rs.length).find? (lackB q u) = some x ∧ (manyL q u q.rs.length 1 none).getD [] = x ∧ q.rising x = true ∧ x ≠ [] ∧ (q.roomM x u : Int) < q.needs x := by
  obtain ⟨R, h1, h2⟩ := h
  have hne : R ≠ [] := fun e => by subst e; have : q.needs [] = 0 := rfl; omega
  have hm := mem_allL.2 ⟨h1, hne⟩
  cases hf : (allL q.rs.length).find? (lackB q u) with
  | none =>
    rw [List.find?_eq_none] at hf
    have := hf R hm
    simp [lackB] at this
    omega
  | some x =>
    have a := mem_allL.1 (List.mem_of_find?_eq_some hf)
    have b := List.find?_some hf
    refine ⟨x, rfl, ?_, a.1, a.2, by simpa [lackB] using b⟩
    rw [manyL_is]
    have e : loopL (fun k => listsM q.rs.length k [] 0) q.rs.length 1 = allL q.rs.length := rfl
    rw [e, firstF_find _ _ _ hf]; rfl
end Go.Proofs.Ytohhjnpiiackjaa

/-! Layer 10 (queue): the law QueueRight. -/
namespace Go.Proofs.Ytohhjnpiiackjaa
open Go.RowKit

set_option maxRecDepth 10000
set_option linter.unusedSimpArgs false

attribute [local simp] AS.exp expG Box.ren AV.map AV.mapL outsOk noRet Site.isRet Box.allS AV.allS AV.allSL retB dropL AS.adds renL outG outOk lentBx inG fnOf lookA List.findIdx?_cons
attribute [local simp] Box.purge Site.isLoc
attribute [local simp] retFz frzL AS.frz AV.frz AV.frzL Box.frz AS.tidy AS.frzC
theorem reason_of {F : Nat} (hF : 407 < F) {q : Qu} (hs : q.small) (hc : q.check = 0) : Gives Try.prog 31 [q.pv] (if q.untilM F < 0 then .tup [intsP [], .int .i64 7] else .tup [intsP (q.reasM F), .int .i64 0]) := by
  have h1 := hs.m
  have h2 := hs.r
  have := reason_c hF q (by omega) (by omega) (fun l h => by have := hs.s l h; omega)
  unfold Qu.reasP at this
  rw [if_neg (by simp [hc])] at this
  exact this
theorem reason_lack {F : Nat} (hF : 407 < F) {q : Qu} (hs : q.small) (hc : q.check = 0) {u : Nat} (hu : q.untilM F = u) {x : List Int} (hx : (manyL q u q.rs.length 1 none).getD [] = x) : Gives Try.prog 31 [q.pv] (.tup [intsP x, .int .i64 0]) := by
  have := reason_of hF hs hc
  rw [if_neg (by omega)] at this
  unfold Qu.reasM at this
  rw [hu, Int.toNat_natCast, hx] at this
  exact this
theorem feas_room {q : Qu} (hq : q.ok) {T : Nat} (h : Feas q T) {R : List Int} (hR : Runs q R) : q.needs R ≤ (q.roomM R T : Int) := by
  obtain ⟨p, a, b, c⟩ := h
  have h3 := a.tot_le hq hR
  rw [tot_cnt hR.nodup fun x hx => (hR.inn x hx).1, b] at h3
  rw [needs_sum hR.inn c]
  omega
theorem feas_zero {q : Qu} (h : Feas q 0) {R : List Int} (h0 : ∀ x ∈ R, 0 ≤ x ∧ x < q.rs.length) : q.needs R = 0 := by
  obtain ⟨p, a, b, c⟩ := h
  have e : p = [] := List.length_eq_zero_iff.1 b
  subst e
  rw [needs_sum h0 c]
  clear h0
  induction R with
  | nil => rfl
  | cons x R ih => rw [List.map_cons, List.sum_cons]; have : cnt [] x.toNat = 0 := rfl; omega
theorem roomV {q : Qu} (hs : q.small) (hc : q.check = 0) {l : List Int} (hr : q.rising l = true) (hl : l.length ≤ 1000) {u : Nat} (hu : u ≤ 40) : Gives Try.prog 20 [q.pv, intsP l, .int .i64 u] (.tup [.int .i64 (q.roomM l u), .int .i64 0]) := by
  have := Room_c q hs l hl u
  have hm : manyB (u : Int) = true := by simp [manyB]; omega
  have e : q.roomErr l u = 0 := by unfold Qu.roomErr; rw [if_neg (by simp [hc]), if_pos ⟨hr, hm⟩]
  unfold Qu.roomP at this
  rw [e, if_pos rfl, Int.toNat_natCast] at this
  exact this
theorem rising_len {q : Qu} {l : List Int} (h : q.rising l = true) : l.length ≤ q.rs.length := by
  have hR := Runs.of_rising h
  have := nodup_lt q.rs.length (l.map Int.toNat) (by
    rw [List.nodup_iff_pairwise_ne, List.pairwise_map]
    refine List.Pairwise.imp_of_mem ?_ (rising_inc h)
    intro a b ha hb hlt e
    have := hR.inn a ha
    have := hR.inn b hb
    omega) (fun y hy => by
    obtain ⟨z, hz, rfl⟩ := List.mem_map.1 hy
    have := hR.inn z hz
    omega)
  simpa using this
def rtS (q : Qu) (b : Int) (x : List Int) (T A k : Nat) : AS := ⟨[(1, .pv (.int .u8 b)), (2, .ptr (.loc 2 0) 0), (6, .pv (.int .i64 T)), (8, .pv (intsP x)), (12, .pv (.int .i64 A)), (13, .pv (.int .i64 0)), (14, .vec (.loc 151 0) 1 0 (selL (bitF b) k).length), (15, .pv (.int .i64 k))], [(.loc 151 0, .arr 3 1 ((selL (bitF b) k).map intP)), (.loc 2 0, .cells q.cells)]⟩
set_option maxHeartbeats 8000000 in
theorem right_law (q : Qu) (b : Int) (hb : 0 ≤ b ∧ b < 256) : Gives Try.prog 9 [q.pv, .int .u8 b] (.bool true) := by
  have hF : 407 < 408 := by decide
  generalize 408 = F at hF
  have hw := wakes_c
  refine calls_of_awpS mixed L9_ok (Nat.le_of_ble_eq_true rfl) ?_
  simp [-getElem?_pos, L9, Qu.pv]
  refine call_gives (k := 0) (fs := []) (xs := [q.pv]) (cs := []) rfl rfl (light_c q) rfl ?_
  by_cases ht : q.light = true
  case neg =>
    simp [-getElem?_pos, ht]
    refine call_gives (k := 0) (fs := []) (xs := []) (cs := []) rfl rfl hw rfl ?_
    simp [-getElem?_pos]
  obtain ⟨hs, hc, hq, _⟩ := Qu.light_of ht
  have hqr := hq.r
  have he := earl_of hF hs hc
  have hre := reason_of hF hs hc
  have hqc := queue_of hs
  simp [-getElem?_pos, ht]
  refine .inl (call_pv [] (fs := []) (xs := [q.pv]) (cs := []) rfl rfl hqc ?_)
  simp [-getElem?_pos, frzsL]
  refine .inl (call_pv [] (fs := []) (xs := [q.pv]) (cs := []) rfl rfl he ?_)
  rcases early_spec hF hq with ⟨P, e, hrt, hend, hl40, hfe, hno, hL⟩ | ⟨e, hno, hL⟩
  · have hcl : (q.cutP P).length = P.length := by simp [Qu.cutP]
    have hP9 : ∀ l ∈ q.cutP P, l.length ≤ 1000 := fun l hl => by
      unfold Qu.cutP at hl
      obtain ⟨l0, _, rfl⟩ := List.mem_map.1 hl
      rw [List.length_take]; have := hq.m; omega
    have hip := isplan_c q hq (q.cutP P) (by omega) hP9
    have hen := rend_c (q.cutP P) (by omega) hP9
    have hrw := rows_c (q.cutP P) (by omega) hP9
    have hp1 := proves_of hs (p := q.cutP P) (by omega) hP9 P.length
    have hp2 := proves_of hs (p := q.cutP P) (by omega) hP9 ((P.length : Int) - 1)
    have hv1 : q.proves (q.cutP P) P.length = true := by unfold Qu.proves; rw [hrt, hend, hc]; simp
    rw [proves_no hq hno] at hp2
    rw [hv1] at hp1
    rw [hrt] at hip
    rw [hend] at hen
    have hun : q.untilM F = (P.length : Int) - 1 := by unfold Qu.untilM; rw [e]
    have hwp : IntKind.i64.wrap ((P.length : Int) - 1) = (P.length : Int) - 1 := wrap64 (by omega)
    rw [e]
    rcases hL with h0 | hL
    · have hz := feas_zero (by rw [h0] at hfe; exact hfe) (allR_in (q := q))
      have hal := all_c q (by omega)
      have hne := needs_c q (allR q) (by unfold allR; simp; omega) (by omega) hq.h allR_in
      rw [hz] at hne
      have e2 : (List.range q.rs.length).map Int.ofNat = allR q := rfl
      rw [e2] at hal
      rw [if_pos (by rw [hun]; omega)] at hre
      generalize allR q = A at *
      rw [h0] at hp1 hp2 hen hcl hwp
      simp [-getElem?_pos, frzsL, h0]
      generalize q.cutP P = C at *
      refine .inl (call_pv [] (fs := []) (xs := [q.pv]) (cs := []) rfl rfl hqc ?_)
      simp [-getElem?_pos, frzsL]
      refine .inl (call_pv [] (fs := []) (xs := [q.pv]) (cs := []) rfl rfl hre ?_)
      simp [-getElem?_pos, frzsL]
      refine .inl (call_pv [] (fs := []) (xs := [q.pv, planP C]) (cs := []) rfl rfl hip ?_)
      simp [-getElem?_pos, frzsL]
      refine .inl (call_pv [] (fs := []) (xs := [planP C]) (cs := []) rfl rfl hen ?_)
      simp [-getElem?_pos, frzsL, planP, hcl]
      refine .inl (call_pv [] (fs := []) (xs := [q.pv]) (cs := []) rfl rfl hqc ?_)
      simp [-getElem?_pos, frzsL]
      refine .inl (call_pv [] (fs := []) (xs := [planP C]) (cs := []) rfl rfl hrw ?_)
      simp [-getElem?_pos, frzsL]
      refine .inl (call_pv [] (fs := []) (xs := [q.pv, planP C, .int .i64 0]) (cs := []) rfl rfl hp1 ?_)
      simp [-getElem?_pos, frzsL]
      refine call_pv [] (fs := []) (xs := [q.pv]) (cs := []) rfl rfl hal ?_
      simp [-getElem?_pos, frzsL]
      refine .inl (call_pv [] (fs := []) (xs := [q.pv, intsP A]) (cs := []) rfl rfl hne ?_)
      simp [-getElem?_pos, frzsL]
      refine .inl (call_pv [] (fs := []) (xs := []) (cs := []) rfl rfl hw ?_)
      simp [-getElem?_pos, frzsL]
    · have hpos : 0 < P.length := by
        rcases Nat.eq_zero_or_pos P.length with h0 | h0
        · obtain ⟨x, _, _, x3, _, x5⟩ := lack_find hL
          have hz := feas_zero (by rw [h0] at hfe; exact hfe) (Runs.of_rising x3).inn
          omega
        · exact h0
      obtain ⟨x, _, x2, x3, x4, x5⟩ := lack_find hL
      have hun' : q.untilM F = ((P.length - 1 : Nat) : Int) := by rw [hun]; omega
      have hre2 := reason_lack hF hs hc hun' x2
      have hxl := rising_len x3
      have hR := Runs.of_rising x3
      have hri := rising_c q (by omega) x (by omega)
      rw [x3] at hri
      have hli := list_c x (by omega)
      have hro := roomV hs hc x3 (by omega) (u := P.length - 1) (by omega)
      rw [show ((P.length - 1 : Nat) : Int) = (P.length : Int) - 1 by omega] at hro
      have hne := needs_c q x (by omega) (by omega) hq.h hR.inn
      have hS : q.rising (selL (bitF b) q.rs.length) = true := selL_rising
      have hSl := rising_len hS
      have hSR := Runs.of_rising hS
      have hSn := feas_room hq hfe hSR
      have hSli := list_c (selL (bitF b) q.rs.length) (by omega)
      have hSro := roomV hs hc hS (by omega) (u := P.length) (by omega)
      have hSne := needs_c q (selL (bitF b) q.rs.length) (by omega) (by omega) hq.h hSR.inn
      have hSt : ∀ k, k ≤ q.rs.length → (selL (bitF b) k).length ≤ 999999 := fun k hk => by have := selL_len (f := bitF b) (k := k); omega
      have hPl : ¬ P = [] := fun h => by rw [h] at hpos; cases hpos
      clear hre hL hfe hno hun hun' hrt hend x2
      simp [-getElem?_pos, frzsL]
      generalize q.cutP P = C at *
      generalize q.needs x = N at *
      generalize q.roomM x (P.length - 1) = A at *
      generalize P.length = T at *
      have hT0 : ¬ T = 0 := by omega
      refine .inl (call_pv [] (fs := []) (xs := [q.pv]) (cs := []) rfl rfl hqc ?_)
      simp [-getElem?_pos, frzsL]
      refine .inl (call_pv [] (fs := []) (xs := [q.pv]) (cs := []) rfl rfl hre2 ?_)
      simp [-getElem?_pos, frzsL]
      refine .inl (call_pv [] (fs := []) (xs := [q.pv, planP C]) (cs := []) rfl rfl hip ?_)
      simp [-getElem?_pos, frzsL]
      refine .inl (call_pv [] (fs := []) (xs := [planP C]) (cs := []) rfl rfl hen ?_)
      simp [-getElem?_pos, frzsL, planP, hcl]
      refine .inl (call_pv [] (fs := []) (xs := [q.pv]) (cs := []) rfl rfl hqc ?_)
      simp [-getElem?_pos, frzsL]
      refine .inl (call_pv [] (fs := []) (xs := [planP C]) (cs := []) rfl rfl hrw ?_)
      simp [-getElem?_pos, frzsL]
      refine .inl (call_pv [] (fs := []) (xs := [q.pv, planP C, .int .i64 T]) (cs := []) rfl rfl hp1 ?_)
      simp [-getElem?_pos, frzsL, hT0]
      refine .inl (call_pv [] (fs := []) (xs := [q.pv, intsP x]) (cs := []) rfl rfl hri ?_)
      simp [-getElem?_pos, frzsL]
      refine .inl (call_pv [] (fs := []) (xs := [q.pv]) (cs := []) rfl rfl hqc ?_)
      simp [-getElem?_pos, frzsL]
      refine .inl (call_pv [] (fs := []) (xs := [planP C]) (cs := []) rfl rfl hrw ?_)
      simp [-getElem?_pos, frzsL, hwp]
      refine .inl (call_pv [] (fs := []) (xs := [q.pv, planP C, .int .i64 ((T : Int) - 1)]) (cs := []) rfl rfl hp2 ?_)
      simp [-getElem?_pos, frzsL]
      refine .inl (call_pv [] (fs := []) (xs := [q.pv]) (cs := []) rfl rfl hqc ?_)
      simp [-getElem?_pos, frzsL]
      refine .inl (call_pv [] (fs := []) (xs := [intsP x]) (cs := []) rfl rfl hli ?_)
      simp [-getElem?_pos, frzsL, hwp]
      refine .inl (call_pv [] (fs := []) (xs := [q.pv, intsP x, .int .i64 ((T : Int) - 1)]) (cs := []) rfl rfl hro ?_)
      simp [-getElem?_pos, frzsL]
      refine awp_loopS (fun n τ => ∃ k : Nat, k ≤ q.rs.length ∧ n = q.rs.length - k ∧ τ = rtS q b x T A k)
        ⟨q.rs.length, rtS q b x T A 0, Sub.trans' (Sub.mk (by simp [rtS, AS.vecT, selL]) (by simp [rtS, AS.vecT, Qu.cells, selL])) (vecT 151 3 1 14 rfl (by decide)), 0, by omega, rfl, rfl⟩ ?_
      rintro J hJ n τ ⟨k, hk, rfl, rfl⟩
      by_cases hlt : k < q.rs.length
      · have hw1 := wrapS (k := k) (by omega)
        have hwu : IntKind.u64.wrap (k : Int) = (k : Int) := by rw [IntKind.wrap_u64]; omega
        have hk0 : ¬ ((k : Int) < 0) := by omega
        have hround := hJ _ _ ⟨k + 1, hlt, rfl, rfl⟩
        have hmeas : q.rs.length - (k + 1) < q.rs.length - k := by omega
        have hn1 := selL_next (f := bitF b) (k := k)
        have hl1 := hSt k hk
        clear hJ
        unfold rtS at hround
        rw [hn1] at hround
        clear hn1
        have hT1 : decide ((b.fdiv (2 ^ min k IntKind.u8.bits)).tmod 2 = 1) = bitF b k := rfl
        simp only [rtS]
        generalize bitF b k = T1 at *
        generalize selL (bitF b) k = A1 at *
        simp [-getElem?_pos, -List.getElem?_map, -decide_eq_true_eq, -decide_eq_false_iff_not, Qu.cells, hlt, nble, nblt, hwu, hk0, hT1]
        cases T1 <;> simp [-getElem?_pos, -List.getElem?_map, -decide_eq_true_eq, -decide_eq_false_iff_not, Qu.cells, hlt, nble, nblt, hw1, hl1]
        all_goals
          refine ⟨_, _, hmeas, Sub.mk ?_ ?_, hround⟩
          · simp
          · simp [Qu.cells, intP]
      · have he : k = q.rs.length := by omega
        subst he
        clear hJ
        simp only [rtS]
        generalize selL (bitF b) q.rs.length = A1 at *
        have ht1 : List.take A1.length (List.map intP A1) = List.map intP A1 := List.take_of_length_le (by simp)
        generalize q.needs A1 = N1 at *
        generalize q.roomM A1 T = B1 at *
        simp [-getElem?_pos, -List.getElem?_map, Qu.cells, nblt]
        refine .inl (call_pv [] (fs := []) (xs := [q.pv]) (cs := []) rfl rfl hqc ?_)
        simp [-getElem?_pos, -List.getElem?_map, frzsL]
        refine .inl (call_pv [.loc 151 0] (fs := []) (xs := [intsP A1]) (cs := []) rfl ?_ hSli ?_)
        · simp [frzsL, intsP, ht1]
        simp [-getElem?_pos, -List.getElem?_map, frzsL, ht1]
        refine .inl (call_pv [] (fs := []) (xs := [q.pv, intsP A1, .int .i64 T]) (cs := []) rfl rfl hSro ?_)
        simp [-getElem?_pos, -List.getElem?_map, frzsL]
        refine .inl (call_pv [] (fs := []) (xs := [q.pv, intsP x]) (cs := []) rfl rfl hne ?_)
        simp [-getElem?_pos, -List.getElem?_map, frzsL, x5, ht1]
        refine .inl (call_pv [] (fs := []) (xs := [q.pv, intsP A1]) (cs := []) rfl rfl hSne ?_)
        simp [-getElem?_pos, -List.getElem?_map, frzsL, hSn]
        refine .inl (call_pv [] (fs := []) (xs := []) (cs := []) rfl rfl hw ?_)
        simp [-getElem?_pos, -List.getElem?_map, frzsL]
  · obtain ⟨x, _, x2, x3, x4, x5⟩ := lack_find hL
    have hun : q.untilM F = ((40 : Nat) : Int) := by unfold Qu.untilM; rw [e]; rfl
    have hre2 := reason_lack hF hs hc hun x2
    have hxl := rising_len x3
    have hR := Runs.of_rising x3
    have hri := rising_c q (by omega) x (by omega)
    rw [x3] at hri
    have hli := list_c x (by omega)
    have hro := roomV hs hc x3 (by omega) (u := 40) (by omega)
    have hne := needs_c q x (by omega) (by omega) hq.h hR.inn
    generalize q.needs x = N at *
    generalize q.roomM x 40 = A at *
    rw [e]
    clear hre
    simp [-getElem?_pos, frzsL]
    refine .inl (call_pv [] (fs := []) (xs := [q.pv]) (cs := []) rfl rfl hqc ?_)
    simp [-getElem?_pos, frzsL]
    refine .inl (call_pv [] (fs := []) (xs := [q.pv]) (cs := []) rfl rfl hre2 ?_)
    simp [-getElem?_pos, frzsL]
    refine .inl (call_pv [] (fs := []) (xs := [q.pv, intsP x]) (cs := []) rfl rfl hri ?_)
    simp [-getElem?_pos, frzsL]
    refine .inl (call_pv [] (fs := []) (xs := [q.pv]) (cs := []) rfl rfl hqc ?_)
    simp [-getElem?_pos, frzsL]
    refine .inl (call_pv [] (fs := []) (xs := [intsP x]) (cs := []) rfl rfl hli ?_)
    simp [-getElem?_pos, frzsL]
    refine .inl (call_pv [] (fs := []) (xs := [q.pv, intsP x, .int .i64 40]) (cs := []) rfl rfl hro ?_)
    simp [-getElem?_pos, frzsL]
    refine .inl (call_pv [] (fs := []) (xs := [q.pv, intsP x]) (cs := []) rfl rfl hne ?_)
    simp [-getElem?_pos, frzsL, x5]
    refine .inl (call_pv [] (fs := []) (xs := []) (cs := []) rfl rfl hw ?_)
    simp [-getElem?_pos, frzsL]
end Go.Proofs.Ytohhjnpiiackjaa

/-! The statement QueueRight holds: for every input the law answers true, and its arguments read behind the call as before. No conditions. -/
namespace Go.Proofs.Ytohhjnpiiackjaa
open Go.ChangeShapes Go.WideShapes Go.ChangeAt Go.RowKit

set_option maxRecDepth 100000 in
theorem walkQueueRight (v0 v1 : Value) (W : World) {H : Type} {enc : TypeId × Value → H} {base : Nat} {sp : Nat → Bool} {hd : Bool} {d0 d1 : DataW H} {p0 p1 : List MemPlace}
    (k0 : Value.okWide Try.prog W .any base 25 v0) (h0 : DataW.Trod enc Try.prog W 0 sp hd 25 v0 d0 p0)
    (k1 : Value.okWide Try.prog W .any base 5 v1) (h1 : DataW.Trod enc Try.prog W 0 sp hd 5 v1 d1 p1) :
    Calls Try.prog 9 #[v0, v1] W fun e w' => e = .returned (.bool true) ∧ Keep [] W w' := by
  obtain ⟨n0, h0⟩ := h0
  obtain ⟨s0, w0, r0⟩ := rq_queue k0 h0
  obtain ⟨s1, rfl, rfl, rfl, w1⟩ := open_int Try.underlying5 k1 h1
  refine calls_bool (xs := [s0.pv, .int .u8 s1]) (b := true) ((right_law s0 s1 (u8_bd w1)).mono (fun _ _ h => h.1)) rfl (fun j v x e1 e2 => ?_)
  match j with
  | 0 => simp at e1 e2; subst e1 e2; exact r0
  | 1 => simp at e1 e2; subst e1 e2; exact .int .u8 s1
  | j + 2 => simp at e1
set_option maxRecDepth 100000 in
theorem liftedQueueRight (os : Os) (started : os.Started) (H : Type) (enc : TypeId × Value → H) :
    ReturnsInHanded {} Try.checked os 9 .any (Rows.queueRightSpec.pre6 enc Try.prog Try.f9 Rows.queueRightRow.domain false) (Rows.queueRightSpec.post enc Try.prog Try.f9 false true false false) := by
  refine returnsInHanded_of_change (C := Try.checked) own started (by kernel_rfl) Try.func9
    (ChangeSpec.witness6 (enc := enc) (C := Try.checked) false ⟨#[], #[.agg #[.slice none 0 0, .slice none 0 0], .int .u8 0], []⟩ 8 (by kernel_rfl) (by kernel_rfl) (by kernel_rfl) (by kernel_rfl)) ?_
  intro W base args ds gs before hval0 hW hcnd _
  have hval : ∀ (j : Nat) t v, Try.f9.params[j]? = some t → args[j]? = some v → Value.okWide Try.prog W .any base t v := hval0
  have hW' := hW
  obtain ⟨p, q, hA0, hV, rfl, hfz, hnd⟩ := hW
  have hA : DataW.TrodAll enc Try.prog W 0 (fun _ => true) true Try.f9.params.toList args.toList ds p := hA0
  rw [Try.params9] at hA hval
  obtain ⟨v0, vs0, d0, ds0, p0, q0, hargs, rfl, rfl, h0, r0⟩ := trodAll_cons hA
  obtain ⟨v1, vs1, d1, ds1, p1, q1, rfl, rfl, rfl, h1, r1⟩ := trodAll_cons r0
  obtain ⟨rfl, rfl, rfl⟩ := trodAll_nil r1
  have hargs' : args = #[v0, v1] := by
    apply Array.ext'
    exact hargs
  subst hargs'
  have k0 := hval 0 _ v0 rfl rfl
  have k1 := hval 1 _ v1 rfl rfl
  obtain ⟨rfl, rfl⟩ := trodVars_none hV
  refine (walkQueueRight v0 v1 W k0 h0 k1 h1).mono fun e W' ⟨he, hk⟩ => ?_
  subst he
  exact ⟨_, rfl, post_law (tb := 4) laidP rowedP fullP (by decide +kernel) rfl rfl rfl Try.underlying4 hW' hk⟩
theorem overQueueRight : Rows.queueRightRow.holds Try.pinned (OpenSpec.ofChange Rows.queueRightSpec) :=
  OpenClaim.holds_of_wide 9 Try.f9 rfl rfl rfl rfl rfl rfl rfl ⟨rfl, rfl, rfl, rfl, rfl⟩ rfl rfl rfl rfl rfl (by kernel_rfl) Try.func9 (by kernel_rfl)
    (of_decide_eq_true (by kernel_rfl)) (by unfold Func.isWrapper; first | (rw [if_pos (by decide +kernel)]; kernel_rfl) | (rw [if_neg (by decide +kernel)]; exact ⟨rfl, rfl⟩))
    (fun os started H enc _ => liftedQueueRight os started H enc)
theorem provedQueueRight : Rows.QueueRightSaid := overQueueRight
end Go.Proofs.Ytohhjnpiiackjaa
