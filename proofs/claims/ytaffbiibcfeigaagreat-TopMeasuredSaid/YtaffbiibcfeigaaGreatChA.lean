/- Layer 2 (chain), plain: books; which certificates hold. (Several texts in one.) -/
import Derived.Test.YtaffbiibcfeigaaGreatBaseD
set_option linter.unusedVariables false
set_option linter.unusedSimpArgs false
/-! Layer 2 (chain), plain: books; which certificates hold. -/
namespace Go.Proofs.YtaffbiibcfeigaaGreat
open Go.RowKit
set_option linter.unusedSimpArgs false
structure Cr where
  lo : Int
  hi : Int
  deriving DecidableEq
structure It where
  drift : Int
  std : Bool
  val : Cr
structure Ct where
  num : Int
  it : Int
  src : Int
  day : Int
  valid : Int
  diff : Cr
  deriving DecidableEq
structure Bk where
  items : List It
  certs : List Ct
def inB (n lo hi : Int) : Bool := decide (lo ≤ n) && decide (n ≤ hi)
def valB (n : Int) : Bool := inB n (-100000) 100000
def Cr.okB (r : Cr) : Bool := valB r.lo && valB r.hi && decide (r.lo ≤ r.hi)
def It.okB (x : It) : Bool := inB x.drift 0 100 && x.val.okB && (x.std || decide (x.val = ⟨0, 0⟩))
def Bk.item (b : Bk) (i : Int) : It := (b.items[i.toNat]?).getD ⟨0, false, ⟨0, 0⟩⟩
def Bk.hasItem (b : Bk) (i : Int) : Bool := inB i 0 ((b.items.length : Int) - 1)
def Bk.certB (b : Bk) (c : Ct) : Bool := inB c.num 1 999 && b.hasItem c.it && !(b.item c.it).std && b.hasItem c.src && decide (c.src ≠ c.it) && inB c.day 0 1000 && inB c.valid 0 1000 && c.diff.okB
def Bk.big (b : Bk) : Bool := decide (8 < b.items.length) || decide (24 < b.certs.length)
def Bk.bad (b : Bk) : Bool := !(b.items.all It.okB) || !(b.certs.all b.certB)
def Bk.twice (b : Bk) : Bool := b.certs.any fun x => b.certs.any fun y => (decide (x.num = y.num) && decide (x ≠ y)) || (decide (y.num < x.num) && decide (x.day < y.day))
/-- The error of a book. -/
def Bk.fault (b : Bk) : Int := if b.big = true then 3 else if b.bad = true then 1 else if b.twice = true then 6 else 0
structure Bk.ok (b : Bk) : Prop where
  i : b.items.length ≤ 8
  c : b.certs.length ≤ 24
  it : ∀ x ∈ b.items, x.okB = true
  ct : ∀ x ∈ b.certs, b.certB x = true
  one : ∀ x ∈ b.certs, ∀ y ∈ b.certs, x.num = y.num → x = y
  day : ∀ x ∈ b.certs, ∀ y ∈ b.certs, y.num < x.num → y.day ≤ x.day
theorem Bk.ok_iff {b : Bk} : b.fault = 0 ↔ b.ok := by
  unfold Bk.fault Bk.big Bk.bad Bk.twice
  constructor
  · intro h
    split at h
    · cases h
    · rename_i h1
      split at h
      · cases h
      · rename_i h2
        split at h
        · cases h
        · rename_i h3
          simp only [Bool.or_eq_true, decide_eq_true_eq, not_or, Nat.not_lt] at h1
          simp only [Bool.not_eq_true, Bool.or_eq_false_iff, Bool.not_eq_false', List.all_eq_true] at h2
          simp only [Bool.not_eq_true, List.any_eq_false, Bool.or_eq_true, Bool.and_eq_true, decide_eq_true_eq, not_or, not_and, Decidable.not_not, Int.not_lt] at h3
          exact ⟨h1.1, h1.2, h2.1, h2.2, fun x hx y hy e => (h3 x hx y hy).1 e, fun x hx y hy e => (h3 x hx y hy).2 e⟩
  · intro h
    rw [if_neg (by simp only [Bool.or_eq_true, decide_eq_true_eq, not_or, Nat.not_lt]; exact ⟨h.i, h.c⟩), if_neg (by
      simp only [Bool.not_eq_true, Bool.or_eq_false_iff, Bool.not_eq_false', List.all_eq_true]; exact ⟨h.it, h.ct⟩), if_neg (by
      simp only [Bool.not_eq_true, List.any_eq_false, Bool.or_eq_true, Bool.and_eq_true, decide_eq_true_eq, not_or, not_and, Decidable.not_not, Int.not_lt]
      exact fun x hx y hy => ⟨h.one x hx y hy, h.day x hx y hy⟩)]
/-- Is a certificate valid on a day? Does it rest on another one? -/
def Ct.on (c : Ct) (d : Int) : Bool := inB d c.day (c.day + c.valid)
def restsB (c o : Ct) : Bool := decide (o.it = c.src) && decide (o.num < c.num) && o.on c.day
def Bk.holdB (b : Bk) (bad held : List Int) (c : Ct) : Bool := ((b.item c.src).std || b.certs.any fun o => restsB c o && held.contains o.num) && !bad.contains c.num
/-- The numbers below one that hold, rising. -/
def Bk.heldU (b : Bk) (bad : List Int) : Nat → List Int
  | 0 => []
  | k + 1 => b.heldU bad k ++ (if (b.certs.any fun c => decide (c.num = (k : Int)) && b.holdB bad (b.heldU bad k) c) = true then [(k : Int)] else [])
theorem heldU_succ {b : Bk} {bad : List Int} {k : Nat} : b.heldU bad (k + 1) = b.heldU bad k ++ (if (b.certs.any fun c => decide (c.num = (k : Int)) && b.holdB bad (b.heldU bad k) c) = true then [(k : Int)] else []) := rfl
def Bk.held (b : Bk) (bad : List Int) : List Int := b.heldU bad 1000
theorem mem_heldU {b : Bk} {bad : List Int} {x : Int} : ∀ k, x ∈ b.heldU bad k ↔ ∃ n : Nat, x = n ∧ n < k ∧ (b.certs.any fun c => decide (c.num = (n : Int)) && b.holdB bad (b.heldU bad n) c) = true
  | 0 => ⟨fun h => (by cases h), fun ⟨n, _, h, _⟩ => (by omega)⟩
  | k + 1 => by
    rw [heldU_succ, List.mem_append, mem_heldU k]
    constructor
    · rintro (⟨n, e, h1, h2⟩ | h)
      · exact ⟨n, e, by omega, h2⟩
      · split at h
        · rename_i hc
          simp at h
          exact ⟨k, h, by omega, hc⟩
        · cases h
    · rintro ⟨n, e, h1, h2⟩
      by_cases hn : n = k
      · subst hn
        right
        rw [if_pos h2, e]; simp
      · exact .inl ⟨n, e, by omega, h2⟩
theorem heldU_sub {b : Bk} {bad : List Int} {x : Int} {j k : Nat} (h : j ≤ k) (hx : x ∈ b.heldU bad j) : x ∈ b.heldU bad k := by
  obtain ⟨n, rfl, h1, h2⟩ := (mem_heldU j).1 hx
  exact (mem_heldU k).2 ⟨n, rfl, by omega, h2⟩
/-- What holds is asked of lesser numbers alone. -/
theorem holdB_upto {b : Bk} {bad : List Int} {c : Ct} {n k : Nat} (hc : c.num = (n : Int)) (hk : n ≤ k) : b.holdB bad (b.heldU bad k) c = b.holdB bad (b.heldU bad n) c := by
  unfold Bk.holdB
  congr 2
  rw [Bool.eq_iff_iff, List.any_eq_true, List.any_eq_true]
  constructor
  · rintro ⟨o, ho, h⟩
    refine ⟨o, ho, ?_⟩
    simp only [Bool.and_eq_true, List.contains_iff_mem] at h ⊢
    refine ⟨h.1, ?_⟩
    obtain ⟨m, e, h1, h2⟩ := (mem_heldU k).1 h.2
    have h3 : o.num < c.num := by have := h.1; unfold restsB at this; simp only [Bool.and_eq_true, decide_eq_true_eq] at this; exact this.1.2
    exact (mem_heldU n).2 ⟨m, e, by omega, h2⟩
  · rintro ⟨o, ho, h⟩
    refine ⟨o, ho, ?_⟩
    simp only [Bool.and_eq_true, List.contains_iff_mem] at h ⊢
    exact ⟨h.1, heldU_sub hk h.2⟩
/-- Which hold: a certificate of the number that holds. -/
theorem mem_held {b : Bk} (hb : b.ok) {bad : List Int} {x : Int} : x ∈ b.held bad ↔ ∃ c ∈ b.certs, c.num = x ∧ b.holdB bad (b.held bad) c = true := by
  unfold Bk.held
  rw [mem_heldU]
  have hn : ∀ c ∈ b.certs, 1 ≤ c.num ∧ c.num ≤ 999 := fun c hc => by
    have := hb.ct c hc
    unfold Bk.certB inB at this
    simp only [Bool.and_eq_true, decide_eq_true_eq] at this
    omega
  constructor
  · rintro ⟨n, rfl, h1, h2⟩
    rw [List.any_eq_true] at h2
    obtain ⟨c, hc, h3⟩ := h2
    simp only [Bool.and_eq_true, decide_eq_true_eq] at h3
    exact ⟨c, hc, h3.1, by rw [holdB_upto h3.1 (by omega)]; exact h3.2⟩
  · rintro ⟨c, hc, rfl, h⟩
    have h1 := hn c hc
    obtain ⟨n, hn'⟩ : ∃ n : Nat, c.num = n := ⟨c.num.toNat, by omega⟩
    refine ⟨n, hn', by omega, ?_⟩
    rw [List.any_eq_true]
    refine ⟨c, hc, ?_⟩
    simp only [Bool.and_eq_true, decide_eq_true_eq]
    exact ⟨hn', by rw [← holdB_upto (k := 1000) hn' (by omega)]; exact h⟩
theorem heldU_sorted {b : Bk} {bad : List Int} : ∀ k, (b.heldU bad k).Pairwise (· < ·) ∧ ∀ x ∈ b.heldU bad k, x < (k : Int)
  | 0 => ⟨List.Pairwise.nil, fun x hx => by cases hx⟩
  | k + 1 => by
    obtain ⟨h1, h2⟩ := heldU_sorted (b := b) (bad := bad) k
    rw [heldU_succ]
    refine ⟨?_, fun x hx => ?_⟩
    · rw [List.pairwise_append]
      refine ⟨h1, by split <;> simp, fun x hx y hy => ?_⟩
      have := h2 x hx
      split at hy
      · simp at hy; omega
      · cases hy
    · rcases List.mem_append.1 hx with hx | hx
      · have := h2 x hx; omega
      · split at hx
        · simp at hx; omega
        · cases hx
/-- The numbers of a book, rising. -/
def Bk.nums (b : Bk) : List Int := ((List.range 1000).filter fun n : Nat => b.certs.any fun c => decide (c.num = (n : Int))).map Int.ofNat
theorem mem_nums {b : Bk} (hb : b.ok) {x : Int} : x ∈ b.nums ↔ ∃ c ∈ b.certs, c.num = x := by
  unfold Bk.nums
  rw [List.mem_map]
  constructor
  · rintro ⟨n, h, rfl⟩
    rw [List.mem_filter, List.any_eq_true] at h
    obtain ⟨_, c, hc, e⟩ := h
    exact ⟨c, hc, by simpa using e⟩
  · rintro ⟨c, hc, rfl⟩
    have := hb.ct c hc
    unfold Bk.certB inB at this
    simp only [Bool.and_eq_true, decide_eq_true_eq] at this
    refine ⟨c.num.toNat, ?_, by show ((c.num.toNat : Nat) : Int) = _; omega⟩
    rw [List.mem_filter, List.mem_range, List.any_eq_true]
    exact ⟨by omega, c, hc, by simp; omega⟩
theorem nums_sorted {b : Bk} : b.nums.Pairwise (· < ·) := by
  unfold Bk.nums
  rw [List.pairwise_map]
  exact (List.pairwise_lt_range.filter _).imp fun h => by simpa using h
/-- Rising lists with the same numbers are the same. -/
theorem inc_ext : ∀ {a b : List Int}, a.Pairwise (· < ·) → b.Pairwise (· < ·) → (∀ x, x ∈ a ↔ x ∈ b) → a = b
  | [], [], _, _, _ => rfl
  | [], y :: b, _, _, h => absurd ((h y).2 (by simp)) (by simp)
  | x :: a, [], _, _, h => absurd ((h x).1 (by simp)) (by simp)
  | x :: a, y :: b, ha, hb, h => by
    rw [List.pairwise_cons] at ha hb
    have exy : x = y := by
      rcases List.mem_cons.1 ((h x).1 (by simp)) with e | e
      · exact e
      · rcases List.mem_cons.1 ((h y).2 (by simp)) with e' | e'
        · exact e'.symm
        · have h1 := hb.1 x e
          have h2 := ha.1 y e'
          omega
    subst exy
    rw [inc_ext ha.2 hb.2 fun z => ?_]
    constructor
    · intro hz
      rcases List.mem_cons.1 ((h z).1 (by simp [hz])) with e | e
      · have := ha.1 z hz; omega
      · exact e
    · intro hz
      rcases List.mem_cons.1 ((h z).2 (by simp [hz])) with e | e
      · have := hb.1 z hz; omega
      · exact e
end Go.Proofs.YtaffbiibcfeigaaGreat
/-! Layer 2 (chain), plain: the certificates of an item; spans. -/
namespace Go.Proofs.YtaffbiibcfeigaaGreat
open Go.RowKit
set_option linter.unusedSimpArgs false
def ct0 : Ct := ⟨0, 0, 0, 0, 0, ⟨0, 0⟩⟩
/-- The certificate of a number. -/
def Bk.get (b : Bk) (n : Int) : Ct := (b.certs.find? fun c => decide (c.num = n)).getD ct0
theorem get_of {b : Bk} (hb : b.ok) {c : Ct} (hc : c ∈ b.certs) : b.get c.num = c := by
  unfold Bk.get
  cases hf : b.certs.find? (fun x => decide (x.num = c.num)) with
  | none =>
    rw [List.find?_eq_none] at hf
    have := hf c hc
    simp at this
  | some x =>
    have h1 := List.mem_of_find?_eq_some hf
    have h2 := List.find?_some hf
    simp only [decide_eq_true_eq] at h2
    exact hb.one x h1 c hc h2
theorem get_num {b : Bk} (hb : b.ok) {n : Int} (hn : n ∈ b.nums) : b.get n ∈ b.certs ∧ (b.get n).num = n := by
  obtain ⟨c, hc, rfl⟩ := (mem_nums hb).1 hn
  rw [get_of hb hc]
  exact ⟨hc, rfl⟩
/-- The certificates of an item, on a day, with lesser numbers: by their numbers. -/
def Bk.ofB (item day below : Int) (c : Ct) : Bool := decide (c.num < below) && (decide (c.it = item) && c.on day)
def Bk.ofL (b : Bk) (item day below : Int) : List Ct := (b.nums.map b.get).filter (Bk.ofB item day below)
theorem mem_ofL {b : Bk} (hb : b.ok) {item day below : Int} {c : Ct} : c ∈ b.ofL item day below ↔ c ∈ b.certs ∧ Bk.ofB item day below c = true := by
  unfold Bk.ofL
  rw [List.mem_filter, List.mem_map]
  constructor
  · rintro ⟨⟨n, hn, rfl⟩, h⟩
    exact ⟨(get_num hb hn).1, h⟩
  · rintro ⟨h1, h2⟩
    exact ⟨⟨c.num, (mem_nums hb).2 ⟨c, h1, rfl⟩, get_of hb h1⟩, h2⟩
theorem any_ofL {b : Bk} (hb : b.ok) {item day below : Int} {P : Ct → Bool} : (b.ofL item day below).any P = b.certs.any fun c => Bk.ofB item day below c && P c := by
  rw [Bool.eq_iff_iff, List.any_eq_true, List.any_eq_true]
  constructor
  · rintro ⟨c, hc, h⟩
    obtain ⟨h1, h2⟩ := (mem_ofL hb).1 hc
    exact ⟨c, h1, by rw [h2, h]; rfl⟩
  · rintro ⟨c, hc, h⟩
    rw [Bool.and_eq_true] at h
    exact ⟨c, (mem_ofL hb).2 ⟨hc, h.1⟩, h.2⟩
theorem rests_of {c o : Ct} : restsB c o = Bk.ofB c.src c.day c.num o := by
  unfold restsB Bk.ofB
  cases decide (o.it = c.src) <;> cases decide (o.num < c.num) <;> rfl
/-- What a certificate of a number says of holding. -/
theorem hold_get {b : Bk} (hb : b.ok) {bad : List Int} {n : Int} (hn : n ∈ b.nums) : (b.held bad).contains n = (((b.item (b.get n).src).std || (b.ofL (b.get n).src (b.get n).day n).any fun o => (b.held bad).contains o.num) && !bad.contains n) := by
  obtain ⟨h1, h2⟩ := get_num hb hn
  rw [any_ofL hb]
  have e : (b.certs.any fun c => Bk.ofB (b.get n).src (b.get n).day n c && (b.held bad).contains c.num) = b.certs.any fun o => restsB (b.get n) o && (b.held bad).contains o.num := by
    congr 1
    funext o
    rw [rests_of, h2]
  rw [e, Bool.eq_iff_iff, List.contains_iff_mem, mem_held hb]
  have hB : b.holdB bad (b.held bad) (b.get n) = (((b.item (b.get n).src).std || b.certs.any fun o => restsB (b.get n) o && (b.held bad).contains o.num) && !bad.contains n) := by unfold Bk.holdB; rw [h2]
  rw [← hB]
  constructor
  · rintro ⟨c, hc, e1, e2⟩
    have : b.get n = c := by rw [← e1]; exact get_of hb hc
    rw [this]; exact e2
  · intro h
    exact ⟨b.get n, h1, h2, h⟩
/-- Ranges. -/
def Cr.plus (a b : Cr) : Cr := ⟨a.lo + b.lo, a.hi + b.hi⟩
def Cr.wider (a : Cr) (n : Int) : Cr := a.plus ⟨-n, n⟩
def Cr.cut (a b : Cr) : Cr := ⟨max a.lo b.lo, min a.hi b.hi⟩
def everyR : Cr := ⟨-1099511627776, 1099511627776⟩
theorem cut_lo {α : Type} (f : α → Cr) : ∀ (l : List α) (e : Cr), e.lo ≤ (l.foldl (fun r x => r.cut (f x)) e).lo ∧ (∀ x ∈ l, (f x).lo ≤ (l.foldl (fun r x => r.cut (f x)) e).lo) ∧ ((l.foldl (fun r x => r.cut (f x)) e).lo = e.lo ∨ ∃ x ∈ l, (l.foldl (fun r x => r.cut (f x)) e).lo = (f x).lo)
  | [], e => ⟨Int.le_refl _, fun x hx => (by cases hx), .inl rfl⟩
  | y :: l, e => by
    obtain ⟨h1, h2, h3⟩ := cut_lo f l (e.cut (f y))
    rw [List.foldl_cons]
    have hm : (e.cut (f y)).lo = max e.lo (f y).lo := rfl
    refine ⟨by omega, fun x hx => ?_, ?_⟩
    · rcases List.mem_cons.1 hx with rfl | hx
      · omega
      · exact h2 x hx
    · rcases h3 with h3 | ⟨x, hx, h3⟩
      · rcases Int.le_total e.lo (f y).lo with h | h
        · right; exact ⟨y, by simp, by omega⟩
        · left; omega
      · right; exact ⟨x, by simp [hx], h3⟩
theorem cut_hi {α : Type} (f : α → Cr) : ∀ (l : List α) (e : Cr), (l.foldl (fun r x => r.cut (f x)) e).hi ≤ e.hi ∧ (∀ x ∈ l, (l.foldl (fun r x => r.cut (f x)) e).hi ≤ (f x).hi) ∧ ((l.foldl (fun r x => r.cut (f x)) e).hi = e.hi ∨ ∃ x ∈ l, (l.foldl (fun r x => r.cut (f x)) e).hi = (f x).hi)
  | [], e => ⟨Int.le_refl _, fun x hx => (by cases hx), .inl rfl⟩
  | y :: l, e => by
    obtain ⟨h1, h2, h3⟩ := cut_hi f l (e.cut (f y))
    rw [List.foldl_cons]
    have hm : (e.cut (f y)).hi = min e.hi (f y).hi := rfl
    refine ⟨by omega, fun x hx => ?_, ?_⟩
    · rcases List.mem_cons.1 hx with rfl | hx
      · omega
      · exact h2 x hx
    · rcases h3 with h3 | ⟨x, hx, h3⟩
      · rcases Int.le_total e.hi (f y).hi with h | h
        · left; omega
        · right; exact ⟨y, by simp, by omega⟩
      · right; exact ⟨x, by simp [hx], h3⟩
theorem Cr.ext' {a b : Cr} (h1 : a.lo = b.lo) (h2 : a.hi = b.hi) : a = b := by
  obtain ⟨a1, a2⟩ := a
  obtain ⟨b1, b2⟩ := b
  simp only at h1 h2
  subst h1 h2; rfl
/-- The order of what is cut does not matter, nor how often it stands there. -/
theorem cut_same {α : Type} {f : α → Cr} {l l' : List α} {e : Cr} (h : ∀ x, x ∈ l ↔ x ∈ l') : l.foldl (fun r x => r.cut (f x)) e = l'.foldl (fun r x => r.cut (f x)) e := by
  obtain ⟨a1, a2, a3⟩ := cut_lo f l e
  obtain ⟨b1, b2, b3⟩ := cut_lo f l' e
  obtain ⟨c1, c2, c3⟩ := cut_hi f l e
  obtain ⟨d1, d2, d3⟩ := cut_hi f l' e
  refine Cr.ext' ?_ ?_
  · rcases a3 with a3 | ⟨x, hx, a3⟩ <;> rcases b3 with b3 | ⟨y, hy, b3⟩
    · omega
    · have := a2 y ((h y).2 hy); omega
    · have := b2 x ((h x).1 hx); omega
    · have := a2 y ((h y).2 hy); have := b2 x ((h x).1 hx); omega
  · rcases c3 with c3 | ⟨x, hx, c3⟩ <;> rcases d3 with d3 | ⟨y, hy, d3⟩
    · omega
    · have := c2 y ((h y).2 hy); omega
    · have := d2 x ((h x).1 hx); omega
    · have := c2 y ((h y).2 hy); have := d2 x ((h x).1 hx); omega
/-- The span of an item, by the spans of certificates that hold. -/
def Bk.itemSpan (b : Bk) (held : List Int) (S : Int → Cr) (item day below : Int) : Cr :=
  if (b.item item).std = true then (b.item item).val else ((b.certs.filter fun c => Bk.ofB item day below c && held.contains c.num).foldl (fun r c => r.cut ((S c.num).wider ((b.item item).drift * (day - c.day)))) everyR)
/-- The spans of the certificates with numbers below one. -/
def Bk.spanU (b : Bk) (held : List Int) : Nat → Int → Cr
  | 0, _ => ⟨0, 0⟩
  | k + 1, n => if n = (k : Int) then (if held.contains n = true then (b.itemSpan held (b.spanU held k) (b.get n).src (b.get n).day n).plus (b.get n).diff else ⟨0, 0⟩) else b.spanU held k n
theorem spanU_succ {b : Bk} {held : List Int} {k : Nat} {n : Int} : b.spanU held (k + 1) n = if n = (k : Int) then (if held.contains n = true then (b.itemSpan held (b.spanU held k) (b.get n).src (b.get n).day n).plus (b.get n).diff else ⟨0, 0⟩) else b.spanU held k n := rfl
/-- Spans of lesser numbers alone are asked for. -/
theorem itemSpan_below {b : Bk} {held : List Int} {S S' : Int → Cr} {item day below : Int} (h : ∀ n, n < below → S n = S' n) : b.itemSpan held S item day below = b.itemSpan held S' item day below := by
  unfold Bk.itemSpan
  split
  · rfl
  · have key : ∀ (l : List Ct) (e : Cr), (∀ c ∈ l, c.num < below) → l.foldl (fun r c => r.cut ((S c.num).wider ((b.item item).drift * (day - c.day)))) e = l.foldl (fun r c => r.cut ((S' c.num).wider ((b.item item).drift * (day - c.day)))) e := by
      intro l
      induction l with
      | nil => exact fun _ _ => rfl
      | cons c l ih =>
        intro e hl
        rw [List.foldl_cons, List.foldl_cons, h c.num (hl c (by simp)), ih _ fun x hx => hl x (by simp [hx])]
    refine key _ _ fun c hc => ?_
    rw [List.mem_filter] at hc
    have := hc.2
    unfold Bk.ofB at this
    simp only [Bool.and_eq_true, decide_eq_true_eq] at this
    exact this.1.1
def Bk.span (b : Bk) (held : List Int) (n : Int) : Cr := b.spanU held 1000 n
theorem spanU_above {b : Bk} {held : List Int} {n : Int} : ∀ {k : Nat}, n < (k : Int) → ∀ j, b.spanU held (k + j) n = b.spanU held k n
  | k, h, 0 => rfl
  | k, h, j + 1 => by
    rw [← Nat.add_assoc, spanU_succ, if_neg (by omega)]
    exact spanU_above h j
theorem span_is {b : Bk} {held : List Int} {n : Nat} (hn : n < 1000) : b.span held n = if held.contains (n : Int) = true then (b.itemSpan held (b.span held) (b.get n).src (b.get n).day n).plus (b.get n).diff else ⟨0, 0⟩ := by
  have e : b.span held n = b.spanU held (n + 1) n := by
    unfold Bk.span
    rw [show 1000 = n + 1 + (1000 - (n + 1)) by omega]
    exact spanU_above (by omega) _
  rw [e, spanU_succ, if_pos rfl]
  split
  · congr 1
    refine itemSpan_below fun m hm => ?_
    unfold Bk.span
    rw [show 1000 = n + (1000 - n) by omega]
    exact (spanU_above hm _).symm
  · rfl
/-- A book is contradictory: some span has no number. -/
def Bk.contra (b : Bk) : Bool := b.certs.any fun c => (b.held []).contains c.num && decide ((b.itemSpan (b.held []) (b.span (b.held [])) c.it c.day 1000).hi < (b.itemSpan (b.held []) (b.span (b.held [])) c.it c.day 1000).lo)
end Go.Proofs.YtaffbiibcfeigaaGreat
/-! Layer 2 (chain), plain: books with more certificates; truths. -/
namespace Go.Proofs.YtaffbiibcfeigaaGreat
open Go.RowKit
set_option linter.unusedSimpArgs false
def Cr.has (r : Cr) (x : Int) : Prop := r.lo ≤ x ∧ x ≤ r.hi
/-- A range within another one. -/
def Cr.sub (a b : Cr) : Prop := b.lo ≤ a.lo ∧ a.hi ≤ b.hi
theorem fold_has {α : Type} {f : α → Cr} {l : List α} {e : Cr} {x : Int} : (l.foldl (fun r c => r.cut (f c)) e).has x ↔ e.has x ∧ ∀ c ∈ l, (f c).has x := by
  induction l generalizing e with
  | nil => simp
  | cons c l ih =>
    rw [List.foldl_cons, ih]
    have h : (e.cut (f c)).has x ↔ e.has x ∧ (f c).has x := by
      unfold Cr.cut Cr.has
      simp only
      omega
    rw [h]
    simp only [List.mem_cons, forall_eq_or_imp]
    constructor
    · rintro ⟨⟨a, b⟩, c⟩; exact ⟨a, b, c⟩
    · rintro ⟨a, b, c⟩; exact ⟨⟨a, b⟩, c⟩
theorem fold_sub {α β : Type} {f : α → Cr} {g : β → Cr} {l : List α} {l' : List β} {e : Cr} (h : ∀ y ∈ l', ∃ x ∈ l, (f x).sub (g y)) : (l.foldl (fun r c => r.cut (f c)) e).sub (l'.foldl (fun r c => r.cut (g c)) e) := by
  obtain ⟨a1, a2, _⟩ := cut_lo f l e
  obtain ⟨_, _, b3⟩ := cut_lo g l' e
  obtain ⟨c1, c2, _⟩ := cut_hi f l e
  obtain ⟨_, _, d3⟩ := cut_hi g l' e
  constructor
  · rcases b3 with b3 | ⟨y, hy, b3⟩
    · omega
    · obtain ⟨x, hx, h1, _⟩ := h y hy
      have := a2 x hx; omega
  · rcases d3 with d3 | ⟨y, hy, d3⟩
    · omega
    · obtain ⟨x, hx, _, h1⟩ := h y hy
      have := c2 x hx; omega
theorem Cr.sub.wider {a b : Cr} (h : a.sub b) (n : Int) : (a.wider n).sub (b.wider n) := by
  unfold Cr.sub at h ⊢
  unfold Cr.wider Cr.plus
  simp only
  omega
theorem Cr.sub.plus {a b : Cr} (h : a.sub b) (d : Cr) : (a.plus d).sub (b.plus d) := by
  unfold Cr.sub at h ⊢
  unfold Cr.plus
  simp only
  omega
theorem Cr.sub.refl (a : Cr) : a.sub a := ⟨Int.le_refl _, Int.le_refl _⟩
theorem num_bd {b : Bk} (hb : b.ok) {c : Ct} (hc : c ∈ b.certs) : ∃ n : Nat, c.num = n ∧ 1 ≤ n ∧ n < 1000 := by
  have := hb.ct c hc
  unfold Bk.certB inB at this
  simp only [Bool.and_eq_true, decide_eq_true_eq] at this
  exact ⟨c.num.toNat, by omega, by omega, by omega⟩
/-- More certificates, fewer bad ones, the same items: what held still holds. -/
theorem held_more {b b' : Bk} (hb : b.ok) (hb' : b'.ok) (hi : ∀ c ∈ b.certs, b'.item c.src = b.item c.src) (hc : ∀ c ∈ b.certs, c ∈ b'.certs) {bad bad' : List Int} (hbad : ∀ x ∈ bad', x ∈ bad) {x : Int} (hx : x ∈ b.held bad) : x ∈ b'.held bad' := by
  have key : ∀ n : Nat, (n : Int) ∈ b.held bad → (n : Int) ∈ b'.held bad' := by
    intro n
    induction n using Nat.strongRecOn with
    | _ n ih =>
    intro hx
    obtain ⟨c, hc1, hc2, hc3⟩ := (mem_held hb).1 hx
    refine (mem_held hb').2 ⟨c, hc c hc1, hc2, ?_⟩
    unfold Bk.holdB at hc3 ⊢
    rw [Bool.and_eq_true, Bool.or_eq_true] at hc3 ⊢
    refine ⟨?_, ?_⟩
    · rcases hc3.1 with h | h
      · left; rw [hi c hc1]; exact h
      · right
        rw [List.any_eq_true] at h ⊢
        obtain ⟨o, ho, h1⟩ := h
        rw [Bool.and_eq_true, List.contains_iff_mem] at h1
        refine ⟨o, hc o ho, ?_⟩
        rw [Bool.and_eq_true, List.contains_iff_mem]
        refine ⟨h1.1, ?_⟩
        have h2 : o.num < c.num := by have := h1.1; unfold restsB at this; simp only [Bool.and_eq_true, decide_eq_true_eq] at this; exact this.1.2
        obtain ⟨m, hm, _, _⟩ := num_bd hb ho
        have h3 := h1.2
        rw [hm] at h3 ⊢
        exact ih m (by omega) h3
    · have h := hc3.2
      rw [Bool.not_eq_true', Bool.eq_false_iff] at h ⊢
      intro h'
      rw [List.contains_iff_mem] at h'
      exact h (List.contains_iff_mem.2 (hbad _ h'))
  obtain ⟨c0, hc0, e0, _⟩ := (mem_held hb).1 hx
  obtain ⟨n, hn, _, _⟩ := num_bd hb hc0
  have e : x = n := by omega
  rw [e] at hx ⊢
  exact key n hx
theorem itemSpan_fold {b : Bk} {held : List Int} {S : Int → Cr} {item day below : Int} (h : (b.item item).std = false) : b.itemSpan held S item day below = (b.certs.filter fun c => Bk.ofB item day below c && held.contains c.num).foldl (fun r c => r.cut ((S c.num).wider ((b.item item).drift * (day - c.day)))) everyR := by
  unfold Bk.itemSpan
  rw [if_neg (by rw [h]; simp)]
theorem item_more {b b' : Bk} {S S' : Int → Cr} {h h' : List Int} {item day below : Int} (hi : b'.item item = b.item item) (hc : ∀ c ∈ b.certs, c ∈ b'.certs) (hh : ∀ x ∈ h, x ∈ h') (hS : ∀ c ∈ b.certs, c.num < below → c.num ∈ h → (S' c.num).sub (S c.num)) : (b'.itemSpan h' S' item day below).sub (b.itemSpan h S item day below) := by
  cases hs : (b.item item).std with
  | true =>
    unfold Bk.itemSpan
    rw [hi, if_pos hs, if_pos hs]
    exact Cr.sub.refl _
  | false =>
    rw [itemSpan_fold hs, itemSpan_fold (by rw [hi]; exact hs), hi]
    refine fold_sub fun c hcc => ?_
    rw [List.mem_filter, Bool.and_eq_true, List.contains_iff_mem] at hcc
    obtain ⟨h1, h2, h3⟩ := hcc
    have hlt : c.num < below := by unfold Bk.ofB at h2; simp only [Bool.and_eq_true, decide_eq_true_eq] at h2; exact h2.1
    refine ⟨c, ?_, (hS c h1 hlt h3).wider _⟩
    rw [List.mem_filter, Bool.and_eq_true, List.contains_iff_mem]
    exact ⟨hc c h1, h2, hh _ h3⟩
/-- .. and no span is wider. -/
theorem span_more {b b' : Bk} (hb : b.ok) (hb' : b'.ok) (hi : ∀ c ∈ b.certs, b'.item c.src = b.item c.src) (hc : ∀ c ∈ b.certs, c ∈ b'.certs) : ∀ c ∈ b.certs, c.num ∈ b.held [] → (b'.span (b'.held []) c.num).sub (b.span (b.held []) c.num) := by
  have hh : ∀ x ∈ b.held [], x ∈ b'.held [] := fun x hx => held_more hb hb' hi hc (fun _ h => h) hx
  have key : ∀ n : Nat, ∀ c ∈ b.certs, c.num = n → c.num ∈ b.held [] → (b'.span (b'.held []) c.num).sub (b.span (b.held []) c.num) := by
    intro n
    induction n using Nat.strongRecOn with
    | _ n ih =>
    intro c hcc hn hx
    obtain ⟨n', hn', h1, h2⟩ := num_bd hb hcc
    have : n' = n := by omega
    subst this
    have g1 : b.get (n' : Int) = c := by rw [← hn]; exact get_of hb hcc
    have g2 : b'.get (n' : Int) = c := by rw [← hn]; exact get_of hb' (hc c hcc)
    rw [hn] at hx ⊢
    rw [span_is h2, span_is h2, if_pos (List.contains_iff_mem.2 hx), if_pos (List.contains_iff_mem.2 (hh _ hx)), g1, g2]
    refine Cr.sub.plus (item_more (hi c hcc) hc hh fun o ho hlt hox => ?_) _
    obtain ⟨m, hm, _, _⟩ := num_bd hb ho
    exact ih m (by omega) o ho hm hox
  intro c hcc
  obtain ⟨n, hn, _, _⟩ := num_bd hb hcc
  exact key n c hcc hn
/-- A truth: values of items by days, as the certificates have it. -/
structure Truth (b : Bk) (T : Int → Int → Int) : Prop where
  std : ∀ c ∈ b.certs, ∀ d, (b.item c.src).std = true → (b.item c.src).val.has (T c.src d)
  cert : ∀ c ∈ b.certs, c.diff.has (T c.it c.day - T c.src c.day)
  drift : ∀ c ∈ b.certs, ∀ d, c.day ≤ d → T c.it d ≤ T c.it c.day + (b.item c.it).drift * (d - c.day) ∧ T c.it c.day - (b.item c.it).drift * (d - c.day) ≤ T c.it d
  far : ∀ i d, everyR.has (T i d)
theorem Cr.has.plus {a d : Cr} {x y : Int} (h : a.has x) (h' : d.has (y - x)) : (a.plus d).has y := by
  unfold Cr.has at h h' ⊢
  unfold Cr.plus
  simp only
  omega
theorem item_truth {b : Bk} {T : Int → Int → Int} (hT : Truth b T) {h : List Int} {S : Int → Cr} {item day below : Int} (hstd : (b.item item).std = true → (b.item item).val.has (T item day)) (hS : ∀ c ∈ b.certs, c.num < below → c.num ∈ h → (S c.num).has (T c.it c.day)) : (b.itemSpan h S item day below).has (T item day) := by
  cases hs : (b.item item).std with
  | true => unfold Bk.itemSpan; rw [if_pos hs]; exact hstd hs
  | false =>
    rw [itemSpan_fold hs, fold_has]
    refine ⟨hT.far _ _, fun c hc => ?_⟩
    rw [List.mem_filter, Bool.and_eq_true, List.contains_iff_mem] at hc
    obtain ⟨h1, h2, h3⟩ := hc
    unfold Bk.ofB Ct.on inB at h2
    simp only [Bool.and_eq_true, decide_eq_true_eq] at h2
    obtain ⟨h4, h5, h6⟩ := h2
    have h7 := hS c h1 h4 h3
    have h8 := hT.drift c h1 day h6.1
    rw [h5] at h7 h8
    unfold Cr.has at h7 ⊢
    unfold Cr.wider Cr.plus
    simp only
    omega
theorem span_truth {b : Bk} (hb : b.ok) {T : Int → Int → Int} (hT : Truth b T) : ∀ c ∈ b.certs, c.num ∈ b.held [] → (b.span (b.held []) c.num).has (T c.it c.day) := by
  have key : ∀ n : Nat, ∀ c ∈ b.certs, c.num = n → c.num ∈ b.held [] → (b.span (b.held []) c.num).has (T c.it c.day) := by
    intro n
    induction n using Nat.strongRecOn with
    | _ n ih =>
    intro c hcc hn hx
    obtain ⟨n', hn', h1, h2⟩ := num_bd hb hcc
    have : n' = n := by omega
    subst this
    have g1 : b.get (n' : Int) = c := by rw [← hn]; exact get_of hb hcc
    rw [hn] at hx ⊢
    rw [span_is h2, if_pos (List.contains_iff_mem.2 hx), g1]
    refine Cr.has.plus (item_truth hT (hT.std c hcc c.day) fun o ho hlt hox => ?_) (hT.cert c hcc)
    obtain ⟨m, hm, _, _⟩ := num_bd hb ho
    exact ih m (by omega) o ho hm hox
  intro c hcc
  obtain ⟨n, hn, _, _⟩ := num_bd hb hcc
  exact key n c hcc hn
/-- A book that has a truth is not contradictory. -/
theorem truth_contra {b : Bk} (hb : b.ok) {T : Int → Int → Int} (hT : Truth b T) : b.contra = false := by
  unfold Bk.contra
  rw [List.any_eq_false]
  intro c hc h
  rw [Bool.and_eq_true, decide_eq_true_eq] at h
  have hns : (b.item c.it).std = false := by
    have := hb.ct c hc
    unfold Bk.certB at this
    simp only [Bool.and_eq_true, Bool.not_eq_true'] at this
    exact this.1.1.1.1.1.2
  have := item_truth (item := c.it) (day := c.day) (below := 1000) hT (fun h => by rw [hns] at h; cases h) fun o ho _ hox => span_truth hb hT o ho hox
  unfold Cr.has at this
  omega
end Go.Proofs.YtaffbiibcfeigaaGreat
/-! Layer 2 (chain), plain: the best chain. -/
namespace Go.Proofs.YtaffbiibcfeigaaGreat
open Go.RowKit
set_option linter.unusedSimpArgs false
def lexB : List Int → List Int → Bool
  | a :: as, b :: bs => decide (a < b) || (decide (a = b) && lexB as bs)
  | [], _ :: _ => true
  | _, [] => false
/-- The shorter list, and the one with lesser numbers, is first. -/
def ltC (a b : List Int) : Bool := decide (a.length < b.length) || (decide (a.length = b.length) && lexB a b)
/-- The first of lists. -/
def stepC (o : Option (List Int)) (x : List Int) : Option (List Int) := match o with
  | none => some x
  | some m => if ltC x m = true then some x else some m
def minC (l : List (List Int)) : Option (List Int) := l.foldl stepC none
end Go.Proofs.YtaffbiibcfeigaaGreat
/-! Layer 2 (chain), plain: how great spans are; standards that are moved. -/
namespace Go.Proofs.YtaffbiibcfeigaaGreat
open Go.RowKit
set_option linter.unusedSimpArgs false
def Cr.bdd (r : Cr) (B : Int) : Prop := -B ≤ r.lo ∧ r.lo ≤ B ∧ -B ≤ r.hi ∧ r.hi ≤ B
theorem fold_bdd {α : Type} {f : α → Cr} {l : List α} {B : Int} (hB : B < 1099511627776) (hne : l ≠ []) (h : ∀ x ∈ l, (f x).bdd B) : (l.foldl (fun r c => r.cut (f c)) everyR).bdd B := by
  obtain ⟨x0, hx0⟩ := List.exists_mem_of_ne_nil l hne
  obtain ⟨_, a2, a3⟩ := cut_lo f l everyR
  obtain ⟨_, c2, c3⟩ := cut_hi f l everyR
  have h0 := h x0 hx0
  have h1 := a2 x0 hx0
  have h2 := c2 x0 hx0
  have e1 : everyR.lo = -1099511627776 := rfl
  have e2 : everyR.hi = 1099511627776 := rfl
  unfold Cr.bdd at h0 ⊢
  refine ⟨by omega, ?_, ?_, by omega⟩
  · rcases a3 with a3 | ⟨y, hy, a3⟩
    · omega
    · have := h y hy; unfold Cr.bdd at this; omega
  · rcases c3 with c3 | ⟨y, hy, c3⟩
    · omega
    · have := h y hy; unfold Cr.bdd at this; omega
theorem cert_bds {b : Bk} (hb : b.ok) {c : Ct} (hc : c ∈ b.certs) : 1 ≤ c.num ∧ c.num ≤ 999 ∧ 0 ≤ c.it ∧ c.it < b.items.length ∧ (b.item c.it).std = false ∧ 0 ≤ c.src ∧ c.src < b.items.length ∧ c.src ≠ c.it ∧ 0 ≤ c.day ∧ c.day ≤ 1000 ∧ 0 ≤ c.valid ∧ c.valid ≤ 1000 ∧ c.diff.bdd 100000 ∧ c.diff.lo ≤ c.diff.hi := by
  have := hb.ct c hc
  unfold Bk.certB inB Bk.hasItem inB Cr.okB valB inB at this
  simp only [Bool.and_eq_true, decide_eq_true_eq, Bool.not_eq_true'] at this
  unfold Cr.bdd
  obtain ⟨⟨⟨⟨⟨⟨⟨a1, a2⟩, a3⟩, a4⟩, a5⟩, a6⟩, a7⟩, a8⟩ := this
  refine ⟨a1.1, a1.2, a2.1, by omega, a3, a4.1, by omega, a5, a6.1, a6.2, a7.1, a7.2, ?_, a8.2⟩
  omega
theorem item_bds {b : Bk} (hb : b.ok) {i : Int} (h0 : 0 ≤ i) (h1 : i < b.items.length) : 0 ≤ (b.item i).drift ∧ (b.item i).drift ≤ 100 ∧ (b.item i).val.bdd 100000 ∧ (b.item i).val.lo ≤ (b.item i).val.hi := by
  have hm : b.item i ∈ b.items := by
    unfold Bk.item
    rw [List.getElem?_eq_getElem (by omega)]
    exact List.getElem_mem _
  have := hb.it _ hm
  unfold It.okB inB Cr.okB valB inB at this
  simp only [Bool.and_eq_true, decide_eq_true_eq] at this
  unfold Cr.bdd
  omega
/-- What holds rests on a standard, or on something that holds. -/
theorem held_src {b : Bk} (hb : b.ok) {c : Ct} (hc : c ∈ b.certs) {bad : List Int} (h : c.num ∈ b.held bad) : (b.item c.src).std = true ∨ ∃ o ∈ b.certs, Bk.ofB c.src c.day c.num o = true ∧ o.num ∈ b.held bad := by
  obtain ⟨c', hc', e, h1⟩ := (mem_held hb).1 h
  have : c' = c := hb.one c' hc' c hc e
  subst this
  unfold Bk.holdB at h1
  rw [Bool.and_eq_true, Bool.or_eq_true] at h1
  rcases h1.1 with h2 | h2
  · exact .inl h2
  · rw [List.any_eq_true] at h2
    obtain ⟨o, ho, h3⟩ := h2
    rw [Bool.and_eq_true, List.contains_iff_mem, rests_of] at h3
    exact .inr ⟨o, ho, h3.1, h3.2⟩
theorem wider_bdd {r : Cr} {A B d : Int} (h : r.bdd A) (h0 : 0 ≤ d) (h1 : A + d ≤ B) : (r.wider d).bdd B := by
  unfold Cr.bdd at h ⊢
  unfold Cr.wider Cr.plus
  simp only
  omega
theorem far_bd {b : Bk} (hb : b.ok) {o : Ct} (ho : o ∈ b.certs) {day : Int} (hon : o.on day = true) : 0 ≤ (b.item o.it).drift * (day - o.day) ∧ (b.item o.it).drift * (day - o.day) ≤ 100000 := by
  have h1 := cert_bds hb ho
  have h2 := item_bds hb h1.2.2.1 h1.2.2.2.1
  unfold Ct.on inB at hon
  simp only [Bool.and_eq_true, decide_eq_true_eq] at hon
  have h3 : 0 ≤ day - o.day := by omega
  have h4 : day - o.day ≤ 1000 := by omega
  exact ⟨Int.mul_nonneg h2.1 h3, Int.le_trans (Int.mul_le_mul h2.2.1 h4 h3 (by omega)) (by omega)⟩
/-- An item that is held has a span that is not great. -/
theorem item_bdd {b : Bk} (hb : b.ok) {held : List Int} {S : Int → Cr} {item day below : Int} {A : Int} (h0 : 0 ≤ item) (h1 : item < b.items.length) (hA : 100000 ≤ A) (hA2 : A + 100000 < 1099511627776) (hex : (b.item item).std = true ∨ ∃ o ∈ b.certs, Bk.ofB item day below o = true ∧ o.num ∈ held) (hS : ∀ c ∈ b.certs, c.num < below → c.num ∈ held → (S c.num).bdd A) : (b.itemSpan held S item day below).bdd (A + 100000) := by
  cases hs : (b.item item).std with
  | true =>
    unfold Bk.itemSpan
    rw [if_pos hs]
    have := (item_bds hb h0 h1).2.2.1
    unfold Cr.bdd at this ⊢
    omega
  | false =>
    rw [itemSpan_fold hs]
    obtain ⟨o, ho, h2, h3⟩ : ∃ o ∈ b.certs, Bk.ofB item day below o = true ∧ o.num ∈ held := by
      rcases hex with h | h
      · rw [hs] at h; cases h
      · exact h
    refine fold_bdd (by omega) (fun e => ?_) fun c hc => ?_
    · have : o ∈ (b.certs.filter fun c => Bk.ofB item day below c && held.contains c.num) := by
        rw [List.mem_filter, Bool.and_eq_true, List.contains_iff_mem]; exact ⟨ho, h2, h3⟩
      rw [e] at this; cases this
    · rw [List.mem_filter, Bool.and_eq_true, List.contains_iff_mem] at hc
      obtain ⟨k1, k2, k3⟩ := hc
      unfold Bk.ofB at k2
      simp only [Bool.and_eq_true, decide_eq_true_eq] at k2
      have hf := far_bd hb k1 k2.2.2
      rw [k2.2.1] at hf
      exact wider_bdd (hS c k1 k2.1 k3) hf.1 (by omega)
theorem span_bdd {b : Bk} (hb : b.ok) : ∀ c ∈ b.certs, c.num ∈ b.held [] → (b.span (b.held []) c.num).bdd (300000 * (c.num + 1)) := by
  have key : ∀ n : Nat, ∀ c ∈ b.certs, c.num = n → c.num ∈ b.held [] → (b.span (b.held []) c.num).bdd (300000 * (c.num + 1)) := by
    intro n
    induction n using Nat.strongRecOn with
    | _ n ih =>
    intro c hcc hn hx
    obtain ⟨n', hn', h1, h2⟩ := num_bd hb hcc
    have : n' = n := by omega
    subst this
    have g1 : b.get (n' : Int) = c := by rw [← hn]; exact get_of hb hcc
    have hcb := cert_bds hb hcc
    have hsr := held_src hb hcc hx
    rw [hn] at hx hsr ⊢
    rw [span_is h2, if_pos (List.contains_iff_mem.2 hx), g1]
    have hi := item_bdd hb (S := b.span (b.held [])) (day := c.day) (below := (n' : Int)) (A := 300000 * (n' : Int)) hcb.2.2.2.2.2.1 hcb.2.2.2.2.2.2.1 (by omega) (by omega) hsr fun o ho hlt hox => by
      obtain ⟨m, hm, _, _⟩ := num_bd hb ho
      have := ih m (by omega) o ho hm hox
      unfold Cr.bdd at this ⊢
      omega
    have hd := hcb.2.2.2.2.2.2.2.2.2.2.2.2.1
    unfold Cr.bdd at hi hd ⊢
    unfold Cr.plus
    simp only
    omega
  intro c hcc
  obtain ⟨n, hn, _, _⟩ := num_bd hb hcc
  exact key n c hcc hn
end Go.Proofs.YtaffbiibcfeigaaGreat
/-! Layer 2 (chain), plain: chains, and the best of them. -/
namespace Go.Proofs.YtaffbiibcfeigaaGreat
open Go.RowKit
set_option linter.unusedSimpArgs false
/-- The chains that end with the certificate of a number. -/
def Bk.chU (b : Bk) (held : List Int) : Nat → Int → List (List Int)
  | 0, _ => []
  | k + 1, n => if n = (k : Int) then (if (b.item (b.get n).src).std = true then [[n]] else (held.filter fun m => restsB (b.get n) (b.get m)).flatMap fun m => (b.chU held k m).map (· ++ [n])) else b.chU held k n
theorem chU_succ {b : Bk} {held : List Int} {k : Nat} {n : Int} : b.chU held (k + 1) n = if n = (k : Int) then (if (b.item (b.get n).src).std = true then [[n]] else (held.filter fun m => restsB (b.get n) (b.get m)).flatMap fun m => (b.chU held k m).map (· ++ [n])) else b.chU held k n := rfl
theorem chU_above {b : Bk} {held : List Int} {n : Int} : ∀ {k : Nat}, n < (k : Int) → ∀ j, b.chU held (k + j) n = b.chU held k n
  | k, h, 0 => rfl
  | k, h, j + 1 => by
    rw [← Nat.add_assoc, chU_succ, if_neg (by omega)]
    exact chU_above h j
def Bk.chains (b : Bk) (held : List Int) (n : Int) : List (List Int) := b.chU held 1000 n
theorem chains_is {b : Bk} (hb : b.ok) {held : List Int} (hh : ∀ m ∈ held, m ∈ b.nums) {n : Nat} (hn : n < 1000) (hn2 : (n : Int) ∈ b.nums) : b.chains held n = if (b.item (b.get n).src).std = true then [[(n : Int)]] else (held.filter fun m => restsB (b.get n) (b.get m)).flatMap fun m => (b.chains held m).map (· ++ [(n : Int)]) := by
  have e : b.chains held n = b.chU held (n + 1) n := by
    unfold Bk.chains
    rw [show 1000 = n + 1 + (1000 - (n + 1)) by omega]
    exact chU_above (by omega) _
  rw [e, chU_succ, if_pos rfl]
  split
  · rfl
  · have key : ∀ L : List Int, (∀ m ∈ L, m < (n : Int)) → (L.flatMap fun m => (b.chU held n m).map (· ++ [(n : Int)])) = L.flatMap fun m => (b.chains held m).map (· ++ [(n : Int)]) := by
      intro L
      induction L with
      | nil => exact fun _ => rfl
      | cons m L ih =>
        intro h
        rw [List.flatMap_cons, List.flatMap_cons, ih fun x hx => h x (by simp [hx])]
        congr 2
        unfold Bk.chains
        rw [show 1000 = n + (1000 - n) by omega]
        exact (chU_above (h m (by simp)) _).symm
    refine key _ fun m hm => ?_
    rw [List.mem_filter] at hm
    have h1 := hm.2
    unfold restsB at h1
    simp only [Bool.and_eq_true, decide_eq_true_eq] at h1
    have h2 := (get_num hb (hh m hm.1)).2
    have h3 := (get_num hb hn2).2
    omega
/-- The best chain that ends with it. -/
def Bk.endC (b : Bk) (held : List Int) (n : Int) : Option (List Int) := minC (b.chains held n)
theorem held_nums {b : Bk} (hb : b.ok) {bad : List Int} : ∀ m ∈ b.held bad, m ∈ b.nums := fun m hm => by
  obtain ⟨c, hc, e, _⟩ := (mem_held hb).1 hm
  exact (mem_nums hb).2 ⟨c, hc, e⟩
/-- The best chain of an item on a day. -/
def Bk.bestC (b : Bk) (held : List Int) (item day : Int) : Option (List Int) := minC ((held.filter fun m => decide ((b.get m).it = item) && (b.get m).on day).flatMap (b.chains held))
end Go.Proofs.YtaffbiibcfeigaaGreat
