/- Layer 1 (curve), plain: what is read in a truth; spans. (Several texts in one.) -/
import Derived.Test.YtaffbiibcfeigaaGreatBaseD
import Derived.Test.YtaffbiibcfeigaaGreatCodeB
set_option linter.unusedVariables false
set_option linter.unusedSimpArgs false
/-! Layer 1 (curve), plain: what is read in a truth; spans. -/
namespace Go.Proofs.YtaffbiibcfeigaaGreat
open Go.RowKit
set_option linter.unusedSimpArgs false
/-- A point: its stretch, and the range of its load. -/
structure Pt where
  st : Int
  lo : Int
  hi : Int
  deriving DecidableEq, Inhabited
structure Rl where
  drop : Int
  slope : Int
  offs : Int
def Pt.ok (p : Pt) : Bool := decide (0 ≤ p.st ∧ p.st ≤ 1000 ∧ 0 ≤ p.lo ∧ p.lo ≤ p.hi ∧ p.hi ≤ 100000)
def riseB : List Pt → Bool
  | a :: b :: r => decide (a.st < b.st) && riseB (b :: r)
  | _ => true
/-- A valid curve. -/
def cvOk (ps : List Pt) : Bool := decide (0 < ps.length ∧ ps.length ≤ 20) && (ps.all Pt.ok && riseB ps)
def cvErr (ps : List Pt) : Int := if 20 < ps.length then 3 else if cvOk ps then 0 else 1
def Rl.ok (r : Rl) : Bool := decide (1 ≤ r.drop ∧ r.drop ≤ 100000 ∧ 1 ≤ r.slope ∧ r.slope ≤ 1000 ∧ 0 ≤ r.offs ∧ r.offs ≤ 1000)
def ptD (ps : List Pt) (i : Nat) : Pt := ps.getD i ⟨0, 0, 0⟩
def lnM (r : Rl) (ps : List Pt) (i : Nat) : Int := r.slope * ((ptD ps i).st - r.offs)
def meetM (p q a b : Int) : Int := a + ((b - a) * (a - p)) / (a - p + (q - b))
/-- The greatest load, and where it is. -/
def sP (l : List Int) : Nat → Int × Int
  | 0 => (-1, 0)
  | k + 1 => if (sP l k).1 < l.getD k 0 then (l.getD k 0, (k : Int)) else sP l k
/-- The yield point, and its load. -/
def yP (r : Rl) (l : List Int) : Nat → Int × Int
  | 0 => (-1, 0)
  | k + 1 => if (yP r l k).1 = -1 ∧ k + 1 < l.length ∧ r.drop ≤ l.getD k 0 - l.getD (k + 1) 0 then ((k : Int), l.getD k 0) else yP r l k
/-- The meeting point, and the load there. -/
def mP (r : Rl) (ps : List Pt) (l : List Int) : Nat → Int × Int
  | 0 => (-1, 0)
  | k + 1 => if (mP r ps l k).1 = -1 ∧ l.getD k 0 ≤ lnM r ps k then ((k : Int), match k with
      | 0 => l.getD 0 0
      | j + 1 => meetM (lnM r ps j) (lnM r ps (j + 1)) (l.getD j 0) (l.getD (j + 1) 0)) else mP r ps l k
def wP (ps : List Pt) (l : List Int) : Nat → Int
  | 0 => 0
  | k + 1 => match k with
    | 0 => 0
    | j + 1 => wP ps l (j + 1) + (l.getD j 0 + l.getD (j + 1) 0) * ((ptD ps (j + 1)).st - (ptD ps j).st)
def cvTru (ps : List Pt) (l : List Int) : Bool := decide (l.length = ps.length) && (List.range ps.length).all fun i => decide ((ptD ps i).lo ≤ l.getD i 0 ∧ l.getD i 0 ≤ (ptD ps i).hi)
def loL (ps : List Pt) : List Int := ps.map Pt.lo
def hiL (ps : List Pt) : List Int := ps.map Pt.hi
theorem ptD_get {ps : List Pt} {i : Nat} (h : i < ps.length) : ps[i]? = some (ptD ps i) := by
  unfold ptD; rw [List.getD_eq_getElem?_getD, List.getElem?_eq_getElem h]; rfl
theorem cv_ok {ps : List Pt} (h : cvOk ps = true) {i : Nat} (hi : i < ps.length) : 0 ≤ (ptD ps i).st ∧ (ptD ps i).st ≤ 1000 ∧ 0 ≤ (ptD ps i).lo ∧ (ptD ps i).lo ≤ (ptD ps i).hi ∧ (ptD ps i).hi ≤ 100000 := by
  unfold cvOk at h
  simp only [Bool.and_eq_true, List.all_eq_true] at h
  have := h.2.1 _ (List.mem_of_getElem? (ptD_get hi))
  simpa [Pt.ok] using this
theorem cv_len {ps : List Pt} (h : cvOk ps = true) : 0 < ps.length ∧ ps.length ≤ 20 := by
  unfold cvOk at h
  simp only [Bool.and_eq_true, decide_eq_true_eq] at h
  exact h.1
theorem rise_at : ∀ {ps : List Pt}, riseB ps = true → ∀ {i : Nat}, i + 1 < ps.length → (ptD ps i).st < (ptD ps (i + 1)).st
  | [], _, i, h => by simp at h
  | [a], _, i, h => by simp at h
  | a :: b :: r, hr, 0, h => by
    simp [riseB] at hr
    exact hr.1
  | a :: b :: r, hr, i + 1, h => by
    simp [riseB] at hr
    have := rise_at (ps := b :: r) hr.2 (i := i) (by simp at h ⊢; omega)
    exact this
theorem cv_rise {ps : List Pt} (h : cvOk ps = true) {i : Nat} (hi : i + 1 < ps.length) : (ptD ps i).st < (ptD ps (i + 1)).st := by
  unfold cvOk at h
  simp only [Bool.and_eq_true] at h
  exact rise_at h.2.2 hi
theorem tru_len {ps : List Pt} {l : List Int} (h : cvTru ps l = true) : l.length = ps.length := by
  unfold cvTru at h
  simp only [Bool.and_eq_true, decide_eq_true_eq] at h
  exact h.1
theorem tru_at {ps : List Pt} {l : List Int} (h : cvTru ps l = true) {i : Nat} (hi : i < ps.length) : (ptD ps i).lo ≤ l.getD i 0 ∧ l.getD i 0 ≤ (ptD ps i).hi := by
  unfold cvTru at h
  simp only [Bool.and_eq_true, List.all_eq_true] at h
  have := h.2 i (by simpa using hi)
  simpa using this
theorem tru_of {ps : List Pt} {l : List Int} (h : l.length = ps.length) (h2 : ∀ i, i < ps.length → (ptD ps i).lo ≤ l.getD i 0 ∧ l.getD i 0 ≤ (ptD ps i).hi) : cvTru ps l = true := by
  unfold cvTru
  simp only [Bool.and_eq_true, List.all_eq_true, decide_eq_true_eq]
  exact ⟨h, fun i hi => h2 i (by simpa using hi)⟩
theorem loL_get {ps : List Pt} {i : Nat} (h : i < ps.length) : (loL ps).getD i 0 = (ptD ps i).lo := by
  unfold loL; rw [List.getD_eq_getElem?_getD, List.getElem?_map, ptD_get h]; rfl
theorem hiL_get {ps : List Pt} {i : Nat} (h : i < ps.length) : (hiL ps).getD i 0 = (ptD ps i).hi := by
  unfold hiL; rw [List.getD_eq_getElem?_getD, List.getElem?_map, ptD_get h]; rfl
theorem lo_tru {ps : List Pt} (h : cvOk ps = true) : cvTru ps (loL ps) = true := tru_of (by simp [loL]) fun i hi => by
  rw [loL_get hi]; have := cv_ok h hi; omega
theorem hi_tru {ps : List Pt} (h : cvOk ps = true) : cvTru ps (hiL ps) = true := tru_of (by simp [hiL]) fun i hi => by
  rw [hiL_get hi]; have := cv_ok h hi; omega
/-- Greater loads, greater strength. -/
theorem sP_mono {l l' : List Int} : ∀ {k : Nat}, (∀ i, i < k → l.getD i 0 ≤ l'.getD i 0) → (sP l k).1 ≤ (sP l' k).1
  | 0, _ => by simp [sP]
  | k + 1, h => by
    have h1 := sP_mono (k := k) fun i hi => h i (by omega)
    have h2 := h k (by omega)
    unfold sP
    split <;> split <;> (try simp only) <;> omega
/-- Greater loads, more work. -/
theorem wP_mono {ps : List Pt} (hp : cvOk ps = true) {l l' : List Int} : ∀ {k : Nat}, k ≤ ps.length → (∀ i, i < k → l.getD i 0 ≤ l'.getD i 0) → wP ps l k ≤ wP ps l' k
  | 0, _, _ => Int.le_refl _
  | 1, _, _ => Int.le_refl _
  | k + 2, hk, h => by
    have h1 := wP_mono hp (k := k + 1) (by omega) fun i hi => h i (by omega)
    have h2 := h k (by omega)
    have h3 := h (k + 1) (by omega)
    have h4 := cv_rise hp (i := k) (by omega)
    have h5 : (l.getD k 0 + l.getD (k + 1) 0) * ((ptD ps (k + 1)).st - (ptD ps k).st) ≤ (l'.getD k 0 + l'.getD (k + 1) 0) * ((ptD ps (k + 1)).st - (ptD ps k).st) := Int.mul_le_mul_of_nonneg_right (by omega) (by omega)
    show wP ps l (k + 1) + _ ≤ wP ps l' (k + 1) + _
    omega
theorem wP_bd {ps : List Pt} (hp : cvOk ps = true) {l : List Int} (hl : ∀ i, i < ps.length → 0 ≤ l.getD i 0 ∧ l.getD i 0 ≤ 100000) : ∀ {k : Nat}, k ≤ ps.length → 0 ≤ wP ps l k ∧ wP ps l k ≤ k * 200000000
  | 0, _ => by simp [wP]
  | 1, _ => by simp [wP]
  | k + 2, hk => by
    have h1 := wP_bd hp hl (k := k + 1) (by omega)
    have h2 := hl k (by omega)
    have h3 := hl (k + 1) (by omega)
    have h4 := cv_rise hp (i := k) (by omega)
    have h6 := cv_ok hp (i := k) (by omega)
    have h7 := cv_ok hp (i := k + 1) (by omega)
    have h5 : (l.getD k 0 + l.getD (k + 1) 0) * ((ptD ps (k + 1)).st - (ptD ps k).st) ≤ 200000 * 1000 := Int.mul_le_mul (by omega) (by omega) (by omega) (by omega)
    have h8 : 0 ≤ (l.getD k 0 + l.getD (k + 1) 0) * ((ptD ps (k + 1)).st - (ptD ps k).st) := Int.mul_nonneg (by omega) (by omega)
    show 0 ≤ wP ps l (k + 1) + _ ∧ wP ps l (k + 1) + _ ≤ _
    omega
/-- What is between the lines. -/
theorem down_ediv (n by_ : Int) (h : 0 < by_) : (if n.tmod by_ < 0 then n.tdiv by_ - 1 else n.tdiv by_) = n / by_ := by
  have h1 := Int.tmod_add_mul_tdiv n by_
  have h2 := Int.emod_add_mul_ediv n by_
  have h3 := Int.emod_nonneg n (by omega : by_ ≠ 0)
  have h4 := Int.emod_lt_of_pos n h
  rcases Int.le_total 0 n with hn | hn
  · have := Int.tmod_nonneg by_ hn
    rw [if_neg (by omega), Int.tdiv_eq_ediv_of_nonneg hn]
  · have h5 : n.tmod by_ ≤ 0 := by
      have := Int.tmod_nonneg by_ (show 0 ≤ -n by omega)
      rw [Int.neg_tmod] at this
      omega
    have h6 : -by_ < n.tmod by_ := by
      have := Int.tmod_lt_of_pos (-n) h
      rw [Int.neg_tmod] at this
      omega
    split
    · -- n = by*(t) + m, -by < m < 0
      have : by_ * (n.tdiv by_ - 1) = by_ * n.tdiv by_ - by_ := by rw [Int.mul_sub, Int.mul_one]
      have e : by_ * (n / by_ - (n.tdiv by_ - 1)) = by_ * (n / by_) - by_ * (n.tdiv by_ - 1) := Int.mul_sub ..
      have hlt1 : by_ * (n / by_ - (n.tdiv by_ - 1)) < by_ * 1 := by omega
      have hlt2 : by_ * (-1) < by_ * (n / by_ - (n.tdiv by_ - 1)) := by omega
      have := Int.lt_of_mul_lt_mul_left hlt1 (by omega)
      have := Int.lt_of_mul_lt_mul_left hlt2 (by omega)
      omega
    · have h0 : n.tmod by_ = 0 := by omega
      have e : by_ * (n / by_ - n.tdiv by_) = by_ * (n / by_) - by_ * n.tdiv by_ := Int.mul_sub ..
      have hlt1 : by_ * (n / by_ - n.tdiv by_) < by_ * 1 := by omega
      have hlt2 : by_ * (-1) < by_ * (n / by_ - n.tdiv by_) := by omega
      have := Int.lt_of_mul_lt_mul_left hlt1 (by omega)
      have := Int.lt_of_mul_lt_mul_left hlt2 (by omega)
      omega
theorem meet_eq {p q a b : Int} (h1 : p < a) (h2 : b ≤ q) : meetM p q a b = p + ((q - p) * (a - p)) / (a - p + (q - b)) := by
  unfold meetM
  have hD : a - p + (q - b) ≠ 0 := by omega
  have e : (q - p) * (a - p) = (b - a) * (a - p) + (a - p) * (a - p + (q - b)) := by
    have : q - p = (b - a) + (a - p + (q - b)) := by omega
    rw [this, Int.add_mul, Int.mul_comm (a - p + (q - b))]
  rw [e, Int.add_mul_ediv_right _ _ hD]
  omega
theorem meet_mono {p q a b a' b' : Int} (hpq : p ≤ q) (h1 : p < a) (h2 : b' ≤ q) (h3 : a ≤ a') (h4 : b ≤ b') : meetM p q a b ≤ meetM p q a' b' := by
  rw [meet_eq h1 (by omega), meet_eq (by omega) h2]
  have hu : 0 < a - p := by omega
  have hu' : 0 < a' - p := by omega
  have hD : 0 < a - p + (q - b) := by omega
  have hD' : 0 < a' - p + (q - b') := by omega
  suffices h : ((q - p) * (a - p)) / (a - p + (q - b)) ≤ ((q - p) * (a' - p)) / (a' - p + (q - b')) by omega
  rw [Int.le_ediv_iff_mul_le hD']
  generalize hx : ((q - p) * (a - p)) / (a - p + (q - b)) = x
  have hx1 : x * (a - p + (q - b)) ≤ (q - p) * (a - p) := by rw [← hx]; exact Int.ediv_mul_le _ (by omega)
  have hx0 : 0 ≤ x := by rw [← hx]; exact Int.ediv_nonneg (Int.mul_nonneg (by omega) (by omega)) (by omega)
  -- x*(u+v) ≤ K u, want x*(u'+v') ≤ K u'
  have hxK : x ≤ q - p := by
    have : (q - p) * (a - p) ≤ (q - p) * (a - p + (q - b)) := Int.mul_le_mul_of_nonneg_left (by omega) (by omega)
    exact Int.le_of_mul_le_mul_right (Int.le_trans hx1 this) hD
  have e1 : x * (a - p + (q - b)) = x * (a - p) + x * (q - b) := Int.mul_add ..
  have e2 : x * (a' - p + (q - b')) = x * (a' - p) + x * (q - b') := Int.mul_add ..
  have e3 : x * (q - b') ≤ x * (q - b) := Int.mul_le_mul_of_nonneg_left (by omega) hx0
  have e4 : (q - p - x) * (a - p) ≤ (q - p - x) * (a' - p) := Int.mul_le_mul_of_nonneg_left (by omega) (by omega)
  rw [Int.sub_mul (q - p) x (a - p), Int.sub_mul (q - p) x (a' - p)] at e4
  omega
end Go.Proofs.YtaffbiibcfeigaaGreat
/-! Layer 1 (curve), plain: the points that may be the yield point, or the meeting point. -/
namespace Go.Proofs.YtaffbiibcfeigaaGreat
open Go.RowKit
set_option linter.unusedSimpArgs false
/-- Where the first drop is. -/
theorem yP_none {r : Rl} {l : List Int} : ∀ {k : Nat}, (∀ j, j < k → j + 1 < l.length → l.getD j 0 - l.getD (j + 1) 0 < r.drop) → yP r l k = (-1, 0)
  | 0, _ => rfl
  | k + 1, h => by
    have h1 := yP_none (k := k) fun j hj => h j (by omega)
    have h2 := h k (by omega)
    unfold yP
    rw [h1, if_neg]
    rintro ⟨_, h3, h4⟩
    have := h2 h3
    omega
theorem yP_at {r : Rl} {l : List Int} {i : Nat} (h : ∀ j, j < i → j + 1 < l.length → l.getD j 0 - l.getD (j + 1) 0 < r.drop) (h1 : i + 1 < l.length) (h2 : r.drop ≤ l.getD i 0 - l.getD (i + 1) 0) : ∀ {k : Nat}, i < k → yP r l k = ((i : Int), l.getD i 0)
  | k + 1, hk => by
    rcases Nat.lt_or_ge i k with h3 | h3
    · have := yP_at h h1 h2 (k := k) h3
      unfold yP
      rw [this, if_neg (by simp only; omega)]
    · obtain rfl : i = k := by omega
      unfold yP
      rw [yP_none h, if_pos ⟨rfl, h1, h2⟩]
theorem yP_inv {r : Rl} {l : List Int} : ∀ {k : Nat}, (yP r l k).1 ≠ -1 → ∃ i : Nat, i < k ∧ i + 1 < l.length ∧ r.drop ≤ l.getD i 0 - l.getD (i + 1) 0 ∧ (∀ j, j < i → l.getD j 0 - l.getD (j + 1) 0 < r.drop) ∧ yP r l k = ((i : Int), l.getD i 0)
  | 0, h => absurd rfl h
  | k + 1, h => by
    by_cases h1 : (yP r l k).1 = -1
    · have hn : ∀ j, j < k → j + 1 < l.length → l.getD j 0 - l.getD (j + 1) 0 < r.drop := by
        clear h
        intro j
        induction k with
        | zero => intro hj; omega
        | succ k ih =>
          intro hj hl
          unfold yP at h1
          split at h1
          · simp only at h1; omega
          · rename_i hc
            rcases Nat.lt_or_ge j k with h2 | h2
            · exact ih h1 h2 hl
            · obtain rfl : j = k := by omega
              rcases Int.lt_or_le (l.getD j 0 - l.getD (j + 1) 0) r.drop with h3 | h3
              · exact h3
              · exact absurd ⟨h1, hl, h3⟩ hc
      unfold yP at h
      split at h
      · rename_i hc
        refine ⟨k, by omega, hc.2.1, hc.2.2, fun j hj => hn j hj (by omega), ?_⟩
        unfold yP
        rw [if_pos hc]
      · exact absurd h1 h
    · obtain ⟨i, h2, h3, h4, h5, h6⟩ := yP_inv h1
      refine ⟨i, by omega, h3, h4, h5, ?_⟩
      unfold yP
      rw [if_neg (fun hc => h1 hc.1), h6]
/-- The least load of a point, if none before it drops. -/
def leM (r : Rl) (ps : List Pt) : Nat → Int
  | 0 => (ptD ps 0).lo
  | i + 1 => max (ptD ps (i + 1)).lo (leM r ps i - r.drop + 1)
/-- The load j points before a drop. -/
def bkA (r : Rl) (ps : List Pt) (at_ : Nat) (load : Int) : Nat → Int
  | 0 => load
  | j + 1 => min (ptD ps (at_ - (j + 1))).hi (bkA r ps at_ load j + r.drop - 1)
def bkL (r : Rl) (ps : List Pt) (at_ : Nat) (load : Int) : List Int := (List.range ps.length).map fun k => if k ≤ at_ then bkA r ps at_ load (at_ - k) else (ptD ps k).lo
def frM (r : Rl) (ps : List Pt) (i : Nat) : Int := max (leM r ps i) ((ptD ps (i + 1)).lo + r.drop)
def yOk (r : Rl) (ps : List Pt) (i : Nat) : Bool := ((List.range (i + 1)).all fun j => decide (leM r ps j ≤ (ptD ps j).hi)) && decide (frM r ps i ≤ (ptD ps i).hi)
def yIs (r : Rl) (ps : List Pt) (k : Nat) : List Nat := (List.range k).filter (yOk r ps)
def mOk (r : Rl) (ps : List Pt) (i : Nat) : Bool := ((List.range i).all fun j => decide (lnM r ps j < (ptD ps j).hi)) && decide ((ptD ps i).lo ≤ lnM r ps i)
def mIs (r : Rl) (ps : List Pt) (k : Nat) : List Nat := (List.range k).filter (mOk r ps)
def mLe (r : Rl) (ps : List Pt) : Nat → List Int
  | 0 => (hiL ps).set 0 (ptD ps 0).lo
  | j + 1 => ((hiL ps).set (j + 1) (ptD ps (j + 1)).lo).set j (max (ptD ps j).lo (lnM r ps j + 1))
def mMo (r : Rl) (ps : List Pt) (i : Nat) : List Int := (hiL ps).set i (min (ptD ps i).hi (lnM r ps i))
theorem bkL_len {r : Rl} {ps : List Pt} {a : Nat} {load : Int} : (bkL r ps a load).length = ps.length := by simp [bkL]
theorem bkL_get {r : Rl} {ps : List Pt} {a : Nat} {load : Int} {k : Nat} (h : k < ps.length) : (bkL r ps a load).getD k 0 = if k ≤ a then bkA r ps a load (a - k) else (ptD ps k).lo := by
  unfold bkL
  rw [List.getD_eq_getElem?_getD, List.getElem?_map, List.getElem?_range h]; rfl
theorem bkL_yield {r : Rl} {ps : List Pt} {i : Nat} {load : Int} (hi : i + 1 < ps.length) (h : (ptD ps (i + 1)).lo + r.drop ≤ load) {k : Nat} (hk : i < k) : yP r (bkL r ps i load) k = ((i : Int), load) := by
  have h0 : (bkL r ps i load).getD i 0 = load := by rw [bkL_get (by omega), if_pos (Nat.le_refl _), Nat.sub_self]; rfl
  have h1 : (bkL r ps i load).getD (i + 1) 0 = (ptD ps (i + 1)).lo := by rw [bkL_get (by omega), if_neg (by omega)]
  have := yP_at (r := r) (l := bkL r ps i load) (i := i) (fun j hj hl => by
    rw [bkL_get (by omega), bkL_get (by omega), if_pos (by omega), if_pos (by omega)]
    have e : i - j = (i - (j + 1)) + 1 := by omega
    rw [e]
    show min _ _ - _ < _
    omega) (by rw [bkL_len]; exact hi) (by rw [h0, h1]; omega) hk
  rw [this, h0]
/-- The loads of a truth are not less. -/
theorem leM_le {r : Rl} {ps : List Pt} {l : List Int} (ht : cvTru ps l = true) : ∀ {i : Nat}, i < ps.length → (∀ j, j < i → l.getD j 0 - l.getD (j + 1) 0 < r.drop) → leM r ps i ≤ l.getD i 0
  | 0, hi, _ => (tru_at ht hi).1
  | i + 1, hi, h => by
    have h1 := leM_le ht (i := i) (by omega) fun j hj => h j (by omega)
    have h2 := h i (by omega)
    have h3 := (tru_at ht hi).1
    show max _ _ ≤ _
    omega
theorem yield_in {r : Rl} {ps : List Pt} {l : List Int} (ht : cvTru ps l = true) (hy : (yP r l ps.length).1 ≠ -1) :
    ∃ i, i ∈ yIs r ps (ps.length - 1) ∧ i + 1 < ps.length ∧ frM r ps i ≤ (yP r l ps.length).2 ∧ (yP r l ps.length).2 ≤ (ptD ps i).hi := by
  have hl := tru_len ht
  obtain ⟨i, h1, h2, h3, h4, h5⟩ := yP_inv hy
  have hle : ∀ j, j ≤ i → leM r ps j ≤ l.getD j 0 := fun j hj => leM_le ht (by omega) fun k hk => h4 k (by omega)
  have h6 := tru_at ht (i := i) (by omega)
  have h7 := tru_at ht (i := i + 1) (by omega)
  have h8 := hle i (Nat.le_refl _)
  have hfr : frM r ps i ≤ l.getD i 0 := by unfold frM; omega
  refine ⟨i, ?_, by omega, by rw [h5]; exact hfr, by rw [h5]; exact h6.2⟩
  unfold yIs
  rw [List.mem_filter]
  refine ⟨by rw [List.mem_range]; omega, ?_⟩
  unfold yOk
  simp only [Bool.and_eq_true, List.all_eq_true, decide_eq_true_eq]
  refine ⟨fun j hj => ?_, by omega⟩
  rw [List.mem_range] at hj
  have := hle j (by omega)
  have := tru_at ht (i := j) (by omega)
  omega
theorem frM_ge {r : Rl} {ps : List Pt} {i : Nat} : (ptD ps (i + 1)).lo + r.drop ≤ frM r ps i := by unfold frM; omega
theorem yOk_fr {r : Rl} {ps : List Pt} {i : Nat} (h : yOk r ps i = true) : frM r ps i ≤ (ptD ps i).hi := by
  unfold yOk at h
  simp only [Bool.and_eq_true, decide_eq_true_eq] at h
  exact h.2
/-- Where the line is met. -/
theorem mP_none {r : Rl} {ps : List Pt} {l : List Int} : ∀ {k : Nat}, (∀ j, j < k → lnM r ps j < l.getD j 0) → mP r ps l k = (-1, 0)
  | 0, _ => rfl
  | k + 1, h => by
    have h1 := mP_none (k := k) fun j hj => h j (by omega)
    have h2 := h k (by omega)
    unfold mP
    rw [h1, if_neg]
    rintro ⟨_, h4⟩
    omega
def plM (r : Rl) (ps : List Pt) (l : List Int) : Nat → Int
  | 0 => l.getD 0 0
  | j + 1 => meetM (lnM r ps j) (lnM r ps (j + 1)) (l.getD j 0) (l.getD (j + 1) 0)
theorem mP_at {r : Rl} {ps : List Pt} {l : List Int} {i : Nat} (h : ∀ j, j < i → lnM r ps j < l.getD j 0) (h2 : l.getD i 0 ≤ lnM r ps i) : ∀ {k : Nat}, i < k → mP r ps l k = ((i : Int), plM r ps l i)
  | k + 1, hk => by
    rcases Nat.lt_or_ge i k with h3 | h3
    · have := mP_at h h2 (k := k) h3
      unfold mP
      rw [this, if_neg (by simp only; omega)]
    · obtain rfl : i = k := by omega
      unfold mP
      rw [mP_none h, if_pos ⟨rfl, h2⟩]
      cases i <;> rfl
theorem mP_inv {r : Rl} {ps : List Pt} {l : List Int} : ∀ {k : Nat}, (mP r ps l k).1 ≠ -1 → ∃ i : Nat, i < k ∧ (∀ j, j < i → lnM r ps j < l.getD j 0) ∧ l.getD i 0 ≤ lnM r ps i ∧ mP r ps l k = ((i : Int), plM r ps l i)
  | 0, h => absurd rfl h
  | k + 1, h => by
    by_cases h1 : (mP r ps l k).1 = -1
    · have hn : ∀ j, j < k → lnM r ps j < l.getD j 0 := by
        clear h
        intro j
        induction k with
        | zero => intro hj; omega
        | succ k ih =>
          intro hj
          unfold mP at h1
          split at h1
          · simp only at h1; omega
          · rename_i hc
            rcases Nat.lt_or_ge j k with h2 | h2
            · exact ih h1 h2
            · obtain rfl : j = k := by omega
              rcases Int.lt_or_le (lnM r ps j) (l.getD j 0) with h3 | h3
              · exact h3
              · exact absurd ⟨h1, h3⟩ hc
      unfold mP at h
      split at h
      · rename_i hc
        exact ⟨k, by omega, hn, hc.2, mP_at hn hc.2 (by omega)⟩
      · exact absurd h1 h
    · obtain ⟨i, h2, h3, h4, h6⟩ := mP_inv h1
      exact ⟨i, by omega, h3, h4, mP_at h3 h4 (by omega)⟩
theorem mP_no {r : Rl} {ps : List Pt} {l : List Int} : ∀ {k : Nat}, (mP r ps l k).1 = -1 → ∀ j, j < k → lnM r ps j < l.getD j 0
  | 0, _, j, hj => by omega
  | k + 1, h, j, hj => by
    by_cases h1 : (mP r ps l k).1 = -1
    · unfold mP at h
      split at h
      · simp only at h; omega
      · rename_i hc
        rcases Nat.lt_or_ge j k with h2 | h2
        · exact mP_no h1 j h2
        · obtain rfl : j = k := by omega
          rcases Int.lt_or_le (lnM r ps j) (l.getD j 0) with h3 | h3
          · exact h3
          · exact absurd ⟨h1, h3⟩ hc
    · unfold mP at h
      rw [if_neg (fun hc => h1 hc.1)] at h
      exact absurd h h1
theorem lnM_lt {r : Rl} {ps : List Pt} (hp : cvOk ps = true) (hr : r.ok = true) {i : Nat} (hi : i + 1 < ps.length) : lnM r ps i ≤ lnM r ps (i + 1) := by
  have h1 := cv_rise hp hi
  unfold Rl.ok at hr
  simp only [decide_eq_true_eq] at hr
  unfold lnM
  exact Int.mul_le_mul_of_nonneg_left (by omega) (by omega)
theorem lnM_bd {r : Rl} {ps : List Pt} (hp : cvOk ps = true) (hr : 1 ≤ r.drop ∧ r.drop ≤ 100000 ∧ 1 ≤ r.slope ∧ r.slope ≤ 1000 ∧ 0 ≤ r.offs ∧ r.offs ≤ 1000) {i : Nat} (hi : i < ps.length) : -1000000 ≤ lnM r ps i ∧ lnM r ps i ≤ 1000000 := by
  have h0 := cv_ok hp hi
  unfold lnM
  have hx1 : (ptD ps i).st - r.offs ≤ 1000 := by omega
  have hx2 : -1000 ≤ (ptD ps i).st - r.offs := by omega
  generalize (ptD ps i).st - r.offs = x at *
  have h1 : r.slope * x ≤ r.slope * 1000 := Int.mul_le_mul_of_nonneg_left hx1 (by omega)
  have h2 : r.slope * (-1000) ≤ r.slope * x := Int.mul_le_mul_of_nonneg_left hx2 (by omega)
  omega
theorem getD_set {l : List Int} {i j : Nat} {x : Int} (h : i < l.length) : (l.set i x).getD j 0 = if j = i then x else l.getD j 0 := by
  rw [List.getD_eq_getElem?_getD, List.getElem?_set]
  by_cases e : i = j
  · subst e; rw [if_pos rfl, if_pos rfl, if_pos h]; rfl
  · rw [if_neg e, if_neg (fun x => e x.symm), List.getD_eq_getElem?_getD]
theorem mLe_len {r : Rl} {ps : List Pt} {i : Nat} : (mLe r ps i).length = ps.length := by cases i <;> simp [mLe, hiL]
theorem mMo_len {r : Rl} {ps : List Pt} {i : Nat} : (mMo r ps i).length = ps.length := by simp [mMo, hiL]
theorem mLe_get {r : Rl} {ps : List Pt} {i j : Nat} (hi : i < ps.length) (hj : j < ps.length) : (mLe r ps i).getD j 0 = if j = i then (ptD ps i).lo else if j + 1 = i then max (ptD ps j).lo (lnM r ps j + 1) else (ptD ps j).hi := by
  cases i with
  | zero => unfold mLe; rw [getD_set (by simp [hiL]; omega), hiL_get hj]; simp
  | succ i =>
    unfold mLe
    rw [getD_set (by simp [hiL]; omega), getD_set (by simp [hiL]; omega), hiL_get hj]
    by_cases e1 : j = i
    · subst e1; rw [if_pos rfl, if_neg (by omega), if_pos rfl]
    · rw [if_neg e1]
      by_cases e2 : j = i + 1
      · subst e2; simp
      · rw [if_neg e2, if_neg e2, if_neg (by omega)]
theorem mMo_get {r : Rl} {ps : List Pt} {i j : Nat} (hi : i < ps.length) (hj : j < ps.length) : (mMo r ps i).getD j 0 = if j = i then min (ptD ps i).hi (lnM r ps i) else (ptD ps j).hi := by
  unfold mMo
  rw [getD_set (by simp [hiL]; omega), hiL_get hj]
theorem mOk_hi {r : Rl} {ps : List Pt} {i : Nat} (h : mOk r ps i = true) : (∀ j, j < i → lnM r ps j < (ptD ps j).hi) ∧ (ptD ps i).lo ≤ lnM r ps i := by
  unfold mOk at h
  simp only [Bool.and_eq_true, List.all_eq_true, decide_eq_true_eq] at h
  exact ⟨fun j hj => h.1 j (by rw [List.mem_range]; exact hj), h.2⟩
theorem mLe_meet {r : Rl} {ps : List Pt} {i : Nat} (h : mOk r ps i = true) (hi : i < ps.length) {k : Nat} (hk : i < k) : mP r ps (mLe r ps i) k = ((i : Int), plM r ps (mLe r ps i) i) := by
  obtain ⟨h1, h2⟩ := mOk_hi h
  refine mP_at (fun j hj => ?_) ?_ hk
  · rw [mLe_get hi (by omega), if_neg (by omega)]
    have := h1 j hj
    split <;> omega
  · rw [mLe_get hi hi, if_pos rfl]; exact h2
theorem mMo_meet {r : Rl} {ps : List Pt} {i : Nat} (h : mOk r ps i = true) (hi : i < ps.length) {k : Nat} (hk : i < k) : mP r ps (mMo r ps i) k = ((i : Int), plM r ps (mMo r ps i) i) := by
  obtain ⟨h1, h2⟩ := mOk_hi h
  refine mP_at (fun j hj => ?_) ?_ hk
  · rw [mMo_get hi (by omega), if_neg (by omega)]
    exact h1 j hj
  · rw [mMo_get hi hi, if_pos rfl]; omega
theorem meet_in {r : Rl} {ps : List Pt} {l : List Int} (hp : cvOk ps = true) (hr : r.ok = true) (ht : cvTru ps l = true) (hy : (mP r ps l ps.length).1 ≠ -1) :
    ∃ i, i ∈ mIs r ps ps.length ∧ i < ps.length ∧ plM r ps (mLe r ps i) i ≤ (mP r ps l ps.length).2 ∧ (mP r ps l ps.length).2 ≤ plM r ps (mMo r ps i) i := by
  obtain ⟨i, h1, h2, h3, h4⟩ := mP_inv hy
  have hok : mOk r ps i = true := by
    unfold mOk
    simp only [Bool.and_eq_true, List.all_eq_true, decide_eq_true_eq]
    refine ⟨fun j hj => ?_, ?_⟩
    · rw [List.mem_range] at hj
      have := h2 j hj
      have := tru_at ht (i := j) (by omega)
      omega
    · have := tru_at ht h1
      omega
  refine ⟨i, ?_, h1, ?_⟩
  · unfold mIs
    rw [List.mem_filter]
    exact ⟨by rw [List.mem_range]; exact h1, hok⟩
  rw [h4]
  have g0 := tru_at ht h1
  cases i with
  | zero =>
    show (mLe r ps 0).getD 0 0 ≤ l.getD 0 0 ∧ l.getD 0 0 ≤ (mMo r ps 0).getD 0 0
    rw [mLe_get h1 h1, mMo_get h1 h1, if_pos rfl, if_pos rfl]
    omega
  | succ j =>
    have g1 := tru_at ht (i := j) (by omega)
    have g2 := h2 j (by omega)
    have g3 := lnM_lt hp hr h1
    show meetM _ _ ((mLe r ps (j + 1)).getD j 0) ((mLe r ps (j + 1)).getD (j + 1) 0) ≤ meetM _ _ (l.getD j 0) (l.getD (j + 1) 0) ∧ meetM _ _ (l.getD j 0) (l.getD (j + 1) 0) ≤ meetM _ _ ((mMo r ps (j + 1)).getD j 0) ((mMo r ps (j + 1)).getD (j + 1) 0)
    rw [mLe_get h1 (by omega), mLe_get h1 h1, mMo_get h1 (by omega), mMo_get h1 h1, if_neg (by omega), if_pos rfl, if_pos rfl, if_neg (by omega), if_pos rfl]
    exact ⟨meet_mono g3 (by omega) h3 (by omega) g0.1, meet_mono g3 g2 (by omega) g1.2 (by omega)⟩
/-- What a kind names. -/
def numM (r : Rl) (ps : List Pt) (kind : Nat) (l : List Int) : Int := match kind with
  | 0 => (sP l ps.length).1
  | 1 => (yP r l ps.length).2
  | 2 => (mP r ps l ps.length).2
  | _ => wP ps l ps.length
def enS (r : Rl) (ps : List Pt) (kind : Nat) (s : Option (List Int × List Int)) (t : List Int × List Int) : Option (List Int × List Int) := match s with
  | none => some t
  | some (a, b) => some (if numM r ps kind t.1 < numM r ps kind a then t.1 else a, if numM r ps kind b < numM r ps kind t.2 then t.2 else b)
def itsM (r : Rl) (ps : List Pt) : Nat → List (List Int × List Int)
  | 1 => (yIs r ps (ps.length - 1)).map fun i => (bkL r ps i (frM r ps i), bkL r ps i (ptD ps i).hi)
  | 2 => (mIs r ps ps.length).map fun i => (mLe r ps i, mMo r ps i)
  | _ => [(loL ps, hiL ps)]
def enM (r : Rl) (ps : List Pt) (kind : Nat) : Option (List Int × List Int) := (itsM r ps kind).foldl (enS r ps kind) none
theorem enS_le {r : Rl} {ps : List Pt} {kind : Nat} : ∀ {l : List (List Int × List Int)} {a b : List Int}, ∃ a' b', l.foldl (enS r ps kind) (some (a, b)) = some (a', b') ∧ numM r ps kind a' ≤ numM r ps kind a ∧ numM r ps kind b ≤ numM r ps kind b' ∧
    ∀ t ∈ l, numM r ps kind a' ≤ numM r ps kind t.1 ∧ numM r ps kind t.2 ≤ numM r ps kind b'
  | [], a, b => ⟨a, b, rfl, Int.le_refl _, Int.le_refl _, fun t ht => by cases ht⟩
  | t :: l, a, b => by
    obtain ⟨a', b', h1, h2, h3, h4⟩ := enS_le (r := r) (ps := ps) (kind := kind) (l := l) (a := if numM r ps kind t.1 < numM r ps kind a then t.1 else a) (b := if numM r ps kind b < numM r ps kind t.2 then t.2 else b)
    refine ⟨a', b', h1, ?_, ?_, fun x hx => ?_⟩
    · refine Int.le_trans h2 ?_; split <;> omega
    · refine Int.le_trans ?_ h3; split <;> omega
    · rcases List.mem_cons.1 hx with rfl | hx
      · refine ⟨Int.le_trans h2 ?_, Int.le_trans ?_ h3⟩
        · split <;> omega
        · split <;> omega
      · exact h4 x hx
theorem en_le {r : Rl} {ps : List Pt} {kind : Nat} {t : List Int × List Int} (ht : t ∈ itsM r ps kind) : ∃ a b, enM r ps kind = some (a, b) ∧ numM r ps kind a ≤ numM r ps kind t.1 ∧ numM r ps kind t.2 ≤ numM r ps kind b := by
  unfold enM
  cases hi : itsM r ps kind with
  | nil => rw [hi] at ht; cases ht
  | cons x l =>
    obtain ⟨a', b', h1, h2, h3, h4⟩ := enS_le (r := r) (ps := ps) (kind := kind) (l := l) (a := x.1) (b := x.2)
    rw [hi] at ht
    refine ⟨a', b', h1, ?_⟩
    rcases List.mem_cons.1 ht with rfl | ht
    · exact ⟨h2, h3⟩
    · exact h4 t ht
/-- The span of the strength, of the work, of the yield's load, of the proof load: of any truth. -/
theorem span_in {r : Rl} {ps : List Pt} {l : List Int} (hp : cvOk ps = true) (hr : r.ok = true) (ht : cvTru ps l = true) (kind : Nat) (hk : kind = 0 ∨ kind = 3 ∨ (kind = 1 ∧ (yP r l ps.length).1 ≠ -1) ∨ (kind = 2 ∧ (mP r ps l ps.length).1 ≠ -1)) :
    ∃ a b, enM r ps kind = some (a, b) ∧ numM r ps kind a ≤ numM r ps kind l ∧ numM r ps kind l ≤ numM r ps kind b := by
  suffices h : ∃ t ∈ itsM r ps kind, numM r ps kind t.1 ≤ numM r ps kind l ∧ numM r ps kind l ≤ numM r ps kind t.2 by
    obtain ⟨t, h1, h2, h3⟩ := h
    obtain ⟨a, b, g1, g2, g3⟩ := en_le h1
    exact ⟨a, b, g1, Int.le_trans g2 h2, Int.le_trans h3 g3⟩
  rcases hk with rfl | rfl | ⟨rfl, hy⟩ | ⟨rfl, hy⟩
  · refine ⟨(loL ps, hiL ps), List.mem_singleton.2 rfl, sP_mono fun i hi => ?_, sP_mono fun i hi => ?_⟩
    · rw [loL_get hi]; exact (tru_at ht hi).1
    · rw [hiL_get hi]; exact (tru_at ht hi).2
  · refine ⟨(loL ps, hiL ps), List.mem_singleton.2 rfl, wP_mono hp (Nat.le_refl _) fun i hi => ?_, wP_mono hp (Nat.le_refl _) fun i hi => ?_⟩
    · rw [loL_get hi]; exact (tru_at ht hi).1
    · rw [hiL_get hi]; exact (tru_at ht hi).2
  · obtain ⟨i, h1, h2, h3, h4⟩ := yield_in ht hy
    refine ⟨_, List.mem_map.2 ⟨i, h1, rfl⟩, ?_, ?_⟩
    · show (yP r (bkL r ps i (frM r ps i)) ps.length).2 ≤ _
      rw [bkL_yield h2 frM_ge (by omega)]; exact h3
    · show _ ≤ (yP r (bkL r ps i (ptD ps i).hi) ps.length).2
      have h5 := yOk_fr (List.mem_filter.1 h1).2
      have := frM_ge (r := r) (ps := ps) (i := i)
      rw [bkL_yield h2 (by omega) (by omega)]; exact h4
  · obtain ⟨i, h1, h2, h3, h4⟩ := meet_in hp hr ht hy
    have h5 := (List.mem_filter.1 h1).2
    refine ⟨_, List.mem_map.2 ⟨i, h1, rfl⟩, ?_, ?_⟩
    · show (mP r ps (mLe r ps i) ps.length).2 ≤ _
      rw [mLe_meet h5 h2 h2]; exact h3
    · show _ ≤ (mP r ps (mMo r ps i) ps.length).2
      rw [mMo_meet h5 h2 h2]; exact h4
end Go.Proofs.YtaffbiibcfeigaaGreat
/-! Contracts of layer 1 (curve): small ones; whether a curve, a rule is valid. -/
namespace Go.Proofs.YtaffbiibcfeigaaGreat
open Go.RowKit
attribute [local simp] Box.purge Site.isLoc
set_option maxRecDepth 10000
set_option linter.unusedSimpArgs false
def inR (n lo hi : Int) : Bool := decide (lo ≤ n) && decide (n ≤ hi)
def Pt.pv (p : Pt) : PV := .agg [.int .i64 p.st, .int .i64 p.lo, .int .i64 p.hi]
def ptsP (l : List Pt) : PV := .lst false 3 (l.map Pt.pv)
/-- A curve, alone a struct of one field. -/
def cvP (l : List Pt) : PV := .agg [ptsP l]
def Rl.pv (r : Rl) : PV := .agg [.int .i64 r.drop, .int .i64 r.slope, .int .i64 r.offs]
/-- A curve with a rule. -/
def rdgP (l : List Pt) (r : Rl) : PV := .agg [ptsP l, .int .i64 r.drop, .int .i64 r.slope, .int .i64 r.offs]
theorem wrapR {k : Nat} (h : k ≤ 9223372036854775806) : IntKind.i64.wrap ((k : Int) + 1) = ((k + 1 : Nat) : Int) := by rw [wrap64 (by omega)]; omega
theorem rfind_at {l : List PV} {q : PV → Bool} {k : Nat} {x : PV} (hx : l[k]? = some x) (hb : q x = true) (hinv : ∀ (j : Nat) (y : PV), j < k → l[j]? = some y → q y = false) : l.findIdx? q = some k := by
  obtain ⟨hlt, e⟩ := List.getElem?_eq_some_iff.1 hx
  rw [List.findIdx?_eq_some_iff_getElem]
  refine ⟨hlt, by rw [e]; exact hb, fun j hj => ?_⟩
  have := hinv j l[j] hj (List.getElem?_eq_getElem (by omega))
  simp [this]
theorem rfind_none {l : List PV} {q : PV → Bool} (hinv : ∀ (j : Nat) (y : PV), j < l.length → l[j]? = some y → q y = false) : l.findIdx? q = none := by
  rw [List.findIdx?_eq_none_iff]
  intro x hx
  obtain ⟨j, hj⟩ := List.mem_iff_getElem?.1 hx
  exact hinv j x (List.getElem?_eq_some_iff.1 hj).1 hj
theorem indexPt_c (l : List PV) (g : FuncId) (fs cs : List PV) (q : PV → Bool) (hq : ∀ x ∈ l, Gives Tryz.prog g (fs ++ [x] ++ cs) (.bool (q x))) (hl : l.length ≤ 1000000) (hc : ∀ x ∈ l, ∃ a b c, x = .agg [.int .i64 a, .int .i64 b, .int .i64 c]) :
    Gives Tryz.prog 259 [.lst false 3 l, .fn g fs cs] (.int .i64 (match l.findIdx? q with | some i => i | none => -1)) := by
  refine calls_of_awpS mixed L259_ok (Nat.le_of_ble_eq_true rfl) ?_
  simp [L259]
  refine awp_loopS (fun n τ => ∃ k : Nat, k ≤ l.length ∧ n = l.length - k ∧ (∀ j x, j < k → l[j]? = some x → q x = false) ∧ τ = ⟨[(0, .pv (.lst false 3 l)), (1, .pv (.fn g fs cs)), (7, .pv (.int .i64 l.length)), (8, .pv (.int .i64 k))], []⟩)
    ⟨l.length, _, Sub.mk (by simp) (by simp), 0, by omega, rfl, (fun j x hj => by omega), rfl⟩ ?_
  rintro J hJ n τ ⟨k, hk, rfl, hinv, rfl⟩
  by_cases hlt : k < l.length
  · have hx : l[k]? = some l[k] := List.getElem?_eq_getElem hlt
    have hm := List.getElem_mem hlt
    generalize l[k] = x at hx hm
    obtain ⟨a, b, c, rfl⟩ := hc x hm
    have hg := hq _ hm
    have hw : IntKind.i64.wrap ((k : Int) + 1) = ((k + 1 : Nat) : Int) := by rw [wrap64 (by omega)]; omega
    simp [-getElem?_pos, hlt, hx, nblt]
    refine call_gives (k := 0) rfl rfl hg rfl ?_
    cases hb : q _
    · simp [hw]
      exact ⟨_, _, (by omega : l.length - (k + 1) < l.length - k), Sub.mk (by simp) (by simp), hJ _ _ ⟨k + 1, by omega, rfl, fun j x hj hjx => by
        rcases Nat.lt_succ_iff_lt_or_eq.1 hj with h | h
        · exact hinv j x h hjx
        · subst h; rw [hx] at hjx; cases hjx; exact hb, rfl⟩⟩
    · simp [rfind_at hx hb hinv]
  · have he : k = l.length := by omega
    subst he
    simp [rfind_none hinv]
theorem anyPt_c (l : List PV) (g : FuncId) (fs cs : List PV) (q : PV → Bool) (hq : ∀ x ∈ l, Gives Tryz.prog g (fs ++ [x] ++ cs) (.bool (q x))) (hl : l.length ≤ 1000000) (hc : ∀ x ∈ l, ∃ a b c, x = .agg [.int .i64 a, .int .i64 b, .int .i64 c]) :
    Gives Tryz.prog 222 [.lst false 3 l, .fn g fs cs] (.bool (l.any q)) := by
  refine calls_of_awpS mixed L222_ok (Nat.le_of_ble_eq_true rfl) ?_
  simp [L222]
  refine call_gives (k := 0) rfl rfl (indexPt_c l g fs cs q hq hl hc) rfl ?_
  cases hf : l.findIdx? q with
  | none =>
    have : l.any q = false := by rw [List.any_eq_false]; intro x hx; simpa using List.findIdx?_eq_none_iff.1 hf x hx
    simp [this]
  | some i =>
    have : l.any q = true := by
      obtain ⟨hi, h1, _⟩ := List.findIdx?_eq_some_iff_getElem.1 hf
      exact List.any_eq_true.2 ⟨_, List.getElem_mem hi, h1⟩
    simp [this]
theorem allPt1_c (x : PV) (g : FuncId) (fs cs : List PV) (b : Bool) (hx : ∃ a b c, x = .agg [.int .i64 a, .int .i64 b, .int .i64 c]) (hq : Gives Tryz.prog g (fs ++ [x] ++ cs) (.bool b)) :
    Gives Tryz.prog 223 [x, .ref [.fn g fs cs]] (.bool (!b)) := by
  obtain ⟨a, b, c, rfl⟩ := hx
  refine calls_of_awpS mixed L223_ok (Nat.le_of_ble_eq_true rfl) ?_
  simp [L223]
  refine call_gives (k := 0) rfl rfl hq rfl ?_
  simp
theorem allPt_c (l : List PV) (g : FuncId) (fs cs : List PV) (q : PV → Bool) (hq : ∀ x ∈ l, Gives Tryz.prog g (fs ++ [x] ++ cs) (.bool (q x))) (hl : l.length ≤ 1000000) (hc : ∀ x ∈ l, ∃ a b c, x = .agg [.int .i64 a, .int .i64 b, .int .i64 c]) :
    Gives Tryz.prog 178 [.lst false 3 l, .fn g fs cs] (.bool (l.all q)) := by
  refine calls_of_awpS mixed L178_ok (Nat.le_of_ble_eq_true rfl) ?_
  simp [L178]
  refine call_gives (k := 4) rfl rfl (anyPt_c l 223 [] [.ref [.fn g fs cs]] (fun x => !q x) (fun x hx => allPt1_c x g fs cs (q x) (hc x hx) (hq x hx)) hl hc) rfl ?_
  simp [List.not_any_eq_all_not]
theorem cwithin_c (n lo hi : Int) : Gives Tryz.prog 116 [.int .i64 n, .int .i64 lo, .int .i64 hi] (.bool (inR n lo hi)) := by
  refine calls_of_awpS mixed L116_ok (Nat.le_of_ble_eq_true rfl) ?_
  by_cases h : lo ≤ n
  all_goals simp [h, L116, inR]
theorem cin_c (n lo hi : Int) : Gives Tryz.prog 72 [.int .i64 n, .int .i64 lo, .int .i64 hi] (.bool (inR n lo hi)) := by
  refine calls_of_awpS mixed L72_ok (Nat.le_of_ble_eq_true rfl) ?_
  by_cases h : lo ≤ n
  all_goals simp [h, L72, inR]
theorem pok_eq (p : Pt) : p.ok = (inR p.st 0 1000 && (decide (0 ≤ p.lo) && (decide (p.lo ≤ p.hi) && decide (p.hi ≤ 100000)))) := by
  unfold Pt.ok inR
  rw [Bool.eq_iff_iff]
  simp [and_assoc]
theorem pvalid_c (p : Pt) : Gives Tryz.prog 179 [p.pv] (.bool p.ok) := by
  rw [pok_eq]
  refine calls_of_awpS mixed L179_ok (Nat.le_of_ble_eq_true rfl) ?_
  simp [-getElem?_pos, L179, Pt.pv]
  refine call_gives (k := 0) rfl rfl (cwithin_c p.st 0 1000) rfl ?_
  cases h1 : inR p.st 0 1000
  · simp
  · by_cases h2 : 0 ≤ p.lo
    · by_cases h3 : p.lo ≤ p.hi
      all_goals simp [h2, h3]
    · simp [h2]
theorem rok_eq (r : Rl) : r.ok = (inR r.drop 1 100000 && (inR r.slope 1 1000 && inR r.offs 0 1000)) := by
  unfold Rl.ok inR
  rw [Bool.eq_iff_iff]
  simp [and_assoc]
theorem rvalid1_c (r : Rl) : Gives Tryz.prog 115 [r.pv] (.bool r.ok) := by
  rw [rok_eq]
  refine calls_of_awpS mixed L115_ok (Nat.le_of_ble_eq_true rfl) ?_
  simp [-getElem?_pos, L115, Rl.pv]
  refine call_gives (k := 0) rfl rfl (cwithin_c r.drop 1 100000) rfl ?_
  cases h1 : inR r.drop 1 100000
  · simp
  · simp
    refine call_gives (k := 0) rfl rfl (cwithin_c r.slope 1 1000) rfl ?_
    cases h2 : inR r.slope 1 1000
    · simp
    · simp
      refine call_gives (k := 0) rfl rfl (cwithin_c r.offs 0 1000) rfl ?_
      simp
theorem isrule_c (r : Rl) : Gives Tryz.prog 29 [r.pv] (.bool r.ok) := by
  rw [rok_eq]
  refine calls_of_awpS mixed L29_ok (Nat.le_of_ble_eq_true rfl) ?_
  simp [-getElem?_pos, L29, Rl.pv]
  refine call_gives (k := 0) rfl rfl (cin_c r.drop 1 100000) rfl ?_
  cases h1 : inR r.drop 1 100000
  · simp
  · simp
    refine call_gives (k := 0) rfl rfl (cin_c r.slope 1 1000) rfl ?_
    cases h2 : inR r.slope 1 1000
    · simp
    · simp
      refine call_gives (k := 0) rfl rfl (cin_c r.offs 0 1000) rfl ?_
      simp
theorem ptv_at {ps : List Pt} {k : Nat} (h : k < ps.length) : (ps.map Pt.pv)[k]? = some (.agg [.int .i64 (ptD ps k).st, .int .i64 (ptD ps k).lo, .int .i64 (ptD ps k).hi]) := by rw [List.getElem?_map, ptD_get h]; rfl
theorem riseK {ps : List Pt} (h : ∀ j, j + 1 < ps.length → (ptD ps j).st < (ptD ps (j + 1)).st) : riseB ps = true := by
  induction ps with
  | nil => rfl
  | cons a r ih =>
    cases r with
    | nil => rfl
    | cons b r =>
      unfold riseB
      rw [ih fun j hj => h (j + 1) (by simp at hj ⊢; omega), Bool.and_true]
      exact decide_eq_true (h 0 (by simp))
theorem checkcurve_c (ps : List Pt) (hl : ps.length ≤ 1000) : Gives Tryz.prog 114 [cvP ps] (.int .i64 (cvErr ps)) := by
  have hal := allPt_c (ps.map Pt.pv) 179 [] [] (fun x => match x with | .agg [.int _ a, .int _ b, .int _ c] => Pt.ok ⟨a, b, c⟩ | _ => false) (fun x hx => by
    obtain ⟨p, _, rfl⟩ := List.mem_map.1 hx
    exact pvalid_c p) (by simp; omega) (fun x hx => by
    obtain ⟨p, _, rfl⟩ := List.mem_map.1 hx
    exact ⟨_, _, _, rfl⟩)
  have hall : ((ps.map Pt.pv).all fun x => match x with | .agg [.int _ a, .int _ b, .int _ c] => Pt.ok ⟨a, b, c⟩ | _ => false) = ps.all Pt.ok := by rw [List.all_map]; rfl
  rw [hall] at hal
  refine calls_of_awpS mixed L114_ok (Nat.le_of_ble_eq_true rfl) ?_
  generalize hR : (fun (r : AV) (B : List (Site × Box)) => r = .pv (.int .i64 (cvErr ps)) ∧ B = []) = R
  simp [-getElem?_pos, L114, cvP, ptsP]
  cases h1 : decide (20 < ps.length)
  case true =>
    have h1' := of_decide_eq_true h1
    have he : cvErr ps = 3 := by unfold cvErr; rw [if_pos h1']
    have hd : decide ((ps.length : Int) > 20) = true := by simp; omega
    simp [-decide_eq_true_eq, -decide_eq_false_iff_not, -gt_iff_lt, hd]
    rw [← hR, he]
    exact ⟨rfl, rfl⟩
  have h1' := of_decide_eq_false h1
  have hd : decide ((ps.length : Int) > 20) = false := by simp; omega
  cases h2 : decide (ps = [])
  case true =>
    have h2' := of_decide_eq_true h2
    have he : cvErr ps = 1 := by rw [h2']; rfl
    simp [-decide_eq_true_eq, -decide_eq_false_iff_not, -gt_iff_lt, hd, h2]
    rw [← hR, he]
    exact ⟨rfl, rfl⟩
  have h2' := of_decide_eq_false h2
  simp [-decide_eq_true_eq, -decide_eq_false_iff_not, -gt_iff_lt, hd, h2]
  refine call_gives (k := 0) (fs := []) (xs := [.lst false 3 (ps.map Pt.pv), .fn 179 [] []]) (cs := []) rfl rfl hal rfl ?_
  cases h3 : ps.all Pt.ok
  case false =>
    have he : cvErr ps = 1 := by unfold cvErr cvOk; rw [if_neg h1', h3]; simp
    simp [-decide_eq_true_eq, -decide_eq_false_iff_not, -gt_iff_lt]
    rw [← hR, he]
    exact ⟨rfl, rfl⟩
  have h1le : 1 ≤ ps.length := by
    cases ps with
    | nil => exact absurd rfl h2'
    | cons a r => simp
  have htl : (List.take ps.length (List.map Pt.pv ps)).tail = (ps.drop 1).map Pt.pv := by rw [List.take_of_length_le (by simp), ← List.drop_one, List.map_drop]
  have hD1 : ((ps.drop 1).map Pt.pv).length = ps.length - 1 := by simp
  have hD2 : ∀ k, k < ps.length - 1 → ((ps.drop 1).map Pt.pv)[k]? = some (.agg [.int .i64 (ptD ps (k + 1)).st, .int .i64 (ptD ps (k + 1)).lo, .int .i64 (ptD ps (k + 1)).hi]) := fun k hk => by
    have := ptv_at (ps := ps) (k := k + 1) (by omega)
    rw [List.getElem?_map, List.getElem?_drop, Nat.add_comm, ← List.getElem?_map, this]
  generalize (ps.drop 1).map Pt.pv = D at *
  simp [-decide_eq_true_eq, -decide_eq_false_iff_not, -gt_iff_lt, -getElem?_pos, nble, h1le, htl, hD1]
  refine awp_loopS (fun n τ => ∃ k : Nat, k ≤ ps.length - 1 ∧ n = ps.length - 1 - k ∧ (∀ j, j < k → (ptD ps j).st < (ptD ps (j + 1)).st) ∧ τ = ⟨[(1, .ptr (.loc 1 0) 0), (23, .pv (.lst false 3 D)), (24, .pv (.int .i64 (ps.length - 1 : Nat))), (25, .pv (.int .i64 k))], [(.loc 1 0, .cells [.pv (ptsP ps)])]⟩)
    ⟨ps.length - 1, _, Sub.mk (by simp) (by simp [ptsP]), 0, Nat.zero_le _, rfl, (fun j hj => by omega), rfl⟩ ?_
  rintro J hJ n τ ⟨k, hk, rfl, hinv, rfl⟩
  by_cases hlt : k < ps.length - 1
  · have hw := wrapR (k := k) (by omega)
    have hg0 := ptv_at (ps := ps) (k := k) (by omega)
    have hg1 := hD2 k hlt
    have hround : (ptD ps k).st < (ptD ps (k + 1)).st → J (ps.length - 1 - (k + 1)) ⟨[(1, .ptr (.loc 1 0) 0), (23, .pv (.lst false 3 D)), (24, .pv (.int .i64 (ps.length - 1 : Nat))), (25, .pv (.int .i64 (k + 1 : Nat)))], [(.loc 1 0, .cells [.pv (ptsP ps)])]⟩ := fun h => hJ _ _ ⟨k + 1, hlt, rfl, (fun j hj => by
      rcases Nat.lt_or_ge j k with h5 | h5
      · exact hinv j h5
      · obtain rfl : j = k := by omega
        exact h), rfl⟩
    have hcl : ((k : Int) < ((ps.length - 1 : Nat) : Int)) := by omega
    have hmeas : ps.length - 1 - (k + 1) < ps.length - 1 - k := by omega
    simp [-decide_eq_true_eq, -decide_eq_false_iff_not, -gt_iff_lt, -getElem?_pos, -List.getElem?_map, hcl, hlt, hg1, nblt, ptsP, hg0]
    cases h5 : decide ((ptD ps (k + 1)).st ≤ (ptD ps k).st)
    · have h5' := of_decide_eq_false h5
      simp [-decide_eq_true_eq, -decide_eq_false_iff_not, -gt_iff_lt, -getElem?_pos, -List.getElem?_map, hw]
      exact ⟨_, _, hmeas, Sub.mk (by simp) (by simp [ptsP]), hround (by omega)⟩
    · have h5' := of_decide_eq_true h5
      have he : cvErr ps = 1 := by
        unfold cvErr
        rw [if_neg h1', if_neg]
        intro hc
        have := cv_rise hc (i := k) (by omega)
        omega
      simp [-decide_eq_true_eq, -decide_eq_false_iff_not, -gt_iff_lt, -getElem?_pos, -List.getElem?_map]
      rw [← hR, he]
      exact ⟨rfl, rfl⟩
  · have he : k = ps.length - 1 := by omega
    subst he
    have he : cvErr ps = 0 := by
      unfold cvErr
      rw [if_neg h1', if_pos]
      unfold cvOk
      rw [h3, riseK (fun j hj => hinv j (by omega))]
      simp
      omega
    simp [-decide_eq_true_eq, -decide_eq_false_iff_not, -gt_iff_lt, -getElem?_pos]
    rw [← hR, he]
    exact ⟨rfl, rfl⟩
theorem cread_c (ps : List Pt) (r : Rl) (hl : ps.length ≤ 1000) (hp : cvErr ps = 0) (hr : r.ok = true) : Gives Tryz.prog 73 [cvP ps, r.pv] (.tup [rdgP ps r, .int .i64 0]) := by
  have hc := checkcurve_c ps hl
  have hv := rvalid1_c r
  rw [hp] at hc
  rw [hr] at hv
  refine calls_of_awpS mixed L73_ok (Nat.le_of_ble_eq_true rfl) ?_
  simp [-getElem?_pos, L73, cvP, ptsP, Rl.pv]
  refine call_gives (k := 0) (fs := []) (xs := [cvP ps]) (cs := []) rfl rfl hc rfl ?_
  simp [-getElem?_pos, cvP, ptsP]
  refine call_gives (k := 0) (fs := []) (xs := [r.pv]) (cs := []) rfl rfl hv rfl ?_
  simp [-getElem?_pos, rdgP, ptsP]
end Go.Proofs.YtaffbiibcfeigaaGreat
/-! Contracts of layer 1 (curve): lines; loads in arrays. -/
namespace Go.Proofs.YtaffbiibcfeigaaGreat
open Go.RowKit
attribute [local simp] Box.purge Site.isLoc
set_option maxRecDepth 10000
set_option linter.unusedSimpArgs false
def padL (l : List Int) : List Int := l ++ List.replicate (20 - l.length) 0
def intR (n : Int) : PV := .int .i64 n
def padX (l : List Int) : List PV := (padL l).map intR
def padP (l : List Int) : PV := .agg (padX l)
def padC (l : List Int) : List AV := (padX l).map .pv
theorem padL_len {l : List Int} (h : l.length ≤ 20) : (padL l).length = 20 := by unfold padL; rw [List.length_append, List.length_replicate]; omega
theorem padX_len {l : List Int} (h : l.length ≤ 20) : (padX l).length = 20 := by unfold padX; rw [List.length_map, padL_len h]
theorem padC_len {l : List Int} (h : l.length ≤ 20) : (padC l).length = 20 := by unfold padC; rw [List.length_map, padX_len h]
theorem padL_get {l : List Int} {i : Nat} (h : i < 20) : (padL l)[i]? = some (l.getD i 0) := by
  unfold padL
  rw [List.getElem?_append, List.getD_eq_getElem?_getD]
  split
  · rename_i h1; rw [List.getElem?_eq_getElem h1]; rfl
  · rename_i h1; rw [List.getElem?_replicate, if_pos (by omega), List.getElem?_eq_none (by omega)]; rfl
theorem padX_get {l : List Int} {i : Nat} (h : i < 20) : (padX l)[i]? = some (.int .i64 (l.getD i 0)) := by unfold padX; rw [List.getElem?_map, padL_get h]; rfl
theorem padC_get {l : List Int} {i : Nat} (h : i < 20) : (padC l)[i]? = some (.pv (.int .i64 (l.getD i 0))) := by unfold padC; rw [List.getElem?_map, padX_get h]; rfl
theorem unpvs_pv : ∀ l : List PV, unpvs (l.map .pv) = some l
  | [] => rfl
  | x :: l => by rw [List.map_cons]; simp only [unpvs, unpv, unpvs_pv l]
theorem padC_un {l : List Int} : unpvs (padC l) = some (padX l) := unpvs_pv _
theorem splice_set {α : Type} {l : List α} {k : Nat} {x : α} (h : k < l.length) : splice l k [x] = l.set k x := by
  unfold splice
  rw [List.set_eq_take_append_cons_drop, if_pos h]
  simp
theorem padL_set {l : List Int} {k : Nat} {x : Int} (h : k < l.length) : (padL l).set k x = padL (l.set k x) := by
  unfold padL
  rw [List.set_append_left _ _ h, List.length_set]
theorem padC_set {l : List Int} {k : Nat} {x : Int} (h : k < l.length) : (padC l).set k (.pv (.int .i64 x)) = padC (l.set k x) := by
  unfold padC padX
  rw [← padL_set h, List.map_set, List.map_set]; rfl
theorem padL_app {l : List Int} {x : Int} (h : l.length < 20) : (padL l).set l.length x = padL (l ++ [x]) := by
  unfold padL
  rw [List.set_append_right _ _ (Nat.le_refl _), Nat.sub_self, show 20 - l.length = (20 - (l ++ [x]).length) + 1 by rw [List.length_append]; simp; omega, List.replicate_succ, List.set_cons_zero]
  simp
theorem padC_app {l : List Int} {x : Int} (h : l.length < 20) : (padC l).set l.length (.pv (.int .i64 x)) = padC (l ++ [x]) := by
  unfold padC padX
  rw [← padL_app h, List.map_set, List.map_set]; rfl
theorem padC_has {l : List Int} (d : Nat) : AV.hasL d (padC l) = false := by
  unfold padC
  induction padX l with
  | nil => rfl
  | cons x r ih => rw [List.map_cons]; simp only [AV.hasL, AV.has, ih]; rfl
theorem padC_purge {l : List Int} (d : Nat) : (padC l).map (AV.purge d) = padC l := by unfold padC; rw [List.map_map]; rfl
theorem padX_take {l : List Int} (h : l.length ≤ 20) : (padX l).take l.length = l.map intR := by
  unfold padX padL
  rw [List.map_append, List.take_left' (by simp)]
def rdgC (ps : List Pt) (r : Rl) : List AV := [.pv (ptsP ps), .pv (.int .i64 r.drop), .pv (.int .i64 r.slope), .pv (.int .i64 r.offs)]
theorem drops_c (ps : List Pt) (r : Rl) (a b : Int) (h : -9223372036854775808 ≤ a - b ∧ a - b ≤ 9223372036854775807) : Gives Tryz.prog 117 [rdgP ps r, .int .i64 a, .int .i64 b] (.bool (decide (r.drop ≤ a - b))) := by
  have hw := wrap64 h
  refine calls_of_awpS mixed L117_ok (Nat.le_of_ble_eq_true rfl) ?_
  simp [-getElem?_pos, L117, rdgP, hw]
theorem line_c (ps : List Pt) (r : Rl) (i : Nat) (hi : i < ps.length) (hp : cvOk ps = true) (hr : r.ok = true) : Gives Tryz.prog 118 [rdgP ps r, .int .i64 i] (.int .i64 (lnM r ps i)) := by
  have hg := ptv_at hi
  have h0 := cv_ok hp hi
  unfold Rl.ok at hr
  simp only [decide_eq_true_eq] at hr
  have hw : IntKind.i64.wrap ((ptD ps i).st - r.offs) = (ptD ps i).st - r.offs := wrap64 (by omega)
  have hb := lnM_bd hp hr hi
  have hw2 : IntKind.i64.wrap (r.slope * ((ptD ps i).st - r.offs)) = lnM r ps i := by
    rw [show r.slope * ((ptD ps i).st - r.offs) = lnM r ps i from rfl]
    exact wrap64 (by omega)
  refine calls_of_awpS mixed L118_ok (Nat.le_of_ble_eq_true rfl) ?_
  simp [-getElem?_pos, -List.getElem?_map, L118, rdgP, ptsP, hg, hw, hw2]
theorem meets_c (ps : List Pt) (r : Rl) (j : Nat) (hi : j + 1 < ps.length) (hp : cvOk ps = true) (hr : r.ok = true) (a b : Int) (ha : 0 ≤ a ∧ a ≤ 100000) (hb : 0 ≤ b ∧ b ≤ 100000) (h1 : lnM r ps j < a) (h2 : b ≤ lnM r ps (j + 1)) :
    Gives Tryz.prog 119 [rdgP ps r, .int .i64 (j + 1 : Nat), .int .i64 a, .int .i64 b] (.int .i64 (meetM (lnM r ps j) (lnM r ps (j + 1)) a b)) := by
  have l1 := line_c ps r j (by omega) hp hr
  have l2 := line_c ps r (j + 1) hi hp hr
  unfold Rl.ok at hr
  simp only [decide_eq_true_eq] at hr
  have b1 := lnM_bd hp hr (i := j) (by omega)
  have b2 := lnM_bd hp hr hi
  generalize lnM r ps j = p at *
  generalize lnM r ps (j + 1) = q at *
  have hw0 : IntKind.i64.wrap (((j + 1 : Nat) : Int) - 1) = (j : Int) := by rw [wrap64 (by have := cv_len hp; omega)]; omega
  have hw1 : IntKind.i64.wrap (a - p) = a - p := wrap64 (by omega)
  have hw2 : IntKind.i64.wrap (q - b) = q - b := wrap64 (by omega)
  have hw3 : IntKind.i64.wrap (b - a) = b - a := wrap64 (by omega)
  have hm1 : -(100000 * 3000000) ≤ (b - a) * (a - p) := by
    have : (-100000) * (a - p) ≤ (b - a) * (a - p) := Int.mul_le_mul_of_nonneg_right (by omega) (by omega)
    have : (-100000) * (a - p) ≥ (-100000) * 3000000 := by omega
    omega
  have hm2 : (b - a) * (a - p) ≤ 100000 * 3000000 := by
    have : (b - a) * (a - p) ≤ 100000 * (a - p) := Int.mul_le_mul_of_nonneg_right (by omega) (by omega)
    omega
  have hw4 : IntKind.i64.wrap ((b - a) * (a - p)) = (b - a) * (a - p) := wrap64 (by omega)
  have hw5 : IntKind.i64.wrap (a - p + (q - b)) = a - p + (q - b) := wrap64 (by omega)
  have hdn := down_ediv ((b - a) * (a - p)) (a - p + (q - b)) (by omega)
  have hmm : meetM p q a b = a + ((b - a) * (a - p)) / (a - p + (q - b)) := rfl
  rw [hmm, ← hdn]
  clear hmm hdn
  have hne : ¬ a - p + (q - b) = 0 := by omega
  have hpos : 0 < a - p + (q - b) := by omega
  generalize hD : a - p + (q - b) = D at *
  generalize hU : (b - a) * (a - p) = U at *
  have hq1 : -300000000000 ≤ U.tdiv D ∧ U.tdiv D ≤ 300000000000 := by
    have e := Int.tmod_add_mul_tdiv U D
    rcases Int.le_total 0 U with h | h
    · have h3 := Int.tdiv_nonneg h (by omega : 0 ≤ D)
      have h4 : U.tdiv D ≤ U := by rw [Int.tdiv_eq_ediv_of_nonneg h]; exact Int.ediv_le_self _ h
      omega
    · have h3 := Int.tdiv_nonneg (show 0 ≤ -U by omega) (by omega : 0 ≤ D)
      have h4 : (-U).tdiv D ≤ -U := by rw [Int.tdiv_eq_ediv_of_nonneg (by omega)]; exact Int.ediv_le_self _ (by omega)
      rw [Int.neg_tdiv] at h3 h4
      omega
  have hw6 : IntKind.i64.wrap (U.tdiv D) = U.tdiv D := wrap64 (by omega)
  have hw7 : IntKind.i64.wrap (U.tdiv D - 1) = U.tdiv D - 1 := wrap64 (by omega)
  have hw8 : IntKind.i64.wrap (a + (U.tdiv D - 1)) = a + (U.tdiv D - 1) := wrap64 (by omega)
  have hw9 : IntKind.i64.wrap (a + U.tdiv D) = a + U.tdiv D := wrap64 (by omega)
  refine calls_of_awpS mixed L119_ok (Nat.le_of_ble_eq_true rfl) ?_
  generalize hR : (fun (x : AV) (B : List (Site × Box)) => x = .pv (.int .i64 (a + if U.tmod D < 0 then U.tdiv D - 1 else U.tdiv D)) ∧ B = []) = R
  unfold rdgP at l1 l2
  simp [-getElem?_pos, -Int.natCast_add, L119, rdgP, hw0]
  refine call_give (k := 0) (fs := []) (xs := [rdgP ps r, .int .i64 j]) (cs := []) rfl rfl l1 rfl ?_
  simp [-getElem?_pos, -Int.natCast_add]
  refine call_gives (k := 0) (fs := []) (xs := [rdgP ps r, .int .i64 (j + 1 : Nat)]) (cs := []) rfl rfl l2 rfl ?_
  cases h9 : decide (U.tmod D < 0)
  all_goals
    have h9' := h9
    simp only [decide_eq_true_eq, decide_eq_false_iff_not] at h9'
    simp [-getElem?_pos, -decide_eq_true_eq, -decide_eq_false_iff_not, hw1, hw2, hw3, hw4, hw5, hU, hD, hne, hw6, hw7, hw8, hw9, h9]
    rw [← hR]
    simp [h9']
end Go.Proofs.YtaffbiibcfeigaaGreat
/-! Contracts of layer 1 (curve): what is read in a truth. -/
namespace Go.Proofs.YtaffbiibcfeigaaGreat
open Go.RowKit
attribute [local simp] Box.purge Site.isLoc
set_option maxRecDepth 10000
set_option linter.unusedSimpArgs false
def intsR (l : List Int) : PV := .lst false 1 (l.map intR)
def resC (r : Rl) (ps : List Pt) (l : List Int) (k : Nat) : List PV := [.int .i64 (sP l k).1, .int .i64 (sP l k).2, .int .i64 (yP r l k).1, .int .i64 (yP r l k).2, .int .i64 (mP r ps l k).1, .int .i64 (mP r ps l k).2, .int .i64 (wP ps l k)]
def resP (r : Rl) (ps : List Pt) (l : List Int) : PV := .agg (resC r ps l ps.length)
def rsK (r : Rl) (ps : List Pt) (l : List Int) (k : Nat) : AS := ⟨[(1, .pv (intsR l)), (2, .ptr (.loc 2 0) 0), (4, .ptr (.loc 4 0) 0), (5, .ptr (.loc 5 0) 0), (6, .pv (.fn 117 [rdgP ps r] [])), (12, .pv (intsR l)), (13, .pv (.int .i64 ps.length)), (14, .pv (.int .i64 k))],
  [(.loc 5 0, .cells ((resC r ps l k).map .pv)), (.loc 4 0, .cells (List.replicate 7 (.pv (.int .i64 0)))), (.loc 2 0, .cells (rdgC ps r))]⟩
/-- A list of loads. -/
def loadsB (ps : List Pt) (l : List Int) : Prop := l.length = ps.length ∧ ∀ i, i < ps.length → 0 ≤ l.getD i 0 ∧ l.getD i 0 ≤ 100000
theorem tru_loads {ps : List Pt} {l : List Int} (hp : cvOk ps = true) (h : cvTru ps l = true) : loadsB ps l := ⟨tru_len h, fun i hi => by
  have := tru_at h hi
  have := cv_ok hp hi
  omega⟩
set_option maxHeartbeats 8000000 in
theorem result_c (ps : List Pt) (r : Rl) (l : List Int) (hp : cvOk ps = true) (hr : r.ok = true) (hl : loadsB ps l) : Gives Tryz.prog 75 [rdgP ps r, intsR l] (resP r ps l) := by
  obtain ⟨hl1, hl2⟩ := hl
  have hlen := cv_len hp
  have hr' := hr
  unfold Rl.ok at hr'
  simp only [decide_eq_true_eq] at hr'
  refine calls_of_awpS mixed L75_ok (Nat.le_of_ble_eq_true rfl) ?_
  generalize hR : (fun (x : AV) (B : List (Site × Box)) => x = .pv (resP r ps l) ∧ B = []) = R
  simp [-getElem?_pos, L75, rdgP, intsR, hl1]
  refine awp_loopS (fun n τ => ∃ k : Nat, k ≤ ps.length ∧ n = ps.length - k ∧ τ = rsK r ps l k) ⟨ps.length, rsK r ps l 0, Sub.mk (by simp [rsK, intsR, rdgP]) (by simp [rsK, resC, sP, yP, mP, wP, rdgC]), 0, Nat.zero_le _, rfl, rfl⟩ ?_
  rintro J hJ n τ ⟨k, hk, rfl, rfl⟩
  by_cases hlt : k < ps.length
  · have hw := wrapR (k := k) (by omega)
    have hg : (l.map intR)[k]? = some (.int .i64 (l.getD k 0)) := by rw [List.getElem?_map, List.getD_eq_getElem?_getD, List.getElem?_eq_getElem (by omega)]; rfl
    have hb := hl2 k hlt
    have hround := hJ _ _ ⟨k + 1, hlt, rfl, rfl⟩
    have hmeas : ps.length - (k + 1) < ps.length - k := by omega
    have hln := line_c ps r k hlt hp hr
    have hno := mP_no (r := r) (ps := ps) (l := l) (k := k)
    have key1 : (decide ((sP l k).1 < l.getD k 0) = true ∧ sP l (k + 1) = (l.getD k 0, (k : Int))) ∨ (decide ((sP l k).1 < l.getD k 0) = false ∧ sP l (k + 1) = sP l k) := by
      by_cases h : (sP l k).1 < l.getD k 0
      · exact .inl ⟨decide_eq_true h, by conv => lhs; unfold sP; rw [if_pos h]⟩
      · exact .inr ⟨decide_eq_false h, by conv => lhs; unfold sP; rw [if_neg h]⟩
    have key2 : (decide ((yP r l k).1 = -1) = false ∧ yP r l (k + 1) = yP r l k) ∨ (decide ((yP r l k).1 = -1) = true ∧ decide ((k : Int) + 1 < (ps.length : Int)) = false ∧ yP r l (k + 1) = yP r l k) ∨
        (decide ((yP r l k).1 = -1) = true ∧ decide ((k : Int) + 1 < (ps.length : Int)) = true ∧ decide (r.drop ≤ l.getD k 0 - l.getD (k + 1) 0) = false ∧ yP r l (k + 1) = yP r l k) ∨ (decide ((yP r l k).1 = -1) = true ∧ decide ((k : Int) + 1 < (ps.length : Int)) = true ∧ decide (r.drop ≤ l.getD k 0 - l.getD (k + 1) 0) = true ∧ yP r l (k + 1) = ((k : Int), l.getD k 0)) := by
      by_cases h : (yP r l k).1 = -1
      · by_cases h2 : k + 1 < ps.length
        · by_cases h3 : r.drop ≤ l.getD k 0 - l.getD (k + 1) 0
          · exact .inr (.inr (.inr ⟨decide_eq_true h, decide_eq_true (by omega), decide_eq_true h3, by conv => lhs; unfold yP; rw [if_pos ⟨h, by omega, h3⟩]⟩))
          · exact .inr (.inr (.inl ⟨decide_eq_true h, decide_eq_true (by omega), decide_eq_false h3, by conv => lhs; unfold yP; rw [if_neg (fun x => h3 x.2.2)]⟩))
        · exact .inr (.inl ⟨decide_eq_true h, decide_eq_false (by omega), by conv => lhs; unfold yP; rw [if_neg (fun x => h2 (by omega))]⟩)
      · exact .inl ⟨decide_eq_false h, by conv => lhs; unfold yP; rw [if_neg (fun x => h x.1)]⟩
    have key3 : (decide ((mP r ps l k).1 = -1) = false ∧ mP r ps l (k + 1) = mP r ps l k) ∨ (decide ((mP r ps l k).1 = -1) = true ∧ decide (l.getD k 0 ≤ lnM r ps k) = false ∧ mP r ps l (k + 1) = mP r ps l k) ∨
        (decide ((mP r ps l k).1 = -1) = true ∧ decide (l.getD k 0 ≤ lnM r ps k) = true ∧ mP r ps l (k + 1) = ((k : Int), plM r ps l k)) := by
      by_cases h : (mP r ps l k).1 = -1
      · by_cases h2 : l.getD k 0 ≤ lnM r ps k
        · exact .inr (.inr ⟨decide_eq_true h, decide_eq_true (by omega), mP_at (hno h) h2 (by omega)⟩)
        · exact .inr (.inl ⟨decide_eq_true h, decide_eq_false h2, by conv => lhs; unfold mP; rw [if_neg (fun x => h2 x.2)]⟩)
      · exact .inl ⟨decide_eq_false h, by conv => lhs; unfold mP; rw [if_neg (fun x => h x.1)]⟩
    have hdr : k + 1 < ps.length → _ := fun h => drops_c ps r (l.getD k 0) (l.getD (k + 1) 0) (by have := hl2 (k + 1) h; omega)
    have hg1 : k + 1 < ps.length → (l.map intR)[k + 1]? = some (.int .i64 (l.getD (k + 1) 0)) := fun h => by rw [List.getElem?_map, List.getD_eq_getElem?_getD, List.getElem?_eq_getElem (by omega)]; rfl
    have hpt := ptv_at hlt
    -- the piece before the point
    have hpre : (k = 0 ∧ decide (0 < k) = false ∧ plM r ps l k = l.getD k 0 ∧ wP ps l (k + 1) = wP ps l k) ∨ ∃ (j : Nat) (a : Int), decide (0 < k) = true ∧ IntKind.i64.wrap ((k : Int) - 1) = (j : Int) ∧ (l.map intR)[j]? = some (.int .i64 a) ∧ (ps.map Pt.pv)[j]? = some (.agg [.int .i64 (ptD ps j).st, .int .i64 (ptD ps j).lo, .int .i64 (ptD ps j).hi]) ∧
        IntKind.i64.wrap (a + l.getD k 0) = a + l.getD k 0 ∧ IntKind.i64.wrap ((ptD ps k).st - (ptD ps j).st) = (ptD ps k).st - (ptD ps j).st ∧ IntKind.i64.wrap ((a + l.getD k 0) * ((ptD ps k).st - (ptD ps j).st)) = (a + l.getD k 0) * ((ptD ps k).st - (ptD ps j).st) ∧
        IntKind.i64.wrap (wP ps l k + (a + l.getD k 0) * ((ptD ps k).st - (ptD ps j).st)) = wP ps l (k + 1) ∧ (j + 1 = k ∧ (l.getD k 0 ≤ lnM r ps k → (mP r ps l k).1 = -1 → Gives Tryz.prog 119 [rdgP ps r, .int .i64 k, .int .i64 a, .int .i64 (l.getD k 0)] (.int .i64 (plM r ps l k)))) := by
      cases k with
      | zero => exact .inl ⟨rfl, rfl, rfl, rfl⟩
      | succ j =>
        have ha := hl2 j (by omega)
        have h1 := cv_ok hp (i := j) (by omega)
        have h2 := cv_ok hp (i := j + 1) hlt
        have h3 := cv_rise hp hlt
        have h4 := wP_bd hp hl2 (k := j + 1) (by omega)
        have h5 := wP_bd hp hl2 (k := j + 2) (by omega)
        have h6 : 0 ≤ (l.getD j 0 + l.getD (j + 1) 0) * ((ptD ps (j + 1)).st - (ptD ps j).st) := Int.mul_nonneg (by omega) (by omega)
        have h7 : wP ps l (j + 2) = wP ps l (j + 1) + (l.getD j 0 + l.getD (j + 1) 0) * ((ptD ps (j + 1)).st - (ptD ps j).st) := rfl
        refine .inr ⟨j, l.getD j 0, decide_eq_true (by omega), by rw [wrap64 (by omega)]; omega, by rw [List.getElem?_map, List.getD_eq_getElem?_getD, List.getElem?_eq_getElem (by omega)]; rfl, ptv_at (by omega), wrap64 (by omega), wrap64 (by omega), wrap64 (by omega), ?_, rfl, fun h8 h9 => ?_⟩
        · rw [← h7]; exact wrap64 (by omega)
        · exact meets_c ps r j hlt hp hr _ _ ha hb (hno h9 j (by omega)) h8
    clear hno
    generalize hn : l.getD k 0 = n at *
    generalize hn1 : l.getD (k + 1) 0 = n1 at *
    unfold rsK resC at hround
    unfold rsK resC
    generalize sP l (k + 1) = s1 at *
    generalize yP r l (k + 1) = y1 at *
    generalize mP r ps l (k + 1) = m1 at *
    generalize hw1 : wP ps l (k + 1) = w1 at *
    generalize sP l k = s0 at *
    generalize yP r l k = y0 at *
    generalize mP r ps l k = m0 at *
    generalize hw0 : wP ps l k = w0 at *
    obtain ⟨sv, sk⟩ := s0
    obtain ⟨ya, yl⟩ := y0
    obtain ⟨ma, ml⟩ := m0
    simp only at key1 key2 key3 hpre
    simp [-decide_eq_true_eq, -decide_eq_false_iff_not, -gt_iff_lt, -getElem?_pos, -List.getElem?_map, intsR, hlt, hg, nblt, hl1]
    rcases key1 with ⟨a1, rfl⟩ | ⟨a1, rfl⟩
    all_goals
      simp [-decide_eq_true_eq, -decide_eq_false_iff_not, -gt_iff_lt, -getElem?_pos, -List.getElem?_map, intsR, a1]
      rcases key2 with ⟨a2, rfl⟩ | ⟨a2, a3, rfl⟩ | ⟨a2, a3, a4, rfl⟩ | ⟨a2, a3, a4, rfl⟩
      · simp [-decide_eq_true_eq, -decide_eq_false_iff_not, -gt_iff_lt, -getElem?_pos, -List.getElem?_map, intsR, a2, hw, hl1]
        rcases key3 with ⟨b2, rfl⟩ | ⟨b2, b3, rfl⟩ | ⟨b2, b3, rfl⟩
        · simp [-decide_eq_true_eq, -decide_eq_false_iff_not, -gt_iff_lt, -getElem?_pos, -List.getElem?_map, rdgC, b2]
          rcases hpre with ⟨h0, c1, c2, c3⟩ | ⟨j, a, c1, c2, c3, c4, c5, c6, c7, c8, c9, c10⟩
          · subst c3
            simp [-decide_eq_true_eq, -decide_eq_false_iff_not, -gt_iff_lt, -getElem?_pos, -List.getElem?_map, c1]
            exact ⟨_, _, hmeas, Sub.mk (by simp [intsR, hw]) (by simp [rdgC]), hround⟩
          · simp [-decide_eq_true_eq, -decide_eq_false_iff_not, -gt_iff_lt, -getElem?_pos, -List.getElem?_map, rdgC, ptsP, hg, hpt, c1, c2, c3, c4, c5, c6, c7, c8]
            exact ⟨_, _, hmeas, Sub.mk (by simp [intsR, hw]) (by simp [rdgC, ptsP]), hround⟩
        · simp [-decide_eq_true_eq, -decide_eq_false_iff_not, -gt_iff_lt, -getElem?_pos, -List.getElem?_map, rdgC, b2]
          refine call_gives (k := 0) (fs := []) (xs := [rdgP ps r, .int .i64 k]) (cs := []) rfl rfl hln rfl ?_
          simp [-decide_eq_true_eq, -decide_eq_false_iff_not, -gt_iff_lt, -getElem?_pos, -List.getElem?_map, b3]
          rcases hpre with ⟨h0, c1, c2, c3⟩ | ⟨j, a, c1, c2, c3, c4, c5, c6, c7, c8, c9, c10⟩
          · subst c3
            simp [-decide_eq_true_eq, -decide_eq_false_iff_not, -gt_iff_lt, -getElem?_pos, -List.getElem?_map, c1]
            exact ⟨_, _, hmeas, Sub.mk (by simp [intsR, hw]) (by simp [rdgC]), hround⟩
          · simp [-decide_eq_true_eq, -decide_eq_false_iff_not, -gt_iff_lt, -getElem?_pos, -List.getElem?_map, rdgC, ptsP, hg, hpt, c1, c2, c3, c4, c5, c6, c7, c8]
            exact ⟨_, _, hmeas, Sub.mk (by simp [intsR, hw]) (by simp [rdgC, ptsP]), hround⟩
        · simp [-decide_eq_true_eq, -decide_eq_false_iff_not, -gt_iff_lt, -getElem?_pos, -List.getElem?_map, rdgC, b2]
          refine call_gives (k := 0) (fs := []) (xs := [rdgP ps r, .int .i64 k]) (cs := []) rfl rfl hln rfl ?_
          simp [-decide_eq_true_eq, -decide_eq_false_iff_not, -gt_iff_lt, -getElem?_pos, -List.getElem?_map, b3]
          rcases hpre with ⟨h0, c1, c2, c3⟩ | ⟨j, a, c1, c2, c3, c4, c5, c6, c7, c8, c9, c10⟩
          · subst c3
            rw [c2] at hround
            simp [-decide_eq_true_eq, -decide_eq_false_iff_not, -gt_iff_lt, -getElem?_pos, -List.getElem?_map, c1]
            exact ⟨_, _, hmeas, Sub.mk (by simp [intsR, hw]) (by simp [rdgC]), hround⟩
          · have hme := c10 (of_decide_eq_true b3) (of_decide_eq_true b2)
            simp [-decide_eq_true_eq, -decide_eq_false_iff_not, -gt_iff_lt, -getElem?_pos, -List.getElem?_map, rdgC, ptsP, hg, hpt, c1, c2, c3, c4, c5, c6, c7, c8]
            refine call_gives (k := 0) (fs := []) (xs := [rdgP ps r, .int .i64 k, .int .i64 a, .int .i64 n]) (cs := []) rfl rfl hme rfl ?_
            simp [-decide_eq_true_eq, -decide_eq_false_iff_not, -gt_iff_lt, -getElem?_pos, -List.getElem?_map, rdgC, ptsP, hg, hpt, c1, c2, c3, c4, c5, c6, c7, c8]
            exact ⟨_, _, hmeas, Sub.mk (by simp [intsR, hw]) (by simp [rdgC, ptsP]), hround⟩
      · simp [-decide_eq_true_eq, -decide_eq_false_iff_not, -gt_iff_lt, -getElem?_pos, -List.getElem?_map, intsR, a2, a3, hw, hl1]
        rcases key3 with ⟨b2, rfl⟩ | ⟨b2, b3, rfl⟩ | ⟨b2, b3, rfl⟩
        · simp [-decide_eq_true_eq, -decide_eq_false_iff_not, -gt_iff_lt, -getElem?_pos, -List.getElem?_map, rdgC, b2]
          rcases hpre with ⟨h0, c1, c2, c3⟩ | ⟨j, a, c1, c2, c3, c4, c5, c6, c7, c8, c9, c10⟩
          · subst c3
            simp [-decide_eq_true_eq, -decide_eq_false_iff_not, -gt_iff_lt, -getElem?_pos, -List.getElem?_map, c1]
            exact ⟨_, _, hmeas, Sub.mk (by simp [intsR, hw]) (by simp [rdgC]), hround⟩
          · simp [-decide_eq_true_eq, -decide_eq_false_iff_not, -gt_iff_lt, -getElem?_pos, -List.getElem?_map, rdgC, ptsP, hg, hpt, c1, c2, c3, c4, c5, c6, c7, c8]
            exact ⟨_, _, hmeas, Sub.mk (by simp [intsR, hw]) (by simp [rdgC, ptsP]), hround⟩
        · simp [-decide_eq_true_eq, -decide_eq_false_iff_not, -gt_iff_lt, -getElem?_pos, -List.getElem?_map, rdgC, b2]
          refine call_gives (k := 0) (fs := []) (xs := [rdgP ps r, .int .i64 k]) (cs := []) rfl rfl hln rfl ?_
          simp [-decide_eq_true_eq, -decide_eq_false_iff_not, -gt_iff_lt, -getElem?_pos, -List.getElem?_map, b3]
          rcases hpre with ⟨h0, c1, c2, c3⟩ | ⟨j, a, c1, c2, c3, c4, c5, c6, c7, c8, c9, c10⟩
          · subst c3
            simp [-decide_eq_true_eq, -decide_eq_false_iff_not, -gt_iff_lt, -getElem?_pos, -List.getElem?_map, c1]
            exact ⟨_, _, hmeas, Sub.mk (by simp [intsR, hw]) (by simp [rdgC]), hround⟩
          · simp [-decide_eq_true_eq, -decide_eq_false_iff_not, -gt_iff_lt, -getElem?_pos, -List.getElem?_map, rdgC, ptsP, hg, hpt, c1, c2, c3, c4, c5, c6, c7, c8]
            exact ⟨_, _, hmeas, Sub.mk (by simp [intsR, hw]) (by simp [rdgC, ptsP]), hround⟩
        · simp [-decide_eq_true_eq, -decide_eq_false_iff_not, -gt_iff_lt, -getElem?_pos, -List.getElem?_map, rdgC, b2]
          refine call_gives (k := 0) (fs := []) (xs := [rdgP ps r, .int .i64 k]) (cs := []) rfl rfl hln rfl ?_
          simp [-decide_eq_true_eq, -decide_eq_false_iff_not, -gt_iff_lt, -getElem?_pos, -List.getElem?_map, b3]
          rcases hpre with ⟨h0, c1, c2, c3⟩ | ⟨j, a, c1, c2, c3, c4, c5, c6, c7, c8, c9, c10⟩
          · subst c3
            rw [c2] at hround
            simp [-decide_eq_true_eq, -decide_eq_false_iff_not, -gt_iff_lt, -getElem?_pos, -List.getElem?_map, c1]
            exact ⟨_, _, hmeas, Sub.mk (by simp [intsR, hw]) (by simp [rdgC]), hround⟩
          · have hme := c10 (of_decide_eq_true b3) (of_decide_eq_true b2)
            simp [-decide_eq_true_eq, -decide_eq_false_iff_not, -gt_iff_lt, -getElem?_pos, -List.getElem?_map, rdgC, ptsP, hg, hpt, c1, c2, c3, c4, c5, c6, c7, c8]
            refine call_gives (k := 0) (fs := []) (xs := [rdgP ps r, .int .i64 k, .int .i64 a, .int .i64 n]) (cs := []) rfl rfl hme rfl ?_
            simp [-decide_eq_true_eq, -decide_eq_false_iff_not, -gt_iff_lt, -getElem?_pos, -List.getElem?_map, rdgC, ptsP, hg, hpt, c1, c2, c3, c4, c5, c6, c7, c8]
            exact ⟨_, _, hmeas, Sub.mk (by simp [intsR, hw]) (by simp [rdgC, ptsP]), hround⟩
      all_goals
        have hlt1 : k + 1 < ps.length := by have := of_decide_eq_true a3; omega
        have hgk := hg1 hlt1
        simp [-decide_eq_true_eq, -decide_eq_false_iff_not, -gt_iff_lt, -getElem?_pos, -List.getElem?_map, intsR, a2, a3, hw, hl1, hgk, nblt, hlt1]
        refine call_gives (k := 0) (fs := [rdgP ps r]) (xs := [.int .i64 n, .int .i64 n1]) (cs := []) rfl rfl (hdr hlt1) rfl ?_
        simp [-decide_eq_true_eq, -decide_eq_false_iff_not, -gt_iff_lt, -getElem?_pos, -List.getElem?_map, intsR, a4]
        rcases key3 with ⟨b2, rfl⟩ | ⟨b2, b3, rfl⟩ | ⟨b2, b3, rfl⟩
        · simp [-decide_eq_true_eq, -decide_eq_false_iff_not, -gt_iff_lt, -getElem?_pos, -List.getElem?_map, rdgC, b2]
          rcases hpre with ⟨h0, c1, c2, c3⟩ | ⟨j, a, c1, c2, c3, c4, c5, c6, c7, c8, c9, c10⟩
          · subst c3
            simp [-decide_eq_true_eq, -decide_eq_false_iff_not, -gt_iff_lt, -getElem?_pos, -List.getElem?_map, c1]
            exact ⟨_, _, hmeas, Sub.mk (by simp [intsR, hw]) (by simp [rdgC]), hround⟩
          · simp [-decide_eq_true_eq, -decide_eq_false_iff_not, -gt_iff_lt, -getElem?_pos, -List.getElem?_map, rdgC, ptsP, hg, hpt, c1, c2, c3, c4, c5, c6, c7, c8]
            exact ⟨_, _, hmeas, Sub.mk (by simp [intsR, hw]) (by simp [rdgC, ptsP]), hround⟩
        · simp [-decide_eq_true_eq, -decide_eq_false_iff_not, -gt_iff_lt, -getElem?_pos, -List.getElem?_map, rdgC, b2]
          refine call_gives (k := 0) (fs := []) (xs := [rdgP ps r, .int .i64 k]) (cs := []) rfl rfl hln rfl ?_
          simp [-decide_eq_true_eq, -decide_eq_false_iff_not, -gt_iff_lt, -getElem?_pos, -List.getElem?_map, b3]
          rcases hpre with ⟨h0, c1, c2, c3⟩ | ⟨j, a, c1, c2, c3, c4, c5, c6, c7, c8, c9, c10⟩
          · subst c3
            simp [-decide_eq_true_eq, -decide_eq_false_iff_not, -gt_iff_lt, -getElem?_pos, -List.getElem?_map, c1]
            exact ⟨_, _, hmeas, Sub.mk (by simp [intsR, hw]) (by simp [rdgC]), hround⟩
          · simp [-decide_eq_true_eq, -decide_eq_false_iff_not, -gt_iff_lt, -getElem?_pos, -List.getElem?_map, rdgC, ptsP, hg, hpt, c1, c2, c3, c4, c5, c6, c7, c8]
            exact ⟨_, _, hmeas, Sub.mk (by simp [intsR, hw]) (by simp [rdgC, ptsP]), hround⟩
        · simp [-decide_eq_true_eq, -decide_eq_false_iff_not, -gt_iff_lt, -getElem?_pos, -List.getElem?_map, rdgC, b2]
          refine call_gives (k := 0) (fs := []) (xs := [rdgP ps r, .int .i64 k]) (cs := []) rfl rfl hln rfl ?_
          simp [-decide_eq_true_eq, -decide_eq_false_iff_not, -gt_iff_lt, -getElem?_pos, -List.getElem?_map, b3]
          rcases hpre with ⟨h0, c1, c2, c3⟩ | ⟨j, a, c1, c2, c3, c4, c5, c6, c7, c8, c9, c10⟩
          · subst c3
            rw [c2] at hround
            simp [-decide_eq_true_eq, -decide_eq_false_iff_not, -gt_iff_lt, -getElem?_pos, -List.getElem?_map, c1]
            exact ⟨_, _, hmeas, Sub.mk (by simp [intsR, hw]) (by simp [rdgC]), hround⟩
          · have hme := c10 (of_decide_eq_true b3) (of_decide_eq_true b2)
            simp [-decide_eq_true_eq, -decide_eq_false_iff_not, -gt_iff_lt, -getElem?_pos, -List.getElem?_map, rdgC, ptsP, hg, hpt, c1, c2, c3, c4, c5, c6, c7, c8]
            refine call_gives (k := 0) (fs := []) (xs := [rdgP ps r, .int .i64 k, .int .i64 a, .int .i64 n]) (cs := []) rfl rfl hme rfl ?_
            simp [-decide_eq_true_eq, -decide_eq_false_iff_not, -gt_iff_lt, -getElem?_pos, -List.getElem?_map, rdgC, ptsP, hg, hpt, c1, c2, c3, c4, c5, c6, c7, c8]
            exact ⟨_, _, hmeas, Sub.mk (by simp [intsR, hw]) (by simp [rdgC, ptsP]), hround⟩
  · have he : k = ps.length := by omega
    subst he
    simp [-getElem?_pos, -List.getElem?_map, rsK, resC]
    rw [← hR]
    simp [resP, resC]
end Go.Proofs.YtaffbiibcfeigaaGreat
