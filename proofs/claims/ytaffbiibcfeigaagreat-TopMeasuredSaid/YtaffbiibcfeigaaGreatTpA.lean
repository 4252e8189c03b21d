/- Layer 6 (hard): blocks and what bias they leave; plain. (Several texts in one.) -/
import Derived.Test.YtaffbiibcfeigaaGreatChA
import Derived.Test.YtaffbiibcfeigaaGreatChV
import Derived.Test.YtaffbiibcfeigaaGreatChJ
import Derived.Test.YtaffbiibcfeigaaGreatChI
set_option linter.unusedVariables false
set_option linter.unusedSimpArgs false
/-! Layer 6 (hard): blocks and what bias they leave; plain. -/
namespace Go.Proofs.YtaffbiibcfeigaaGreat
open Go.RowKit
set_option maxRecDepth 10000
/-- A block of a machine. -/
structure Bl where
  lo : Int
  hi : Int
  rd : Int
def Bl.okB (x : Bl) : Bool := decide (0 ≤ x.lo) && decide (x.hi ≤ 100000) && decide (0 ≤ x.rd) && decide (x.rd ≤ 100000)
def Bl.cr (x : Bl) : Cr := ⟨x.rd - x.hi, x.rd - x.lo⟩
end Go.Proofs.YtaffbiibcfeigaaGreat
/-! Top, layers 2 and 6 (chain, hard): books without some certificates; blocks; plain. -/
namespace Go.Proofs.YtaffbiibcfeigaaGreat
open Go.RowKit
set_option maxRecDepth 10000
attribute [local irreducible] Bk.held Bk.nums Bk.heldU Bk.span Bk.contra trueM wordM
/-- A book without the certificates up to a number that are bad. -/
def Bk.fewN (b : Bk) (P : Nat → Bool) : Nat → Bk
  | 0 => b
  | k + 1 => if P (k + 1) = true then (b.fewN P k).wo (k + 1 : Nat) else b.fewN P k
theorem fewN_its (b : Bk) (P : Nat → Bool) : ∀ k, (b.fewN P k).items = b.items
  | 0 => rfl
  | k + 1 => by
    unfold Bk.fewN
    split
    · exact fewN_its b P k
    · exact fewN_its b P k
theorem fewN_mem (b : Bk) (P : Nat → Bool) {c : Ct} : ∀ k, c ∈ (b.fewN P k).certs → c ∈ b.certs
  | 0, h => h
  | k + 1, h => by
    unfold Bk.fewN at h
    split at h
    · exact fewN_mem b P k (wo_mem h)
    · exact fewN_mem b P k h
theorem fewN_len (b : Bk) (P : Nat → Bool) : ∀ k, (b.fewN P k).certs.length ≤ b.certs.length
  | 0 => Nat.le_refl _
  | k + 1 => by
    unfold Bk.fewN
    split
    · exact Nat.le_trans (List.length_filter_le _ _) (fewN_len b P k)
    · exact fewN_len b P k
theorem fewN_ok {b : Bk} (hb : b.ok) (P : Nat → Bool) (k : Nat) : (b.fewN P k).ok := sub_ok hb (fewN_its b P k) (fun _ h => fewN_mem b P k h) (Nat.le_trans (fewN_len b P k) hb.c)
theorem fewN_more (b : Bk) (P : Nat → Bool) (k : Nat) : More (b.fewN P k) b := ⟨(fewN_its b P k).symm, fun _ h => fewN_mem b P k h⟩
/-- What a book answers of which all certificates are those of a book written by words. -/
theorem part_spanM {b x : Bk} {ws : List Int} (hb : b.ok) (hw : ∀ y ∈ ws, 0 ≤ y ∧ y < 65536) (hx : x.ok) (hi : x.items = b.items) (hc : ∀ c ∈ x.certs, c ∈ (b.writ ws).certs) {i d : Int} (h0 : 0 ≤ i) (h1 : i < b.items.length) (h2 : 0 ≤ d) (h3 : d ≤ 1000) : (x.spanM i d).2 = 10 ∨ ((x.spanM i d).2 = 0 ∧ (x.spanM i d).1.has (trueM b ws i d)) := by
  have hT := (writ_truth hb hw).part hi hc
  have hcn := truth_contra hx hT
  have ha := ask_in hx (item := i) (day := d) h0 (by rw [hi]; exact h1) h2 h3
  have he : x.item i = b.item i := by unfold Bk.item; rw [hi]
  have hs : (x.itemSpan (x.held []) (x.span (x.held [])) i d 1000).has (trueM b ws i d) := by
    rw [← trueT_is (b := b) (ws := ws) h0 h1 h2]
    refine item_truth hT (fun hs => ?_) fun o ho _ hox => span_truth hx hT o ho hox
    rw [he] at hs ⊢
    rw [trueT_std h0 h1 hs]
    exact true_std hb hw h0 h1 hs
  unfold Bk.spanM
  rw [ha, hcn]
  cases x.isHeld i d
  · exact .inl rfl
  · exact .inr ⟨rfl, hs⟩
theorem trueM_its {b x : Bk} {ws : List Int} (hi : x.items = b.items) (i d : Int) : trueM x ws i d = trueM b ws i d := by
  have he : x.item i = b.item i := by unfold Bk.item; rw [hi]
  unfold trueM
  rw [he]
def blX (s : Cr) (t by_ : Int) : Bl := ⟨s.lo + 50000, s.hi + 50000, t + by_ + 50000⟩
def blE (s : Cr × Int) (t by_ : Int) : List Bl := if s.2 = 10 then [] else if (blX s.1 t by_).okB = true then [blX s.1 t by_] else []
/-- The blocks of the first items. -/
def blM (b : Bk) (ws : List Int) (d by_ : Int) : Nat → List Bl
  | 0 => []
  | k + 1 => blM b ws d by_ k ++ blE (b.spanM k d) (trueM b ws k d) by_
theorem blE_len (s : Cr × Int) (t by_ : Int) : (blE s t by_).length ≤ 1 := by
  unfold blE
  split
  · exact Nat.zero_le _
  · split
    · exact Nat.le_refl _
    · exact Nat.zero_le _
/-- What is told of some certificates of a truth, with more and with fewer of them. -/
structure Told (b x y : Bk) (ws : List Int) (d : Int) : Prop where
  xi : x.items = b.items
  yi : y.items = b.items
  x1 : ∀ i : Int, 0 ≤ i → i < b.items.length → (x.spanM i d).2 = 10 ∨ ((x.spanM i d).2 = 0 ∧ (x.spanM i d).1.has (trueM b ws i d))
  y1 : ∀ i : Int, 0 ≤ i → i < b.items.length → (y.spanM i d).2 = 10 ∨ ((y.spanM i d).2 = 0 ∧ (y.spanM i d).1.has (trueM b ws i d))
  yx : ∀ i : Int, 0 ≤ i → i < b.items.length → (y.spanM i d).2 = 0 → (x.spanM i d).2 = 0 ∧ (x.spanM i d).1.sub (y.spanM i d).1
theorem told_of {b : Bk} {ws : List Int} (hb : b.ok) (hw : ∀ y ∈ ws, 0 ≤ y ∧ y < 65536) (hx : (b.writ ws).ok) (P : Nat → Bool) (k : Nat) {d : Int} (h2 : 0 ≤ d) (h3 : d ≤ 1000) : Told b (b.writ ws) ((b.writ ws).fewN P k) ws d := by
  have hy := fewN_ok hx P k
  have hyi : ((b.writ ws).fewN P k).items = b.items := fewN_its (b.writ ws) P k
  have hm := fewN_more (b.writ ws) P k
  refine ⟨rfl, hyi, fun i h0 h1 => part_spanM hb hw hx rfl (fun _ h => h) h0 h1 h2 h3, fun i h0 h1 => part_spanM hb hw hy hyi (fun _ h => fewN_mem _ P k h) h0 h1 h2 h3, fun i h0 h1 he => ?_⟩
  have hs := hm.spanM hy hx (item := i) (day := d) h0 (by rw [hyi]; exact h1) h2 h3
  have hq := part_spanM hb hw hx rfl (fun _ h => h) h0 h1 h2 h3
  rcases hs with ⟨_, h⟩ | ⟨h, _⟩ | ⟨_, h⟩ | ⟨h, _, hsb⟩
  · rw [he] at h; cases h
  · rcases hq with hq | ⟨hq, _⟩ <;> rw [hq] at h <;> cases h
  · rw [he] at h; cases h
  · exact ⟨h, hsb⟩
theorem blE_mem {s : Cr × Int} {t by_ : Int} {x : Bl} (h : x ∈ blE s t by_) : s.2 ≠ 10 ∧ x = blX s.1 t by_ ∧ x.okB = true := by
  unfold blE at h
  split at h
  · cases h
  · split at h
    · cases List.mem_singleton.1 h
      exact ⟨by assumption, rfl, by assumption⟩
    · cases h
theorem blM_mem {b : Bk} {ws : List Int} {d by_ : Int} {x : Bl} : ∀ {n : Nat}, x ∈ blM b ws d by_ n → ∃ k : Nat, k < n ∧ x ∈ blE (b.spanM k d) (trueM b ws k d) by_
  | 0, h => by cases h
  | n + 1, h => by
    unfold blM at h
    rcases List.mem_append.1 h with h | h
    · obtain ⟨k, hk, e⟩ := blM_mem h
      exact ⟨k, by omega, e⟩
    · exact ⟨n, by omega, h⟩
theorem blM_in {b : Bk} {ws : List Int} {d by_ : Int} {x : Bl} {k : Nat} (h : x ∈ blE (b.spanM k d) (trueM b ws k d) by_) : ∀ {n : Nat}, k < n → x ∈ blM b ws d by_ n
  | n + 1, hk => by
    unfold blM
    rcases Nat.lt_or_ge k n with h1 | h1
    · exact List.mem_append_left _ (blM_in h h1)
    · obtain rfl : k = n := by omega
      exact List.mem_append_right _ h
/-- A block that is told with fewer certificates is told with all of them, no wider. -/
theorem Told.bl {b x y : Bk} {ws : List Int} {d by_ : Int} (h : Told b x y ws d) {k : Nat} (hk : k < b.items.length) {z : Bl} (hz : z ∈ blE (y.spanM k d) (trueM y ws k d) by_) : ∃ z' ∈ blE (x.spanM k d) (trueM x ws k d) by_, z'.cr.sub z.cr := by
  obtain ⟨h1, h2, h3⟩ := blE_mem hz
  have hy := h.y1 k (by omega) (by omega)
  rcases hy with hy | ⟨hy, _⟩
  · exact absurd hy h1
  obtain ⟨he, hs⟩ := h.yx k (by omega) (by omega) hy
  subst h2
  have ht : trueM x ws k d = trueM y ws k d := by rw [trueM_its h.xi, trueM_its h.yi]
  rw [ht]
  unfold Cr.sub at hs
  unfold Bl.okB blX at h3
  simp only [Bool.and_eq_true, decide_eq_true_eq] at h3
  refine ⟨blX (x.spanM k d).1 (trueM y ws k d) by_, ?_, ?_⟩
  · unfold blE
    rw [if_neg (by omega), if_pos]
    · exact List.mem_singleton_self _
    · unfold Bl.okB blX
      simp only [Bool.and_eq_true, decide_eq_true_eq]
      omega
  · unfold Cr.sub Bl.cr blX
    simp only
    omega
theorem Told.blk {b x y : Bk} {ws : List Int} {d by_ : Int} (h : Told b x y ws d) (n : Nat) (hn : n ≤ b.items.length) : ∀ z ∈ blM y ws d by_ n, ∃ z' ∈ blM x ws d by_ n, z'.cr.sub z.cr := fun z hz => by
  obtain ⟨k, hk, e⟩ := blM_mem hz
  obtain ⟨z', hz', e'⟩ := h.bl (by omega) e
  exact ⟨z', blM_in hz' hk, e'⟩
theorem Told.len {b x y : Bk} {ws : List Int} {d by_ : Int} (h : Told b x y ws d) : ∀ n : Nat, n ≤ b.items.length → (blM y ws d by_ n).length ≤ (blM x ws d by_ n).length
  | 0, _ => Nat.le_refl _
  | n + 1, hn => by
    have h1 := h.len (by_ := by_) n (by omega)
    have h2 := blE_len (y.spanM n d) (trueM y ws n d) by_
    unfold blM
    rw [List.length_append, List.length_append]
    cases e : blE (y.spanM n d) (trueM y ws n d) by_ with
    | nil => simp only [List.length_nil]; omega
    | cons z l =>
      obtain ⟨z', hz', _⟩ := h.bl (by_ := by_) (show n < b.items.length by omega) (show z ∈ _ from e ▸ List.mem_cons_self)
      have h3 := List.length_pos_of_mem hz'
      rw [e] at h2
      omega
end Go.Proofs.YtaffbiibcfeigaaGreat
