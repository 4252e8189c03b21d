/- Layer 6 (hard): blocks and what bias they leave; plain. (Several texts in one.) -/
import Derived.Test.YtaffbiibcfeigaaGreatChA
import Derived.Test.YtaffbiibcfeigaaGreatChV
import Derived.Test.YtaffbiibcfeigaaGreatChJ
import Derived.Test.YtaffbiibcfeigaaGreatChI
import Derived.Test.YtaffbiibcfeigaaGreatChB
import Derived.Test.YtaffbiibcfeigaaGreatBaseD
set_option linter.unusedVariables false
set_option linter.unusedSimpArgs false
/-! Layer 6 (hard): blocks and what bias they leave; plain. -/
namespace Go.Proofs.YtaffbiibcfeigaaGreat
open Go.RowKit
set_option maxRecDepth 10000
/-- A block of a machine. -/
structure Bl where
  lo : Int
  hi : Int
  rd : Int
def Bl.okB (x : Bl) : Bool := decide (0 ≤ x.lo) && decide (x.hi ≤ 100000) && decide (0 ≤ x.rd) && decide (x.rd ≤ 100000)
def Bl.cr (x : Bl) : Cr := ⟨x.rd - x.hi, x.rd - x.lo⟩
def biasM (l : List Bl) : Cr := l.foldl (fun o x => o.cut x.cr) ⟨-100000, 100000⟩
theorem foldl_lo : ∀ (l : List Bl) (o : Cr), o.lo ≤ (l.foldl (fun o x => o.cut x.cr) o).lo ∧ (∀ x ∈ l, x.cr.lo ≤ (l.foldl (fun o x => o.cut x.cr) o).lo) ∧ ((l.foldl (fun o x => o.cut x.cr) o).lo = o.lo ∨ ∃ x ∈ l, (l.foldl (fun o x => o.cut x.cr) o).lo = x.cr.lo)
  | [], o => ⟨Int.le_refl _, (fun x h => absurd h (by simp)), .inl rfl⟩
  | y :: l, o => by
    obtain ⟨h1, h2, h3⟩ := foldl_lo l (o.cut y.cr)
    rw [List.foldl_cons]
    have e : (o.cut y.cr).lo = max o.lo y.cr.lo := rfl
    refine ⟨by omega, fun x hx => ?_, ?_⟩
    · rcases List.mem_cons.1 hx with rfl | hx
      · omega
      · exact h2 x hx
    · rcases h3 with h3 | ⟨x, hx, h3⟩
      · rw [h3, e]
        rcases Int.le_total o.lo y.cr.lo with h | h
        · exact .inr ⟨y, List.mem_cons_self, by omega⟩
        · exact .inl (by omega)
      · exact .inr ⟨x, List.mem_cons_of_mem _ hx, h3⟩
theorem foldl_hi : ∀ (l : List Bl) (o : Cr), (l.foldl (fun o x => o.cut x.cr) o).hi ≤ o.hi ∧ (∀ x ∈ l, (l.foldl (fun o x => o.cut x.cr) o).hi ≤ x.cr.hi) ∧ ((l.foldl (fun o x => o.cut x.cr) o).hi = o.hi ∨ ∃ x ∈ l, (l.foldl (fun o x => o.cut x.cr) o).hi = x.cr.hi)
  | [], o => ⟨Int.le_refl _, (fun x h => absurd h (by simp)), .inl rfl⟩
  | y :: l, o => by
    obtain ⟨h1, h2, h3⟩ := foldl_hi l (o.cut y.cr)
    rw [List.foldl_cons]
    have e : (o.cut y.cr).hi = min o.hi y.cr.hi := rfl
    refine ⟨by omega, fun x hx => ?_, ?_⟩
    · rcases List.mem_cons.1 hx with rfl | hx
      · omega
      · exact h2 x hx
    · rcases h3 with h3 | ⟨x, hx, h3⟩
      · rw [h3, e]
        rcases Int.le_total o.hi y.cr.hi with h | h
        · exact .inl (by omega)
        · exact .inr ⟨y, List.mem_cons_self, by omega⟩
      · exact .inr ⟨x, List.mem_cons_of_mem _ hx, h3⟩
theorem biasM_has {l : List Bl} {t : Int} (h0 : -100000 ≤ t ∧ t ≤ 100000) (h : ∀ x ∈ l, x.cr.has t) : (biasM l).has t := by
  obtain ⟨_, _, h3⟩ := foldl_lo l ⟨-100000, 100000⟩
  obtain ⟨_, _, k3⟩ := foldl_hi l ⟨-100000, 100000⟩
  unfold biasM Cr.has
  constructor
  · rcases h3 with h3 | ⟨x, hx, h3⟩
    · rw [h3]; exact h0.1
    · rw [h3]; exact (h x hx).1
  · rcases k3 with h3 | ⟨x, hx, h3⟩
    · rw [h3]; exact h0.2
    · rw [h3]; exact (h x hx).2
theorem biasM_sub {l l' : List Bl} (h : ∀ y ∈ l', ∃ x ∈ l, x.cr.sub y.cr) : (biasM l).sub (biasM l') := by
  obtain ⟨h1, h2, _⟩ := foldl_lo l ⟨-100000, 100000⟩
  obtain ⟨k1, k2, _⟩ := foldl_hi l ⟨-100000, 100000⟩
  obtain ⟨_, _, h3⟩ := foldl_lo l' ⟨-100000, 100000⟩
  obtain ⟨_, _, k3⟩ := foldl_hi l' ⟨-100000, 100000⟩
  unfold biasM Cr.sub
  constructor
  · rcases h3 with h3 | ⟨y, hy, h3⟩
    · rw [h3]; exact h1
    · obtain ⟨x, hx, e⟩ := h y hy
      rw [h3]
      exact Int.le_trans e.1 (h2 x hx)
  · rcases k3 with h3 | ⟨y, hy, h3⟩
    · rw [h3]; exact k1
    · obtain ⟨x, hx, e⟩ := h y hy
      rw [h3]
      exact Int.le_trans (k2 x hx) e.2
theorem biasM_bd (l : List Bl) : -100000 ≤ (biasM l).lo ∧ (biasM l).hi ≤ 100000 := by
  obtain ⟨h1, _, _⟩ := foldl_lo l ⟨-100000, 100000⟩
  obtain ⟨k1, _, _⟩ := foldl_hi l ⟨-100000, 100000⟩
  exact ⟨h1, k1⟩
end Go.Proofs.YtaffbiibcfeigaaGreat
/-! Top, layers 2 and 6 (chain, hard): books without some certificates; blocks; plain. -/
namespace Go.Proofs.YtaffbiibcfeigaaGreat
open Go.RowKit
set_option maxRecDepth 10000
attribute [local irreducible] Bk.held Bk.nums Bk.heldU Bk.span Bk.contra trueM wordM
/-- A book without the certificates up to a number that are bad. -/
def Bk.fewN (b : Bk) (P : Nat → Bool) : Nat → Bk
  | 0 => b
  | k + 1 => if P (k + 1) = true then (b.fewN P k).wo (k + 1 : Nat) else b.fewN P k
theorem fewN_its (b : Bk) (P : Nat → Bool) : ∀ k, (b.fewN P k).items = b.items
  | 0 => rfl
  | k + 1 => by
    unfold Bk.fewN
    split
    · exact fewN_its b P k
    · exact fewN_its b P k
theorem fewN_mem (b : Bk) (P : Nat → Bool) {c : Ct} : ∀ k, c ∈ (b.fewN P k).certs → c ∈ b.certs
  | 0, h => h
  | k + 1, h => by
    unfold Bk.fewN at h
    split at h
    · exact fewN_mem b P k (wo_mem h)
    · exact fewN_mem b P k h
theorem fewN_len (b : Bk) (P : Nat → Bool) : ∀ k, (b.fewN P k).certs.length ≤ b.certs.length
  | 0 => Nat.le_refl _
  | k + 1 => by
    unfold Bk.fewN
    split
    · exact Nat.le_trans (List.length_filter_le _ _) (fewN_len b P k)
    · exact fewN_len b P k
theorem fewN_ok {b : Bk} (hb : b.ok) (P : Nat → Bool) (k : Nat) : (b.fewN P k).ok := sub_ok hb (fewN_its b P k) (fun _ h => fewN_mem b P k h) (Nat.le_trans (fewN_len b P k) hb.c)
theorem fewN_more (b : Bk) (P : Nat → Bool) (k : Nat) : More (b.fewN P k) b := ⟨(fewN_its b P k).symm, fun _ h => fewN_mem b P k h⟩
/-- What a book answers of which all certificates are those of a book written by words. -/
theorem part_spanM {b x : Bk} {ws : List Int} (hb : b.ok) (hw : ∀ y ∈ ws, 0 ≤ y ∧ y < 65536) (hx : x.ok) (hi : x.items = b.items) (hc : ∀ c ∈ x.certs, c ∈ (b.writ ws).certs) {i d : Int} (h0 : 0 ≤ i) (h1 : i < b.items.length) (h2 : 0 ≤ d) (h3 : d ≤ 1000) : (x.spanM i d).2 = 10 ∨ ((x.spanM i d).2 = 0 ∧ (x.spanM i d).1.has (trueM b ws i d)) := by
  have hT := (writ_truth hb hw).part hi hc
  have hcn := truth_contra hx hT
  have ha := ask_in hx (item := i) (day := d) h0 (by rw [hi]; exact h1) h2 h3
  have he : x.item i = b.item i := by unfold Bk.item; rw [hi]
  have hs : (x.itemSpan (x.held []) (x.span (x.held [])) i d 1000).has (trueM b ws i d) := by
    rw [← trueT_is (b := b) (ws := ws) h0 h1 h2]
    refine item_truth hT (fun hs => ?_) fun o ho _ hox => span_truth hx hT o ho hox
    rw [he] at hs ⊢
    rw [trueT_std h0 h1 hs]
    exact true_std hb hw h0 h1 hs
  unfold Bk.spanM
  rw [ha, hcn]
  cases x.isHeld i d
  · exact .inl rfl
  · exact .inr ⟨rfl, hs⟩
theorem trueM_its {b x : Bk} {ws : List Int} (hi : x.items = b.items) (i d : Int) : trueM x ws i d = trueM b ws i d := by
  have he : x.item i = b.item i := by unfold Bk.item; rw [hi]
  unfold trueM
  rw [he]
def blX (s : Cr) (t by_ : Int) : Bl := ⟨s.lo + 50000, s.hi + 50000, t + by_ + 50000⟩
def blE (s : Cr × Int) (t by_ : Int) : List Bl := if s.2 = 10 then [] else if (blX s.1 t by_).okB = true then [blX s.1 t by_] else []
/-- The blocks of the first items. -/
def blM (b : Bk) (ws : List Int) (d by_ : Int) : Nat → List Bl
  | 0 => []
  | k + 1 => blM b ws d by_ k ++ blE (b.spanM k d) (trueM b ws k d) by_
theorem blE_len (s : Cr × Int) (t by_ : Int) : (blE s t by_).length ≤ 1 := by
  unfold blE
  split
  · exact Nat.zero_le _
  · split
    · exact Nat.le_refl _
    · exact Nat.zero_le _
theorem blM_len (b : Bk) (ws : List Int) (d by_ : Int) : ∀ n, (blM b ws d by_ n).length ≤ n
  | 0 => Nat.le_refl _
  | n + 1 => by
    unfold blM
    rw [List.length_append]
    have h1 := blM_len b ws d by_ n
    have h2 := blE_len (b.spanM n d) (trueM b ws n d) by_
    omega
/-- What is told of some certificates of a truth, with more and with fewer of them. -/
structure Told (b x y : Bk) (ws : List Int) (d : Int) : Prop where
  xi : x.items = b.items
  yi : y.items = b.items
  x1 : ∀ i : Int, 0 ≤ i → i < b.items.length → (x.spanM i d).2 = 10 ∨ ((x.spanM i d).2 = 0 ∧ (x.spanM i d).1.has (trueM b ws i d))
  y1 : ∀ i : Int, 0 ≤ i → i < b.items.length → (y.spanM i d).2 = 10 ∨ ((y.spanM i d).2 = 0 ∧ (y.spanM i d).1.has (trueM b ws i d))
  yx : ∀ i : Int, 0 ≤ i → i < b.items.length → (y.spanM i d).2 = 0 → (x.spanM i d).2 = 0 ∧ (x.spanM i d).1.sub (y.spanM i d).1
theorem told_of {b : Bk} {ws : List Int} (hb : b.ok) (hw : ∀ y ∈ ws, 0 ≤ y ∧ y < 65536) (hx : (b.writ ws).ok) (P : Nat → Bool) (k : Nat) {d : Int} (h2 : 0 ≤ d) (h3 : d ≤ 1000) : Told b (b.writ ws) ((b.writ ws).fewN P k) ws d := by
  have hy := fewN_ok hx P k
  have hyi : ((b.writ ws).fewN P k).items = b.items := fewN_its (b.writ ws) P k
  have hm := fewN_more (b.writ ws) P k
  refine ⟨rfl, hyi, fun i h0 h1 => part_spanM hb hw hx rfl (fun _ h => h) h0 h1 h2 h3, fun i h0 h1 => part_spanM hb hw hy hyi (fun _ h => fewN_mem _ P k h) h0 h1 h2 h3, fun i h0 h1 he => ?_⟩
  have hs := hm.spanM hy hx (item := i) (day := d) h0 (by rw [hyi]; exact h1) h2 h3
  have hq := part_spanM hb hw hx rfl (fun _ h => h) h0 h1 h2 h3
  rcases hs with ⟨_, h⟩ | ⟨h, _⟩ | ⟨_, h⟩ | ⟨h, _, hsb⟩
  · rw [he] at h; cases h
  · rcases hq with hq | ⟨hq, _⟩ <;> rw [hq] at h <;> cases h
  · rw [he] at h; cases h
  · exact ⟨h, hsb⟩
theorem blE_mem {s : Cr × Int} {t by_ : Int} {x : Bl} (h : x ∈ blE s t by_) : s.2 ≠ 10 ∧ x = blX s.1 t by_ ∧ x.okB = true := by
  unfold blE at h
  split at h
  · cases h
  · split at h
    · cases List.mem_singleton.1 h
      exact ⟨by assumption, rfl, by assumption⟩
    · cases h
theorem blM_mem {b : Bk} {ws : List Int} {d by_ : Int} {x : Bl} : ∀ {n : Nat}, x ∈ blM b ws d by_ n → ∃ k : Nat, k < n ∧ x ∈ blE (b.spanM k d) (trueM b ws k d) by_
  | 0, h => by cases h
  | n + 1, h => by
    unfold blM at h
    rcases List.mem_append.1 h with h | h
    · obtain ⟨k, hk, e⟩ := blM_mem h
      exact ⟨k, by omega, e⟩
    · exact ⟨n, by omega, h⟩
theorem blM_in {b : Bk} {ws : List Int} {d by_ : Int} {x : Bl} {k : Nat} (h : x ∈ blE (b.spanM k d) (trueM b ws k d) by_) : ∀ {n : Nat}, k < n → x ∈ blM b ws d by_ n
  | n + 1, hk => by
    unfold blM
    rcases Nat.lt_or_ge k n with h1 | h1
    · exact List.mem_append_left _ (blM_in h h1)
    · obtain rfl : k = n := by omega
      exact List.mem_append_right _ h
/-- A block that is told with fewer certificates is told with all of them, no wider. -/
theorem Told.bl {b x y : Bk} {ws : List Int} {d by_ : Int} (h : Told b x y ws d) {k : Nat} (hk : k < b.items.length) {z : Bl} (hz : z ∈ blE (y.spanM k d) (trueM y ws k d) by_) : ∃ z' ∈ blE (x.spanM k d) (trueM x ws k d) by_, z'.cr.sub z.cr := by
  obtain ⟨h1, h2, h3⟩ := blE_mem hz
  have hy := h.y1 k (by omega) (by omega)
  rcases hy with hy | ⟨hy, _⟩
  · exact absurd hy h1
  obtain ⟨he, hs⟩ := h.yx k (by omega) (by omega) hy
  subst h2
  have ht : trueM x ws k d = trueM y ws k d := by rw [trueM_its h.xi, trueM_its h.yi]
  rw [ht]
  unfold Cr.sub at hs
  unfold Bl.okB blX at h3
  simp only [Bool.and_eq_true, decide_eq_true_eq] at h3
  refine ⟨blX (x.spanM k d).1 (trueM y ws k d) by_, ?_, ?_⟩
  · unfold blE
    rw [if_neg (by omega), if_pos]
    · exact List.mem_singleton_self _
    · unfold Bl.okB blX
      simp only [Bool.and_eq_true, decide_eq_true_eq]
      omega
  · unfold Cr.sub Bl.cr blX
    simp only
    omega
theorem Told.blk {b x y : Bk} {ws : List Int} {d by_ : Int} (h : Told b x y ws d) (n : Nat) (hn : n ≤ b.items.length) : ∀ z ∈ blM y ws d by_ n, ∃ z' ∈ blM x ws d by_ n, z'.cr.sub z.cr := fun z hz => by
  obtain ⟨k, hk, e⟩ := blM_mem hz
  obtain ⟨z', hz', e'⟩ := h.bl (by omega) e
  exact ⟨z', blM_in hz' hk, e'⟩
theorem Told.len {b x y : Bk} {ws : List Int} {d by_ : Int} (h : Told b x y ws d) : ∀ n : Nat, n ≤ b.items.length → (blM y ws d by_ n).length ≤ (blM x ws d by_ n).length
  | 0, _ => Nat.le_refl _
  | n + 1, hn => by
    have h1 := h.len (by_ := by_) n (by omega)
    have h2 := blE_len (y.spanM n d) (trueM y ws n d) by_
    unfold blM
    rw [List.length_append, List.length_append]
    cases e : blE (y.spanM n d) (trueM y ws n d) by_ with
    | nil => simp only [List.length_nil]; omega
    | cons z l =>
      obtain ⟨z', hz', _⟩ := h.bl (by_ := by_) (show n < b.items.length by omega) (show z ∈ _ from e ▸ List.mem_cons_self)
      have h3 := List.length_pos_of_mem hz'
      rw [e] at h2
      omega
theorem blM_has {b x : Bk} {ws : List Int} {d by_ : Int} (hi : x.items = b.items) (hx : ∀ i : Int, 0 ≤ i → i < b.items.length → (x.spanM i d).2 = 10 ∨ ((x.spanM i d).2 = 0 ∧ (x.spanM i d).1.has (trueM b ws i d))) {n : Nat} (hn : n ≤ b.items.length) : ∀ z ∈ blM x ws d by_ n, z.cr.has by_ ∧ z.okB = true ∧ z.lo ≤ z.hi := fun z hz => by
  obtain ⟨k, hk, e⟩ := blM_mem hz
  obtain ⟨h1, rfl, h3⟩ := blE_mem e
  rcases hx k (by omega) (by omega) with h | ⟨_, h⟩
  · exact absurd h h1
  have ht : trueM x ws k d = trueM b ws k d := trueM_its hi _ _
  unfold Cr.has at h
  refine ⟨?_, h3, ?_⟩
  · unfold Cr.has Bl.cr blX
    rw [ht]
    simp only
    omega
  · unfold blX
    simp only
    omega
end Go.Proofs.YtaffbiibcfeigaaGreat
/-! Contracts of layer 6 (hard): small ones; what ranges have in common. -/
namespace Go.Proofs.YtaffbiibcfeigaaGreat
open Go.RowKit
attribute [local simp] Box.purge Site.isLoc
set_option maxRecDepth 10000
set_option linter.unusedSimpArgs false
theorem hwithin_c (n lo hi : Int) : Gives Tryz.prog 64 [.int .i64 n, .int .i64 lo, .int .i64 hi] (.bool (inB n lo hi)) := by
  refine calls_of_awpS mixed L64_ok (Nat.le_of_ble_eq_true rfl) ?_
  by_cases h : lo ≤ n
  all_goals simp [h, L64, inB]
theorem hin_c (n lo hi : Int) : Gives Tryz.prog 62 [.int .i64 n, .int .i64 lo, .int .i64 hi] (.bool (inB n lo hi)) := by
  refine calls_of_awpS mixed L62_ok (Nat.le_of_ble_eq_true rfl) ?_
  by_cases h : lo ≤ n
  all_goals simp [h, L62, inB]
theorem hvalue_c (n : Int) : Gives Tryz.prog 109 [.int .i64 n] (.bool (inB n 0 100000)) := by
  refine calls_of_awpS mixed L109_ok (Nat.le_of_ble_eq_true rfl) ?_
  simp [L109]
  refine call_gives (k := 0) rfl rfl (hwithin_c n 0 100000) rfl ?_
  simp
def Cr.valsB (r : Cr) : Bool := inB r.lo 0 100000 && inB r.hi 0 100000 && decide (r.lo ≤ r.hi)
theorem hvalues_c (r : Cr) : Gives Tryz.prog 170 [r.pv] (.bool r.valsB) := by
  refine calls_of_awpS mixed L170_ok (Nat.le_of_ble_eq_true rfl) ?_
  simp [-getElem?_pos, L170, Cr.pv]
  refine call_gives (k := 0) rfl rfl (hvalue_c r.lo) rfl ?_
  cases h1 : inB r.lo 0 100000
  · simp [Cr.valsB, h1]
  · simp [h1]
    refine call_gives (k := 0) rfl rfl (hvalue_c r.hi) rfl ?_
    cases h2 : inB r.hi 0 100000
    · simp [Cr.valsB, h1, h2]
    · simp [Cr.valsB, h1, h2]
theorem hempty_c (r : Cr) : Gives Tryz.prog 66 [r.pv] (.bool (decide (r.hi < r.lo))) := by
  refine calls_of_awpS mixed L66_ok (Nat.le_of_ble_eq_true rfl) ?_
  simp [-getElem?_pos, L66, Cr.pv]
theorem sMax_c (a b : Int) : Gives Tryz.prog 204 [.lst false 1 [.int .i64 a, .int .i64 b]] (.int .i64 (max a b)) := by
  refine calls_of_awpS mixed L204_ok (Nat.le_of_ble_eq_true rfl) ?_
  simp [-getElem?_pos, L204]
  have hmx : (if a < b then b else a) = max a b := by split <;> omega
  refine awp_loopS (fun n τ => (n = 1 ∧ τ = ⟨[(0, .pv (.lst false 1 [.int .i64 a, .int .i64 b])), (3, .pv (.int .i64 a)), (4, .pv (.int .i64 1))], []⟩) ∨ (n = 0 ∧ τ = ⟨[(0, .pv (.lst false 1 [.int .i64 a, .int .i64 b])), (3, .pv (.int .i64 (max a b))), (4, .pv (.int .i64 2))], []⟩)) ⟨1, _, Sub.mk (by simp) (by simp), .inl ⟨rfl, rfl⟩⟩ ?_
  rintro J hJ n τ (⟨rfl, rfl⟩ | ⟨rfl, rfl⟩)
  · have hround := hJ _ _ (.inr ⟨rfl, rfl⟩)
    have hw : IntKind.i64.wrap 2 = 2 := rfl
    clear hJ
    simp [-getElem?_pos, hw]
    exact ⟨_, _, (by omega : 0 < 1), Sub.mk (by simp [hmx]) (by simp), hround⟩
  · simp [-getElem?_pos]
theorem sMin_c (a b : Int) : Gives Tryz.prog 100 [.lst false 1 [.int .i64 a, .int .i64 b]] (.int .i64 (min a b)) := by
  refine calls_of_awpS mixed L100_ok (Nat.le_of_ble_eq_true rfl) ?_
  simp [-getElem?_pos, L100]
  have hmx : (if b < a then b else a) = min a b := by split <;> omega
  refine awp_loopS (fun n τ => (n = 1 ∧ τ = ⟨[(0, .pv (.lst false 1 [.int .i64 a, .int .i64 b])), (3, .pv (.int .i64 a)), (4, .pv (.int .i64 1))], []⟩) ∨ (n = 0 ∧ τ = ⟨[(0, .pv (.lst false 1 [.int .i64 a, .int .i64 b])), (3, .pv (.int .i64 (min a b))), (4, .pv (.int .i64 2))], []⟩)) ⟨1, _, Sub.mk (by simp) (by simp), .inl ⟨rfl, rfl⟩⟩ ?_
  rintro J hJ n τ (⟨rfl, rfl⟩ | ⟨rfl, rfl⟩)
  · have hround := hJ _ _ (.inr ⟨rfl, rfl⟩)
    have hw : IntKind.i64.wrap 2 = 2 := rfl
    clear hJ
    simp [-getElem?_pos, hw]
    exact ⟨_, _, (by omega : 0 < 1), Sub.mk (by simp [hmx]) (by simp), hround⟩
  · simp [-getElem?_pos]
theorem hmost_c (a b : Int) : Gives Tryz.prog 171 [.lst false 1 [.int .i64 a, .int .i64 b]] (.int .i64 (max a b)) := by
  have hm := sMax_c a b
  refine calls_of_awpS mixed L171_ok (Nat.le_of_ble_eq_true rfl) ?_
  simp [-getElem?_pos, L171]
  refine call_gives (k := 0) (fs := []) (xs := [.lst false 1 [.int .i64 a, .int .i64 b]]) (cs := []) rfl rfl hm rfl ?_
  simp [-getElem?_pos]
theorem hleast_c (a b : Int) : Gives Tryz.prog 172 [.lst false 1 [.int .i64 a, .int .i64 b]] (.int .i64 (min a b)) := by
  have hm := sMin_c a b
  refine calls_of_awpS mixed L172_ok (Nat.le_of_ble_eq_true rfl) ?_
  simp [-getElem?_pos, L172]
  refine call_gives (k := 0) (fs := []) (xs := [.lst false 1 [.int .i64 a, .int .i64 b]]) (cs := []) rfl rfl hm rfl ?_
  simp [-getElem?_pos]
theorem hcut_c (r o : Cr) : Gives Tryz.prog 107 [r.pv, o.pv] (r.cut o).pv := by
  have a1 := hmost_c r.lo o.lo
  have a2 := hleast_c r.hi o.hi
  refine calls_of_awpS mixed L107_ok (Nat.le_of_ble_eq_true rfl) ?_
  simp [-getElem?_pos, L107, Cr.pv]
  refine ltS_seq (cutJ r o) ?_ ?_
  · simp [-getElem?_pos, ltS_alt, ltS_no]
    repeat' (with_reducible refine And.intro ?_ ?_)
    all_goals refine call_give (k := 1) (fs := []) (xs := [.lst false 1 [.int .i64 r.lo, .int .i64 o.lo]]) (cs := []) rfl rfl a1 rfl ?_
    all_goals simp [-getElem?_pos, ltS_alt, ltS_no]
    all_goals refine Sub.mk ?_ ?_
    all_goals simp [cutJ]
  · simp [-getElem?_pos, ltS_alt, ltS_no, cutJ]
    refine call_gives (k := 1) (fs := []) (xs := [.lst false 1 [.int .i64 r.hi, .int .i64 o.hi]]) (cs := []) rfl rfl a2 rfl ?_
    simp [-getElem?_pos, ltS_alt, ltS_no, Cr.cut]
end Go.Proofs.YtaffbiibcfeigaaGreat
/-! Contracts of layer 6 (hard): IndexFunc, ContainsFunc, all. Printed by gen_pred.py. -/
namespace Go.Proofs.YtaffbiibcfeigaaGreat
open Go.RowKit
attribute [local simp] Box.purge Site.isLoc
set_option maxRecDepth 10000
set_option linter.unusedSimpArgs false
theorem indexHb_c (l : List PV) (g : FuncId) (fs cs : List PV) (q : PV → Bool) (hq : ∀ x ∈ l, Gives Tryz.prog g (fs ++ [x] ++ cs) (.bool (q x))) (hl : l.length ≤ 1000000) (hc : ∀ x ∈ l, ∃ a b c, x = .agg [.int .i64 a, .int .i64 b, .int .i64 c]) :
    Gives Tryz.prog 255 [.lst false 3 l, .fn g fs cs] (.int .i64 (match l.findIdx? q with | some i => i | none => -1)) := by
  refine calls_of_awpS mixed L255_ok (Nat.le_of_ble_eq_true rfl) ?_
  simp [L255]
  refine awp_loopS (fun n τ => ∃ k : Nat, k ≤ l.length ∧ n = l.length - k ∧ (∀ j x, j < k → l[j]? = some x → q x = false) ∧ τ = ⟨[(0, .pv (.lst false 3 l)), (1, .pv (.fn g fs cs)), (7, .pv (.int .i64 l.length)), (8, .pv (.int .i64 k))], []⟩)
    ⟨l.length, _, Sub.mk (by simp) (by simp), 0, by omega, rfl, (fun j x hj => by omega), rfl⟩ ?_
  rintro J hJ n τ ⟨k, hk, rfl, hinv, rfl⟩
  by_cases hlt : k < l.length
  · have hx : l[k]? = some l[k] := List.getElem?_eq_getElem hlt
    have hm := List.getElem_mem hlt
    generalize l[k] = x at hx hm
    obtain ⟨a, b, c, rfl⟩ := hc x hm
    have hg := hq _ hm
    have hw : IntKind.i64.wrap ((k : Int) + 1) = ((k + 1 : Nat) : Int) := by rw [wrap64 (by omega)]; omega
    simp [-getElem?_pos, hlt, hx, nblt]
    refine call_gives (k := 0) rfl rfl hg rfl ?_
    cases hb : q _
    · simp [hw]
      exact ⟨_, _, (by omega : l.length - (k + 1) < l.length - k), Sub.mk (by simp) (by simp), hJ _ _ ⟨k + 1, by omega, rfl, fun j x hj hjx => by
        rcases Nat.lt_succ_iff_lt_or_eq.1 hj with h | h
        · exact hinv j x h hjx
        · subst h; rw [hx] at hjx; cases hjx; exact hb, rfl⟩⟩
    · simp [find_at hx hb hinv]
  · have he : k = l.length := by omega
    subst he
    simp [find_none hinv]
theorem anyHb_c (l : List PV) (g : FuncId) (fs cs : List PV) (q : PV → Bool) (hq : ∀ x ∈ l, Gives Tryz.prog g (fs ++ [x] ++ cs) (.bool (q x))) (hl : l.length ≤ 1000000) (hc : ∀ x ∈ l, ∃ a b c, x = .agg [.int .i64 a, .int .i64 b, .int .i64 c]) :
    Gives Tryz.prog 216 [.lst false 3 l, .fn g fs cs] (.bool (l.any q)) := by
  refine calls_of_awpS mixed L216_ok (Nat.le_of_ble_eq_true rfl) ?_
  simp [L216]
  refine call_gives (k := 0) rfl rfl (indexHb_c l g fs cs q hq hl hc) rfl ?_
  cases hf : l.findIdx? q with
  | none =>
    have : l.any q = false := by rw [List.any_eq_false]; intro x hx; simpa using List.findIdx?_eq_none_iff.1 hf x hx
    simp [this]
  | some i =>
    have : l.any q = true := by
      obtain ⟨hi, h1, _⟩ := List.findIdx?_eq_some_iff_getElem.1 hf
      exact List.any_eq_true.2 ⟨_, List.getElem_mem hi, h1⟩
    simp [this]
theorem allHb1_c (x : PV) (g : FuncId) (fs cs : List PV) (b : Bool) (hx : ∃ a b c, x = .agg [.int .i64 a, .int .i64 b, .int .i64 c]) (hq : Gives Tryz.prog g (fs ++ [x] ++ cs) (.bool b)) :
    Gives Tryz.prog 217 [x, .ref [.fn g fs cs]] (.bool (!b)) := by
  obtain ⟨a, b, c, rfl⟩ := hx
  refine calls_of_awpS mixed L217_ok (Nat.le_of_ble_eq_true rfl) ?_
  simp [L217]
  refine call_gives (k := 0) rfl rfl hq rfl ?_
  simp
theorem allHb_c (l : List PV) (g : FuncId) (fs cs : List PV) (q : PV → Bool) (hq : ∀ x ∈ l, Gives Tryz.prog g (fs ++ [x] ++ cs) (.bool (q x))) (hl : l.length ≤ 1000000) (hc : ∀ x ∈ l, ∃ a b c, x = .agg [.int .i64 a, .int .i64 b, .int .i64 c]) :
    Gives Tryz.prog 168 [.lst false 3 l, .fn g fs cs] (.bool (l.all q)) := by
  refine calls_of_awpS mixed L168_ok (Nat.le_of_ble_eq_true rfl) ?_
  simp [L168]
  refine call_gives (k := 4) rfl rfl (anyHb_c l 217 [] [.ref [.fn g fs cs]] (fun x => !q x) (fun x hx => allHb1_c x g fs cs (q x) (hc x hx) (hq x hx)) hl hc) rfl ?_
  simp [List.not_any_eq_all_not]
theorem indexHm_c (l : List PV) (g : FuncId) (fs cs : List PV) (q : PV → Bool) (hq : ∀ x ∈ l, Gives Tryz.prog g (fs ++ [x] ++ cs) (.bool (q x))) (hl : l.length ≤ 1000000) (hc : ∀ x ∈ l, ∃ a b, x = .agg [.int .i64 a, .lst false 3 b]) :
    Gives Tryz.prog 212 [.lst false 2 l, .fn g fs cs] (.int .i64 (match l.findIdx? q with | some i => i | none => -1)) := by
  refine calls_of_awpS mixed L212_ok (Nat.le_of_ble_eq_true rfl) ?_
  simp [L212]
  refine awp_loopS (fun n τ => ∃ k : Nat, k ≤ l.length ∧ n = l.length - k ∧ (∀ j x, j < k → l[j]? = some x → q x = false) ∧ τ = ⟨[(0, .pv (.lst false 2 l)), (1, .pv (.fn g fs cs)), (7, .pv (.int .i64 l.length)), (8, .pv (.int .i64 k))], []⟩)
    ⟨l.length, _, Sub.mk (by simp) (by simp), 0, by omega, rfl, (fun j x hj => by omega), rfl⟩ ?_
  rintro J hJ n τ ⟨k, hk, rfl, hinv, rfl⟩
  by_cases hlt : k < l.length
  · have hx : l[k]? = some l[k] := List.getElem?_eq_getElem hlt
    have hm := List.getElem_mem hlt
    generalize l[k] = x at hx hm
    obtain ⟨a, b, rfl⟩ := hc x hm
    have hg := hq _ hm
    have hw : IntKind.i64.wrap ((k : Int) + 1) = ((k + 1 : Nat) : Int) := by rw [wrap64 (by omega)]; omega
    simp [-getElem?_pos, hlt, hx, nblt]
    refine call_gives (k := 0) rfl rfl hg rfl ?_
    cases hb : q _
    · simp [hw]
      exact ⟨_, _, (by omega : l.length - (k + 1) < l.length - k), Sub.mk (by simp) (by simp), hJ _ _ ⟨k + 1, by omega, rfl, fun j x hj hjx => by
        rcases Nat.lt_succ_iff_lt_or_eq.1 hj with h | h
        · exact hinv j x h hjx
        · subst h; rw [hx] at hjx; cases hjx; exact hb, rfl⟩⟩
    · simp [find_at hx hb hinv]
  · have he : k = l.length := by omega
    subst he
    simp [find_none hinv]
theorem anyHm_c (l : List PV) (g : FuncId) (fs cs : List PV) (q : PV → Bool) (hq : ∀ x ∈ l, Gives Tryz.prog g (fs ++ [x] ++ cs) (.bool (q x))) (hl : l.length ≤ 1000000) (hc : ∀ x ∈ l, ∃ a b, x = .agg [.int .i64 a, .lst false 3 b]) :
    Gives Tryz.prog 161 [.lst false 2 l, .fn g fs cs] (.bool (l.any q)) := by
  refine calls_of_awpS mixed L161_ok (Nat.le_of_ble_eq_true rfl) ?_
  simp [L161]
  refine call_gives (k := 0) rfl rfl (indexHm_c l g fs cs q hq hl hc) rfl ?_
  cases hf : l.findIdx? q with
  | none =>
    have : l.any q = false := by rw [List.any_eq_false]; intro x hx; simpa using List.findIdx?_eq_none_iff.1 hf x hx
    simp [this]
  | some i =>
    have : l.any q = true := by
      obtain ⟨hi, h1, _⟩ := List.findIdx?_eq_some_iff_getElem.1 hf
      exact List.any_eq_true.2 ⟨_, List.getElem_mem hi, h1⟩
    simp [this]
theorem allHm1_c (x : PV) (g : FuncId) (fs cs : List PV) (b : Bool) (hx : ∃ a b, x = .agg [.int .i64 a, .lst false 3 b]) (hq : Gives Tryz.prog g (fs ++ [x] ++ cs) (.bool b)) :
    Gives Tryz.prog 162 [x, .ref [.fn g fs cs]] (.bool (!b)) := by
  obtain ⟨a, b, rfl⟩ := hx
  refine calls_of_awpS mixed L162_ok (Nat.le_of_ble_eq_true rfl) ?_
  simp [L162]
  refine call_gives (k := 0) rfl rfl hq rfl ?_
  simp
theorem allHm_c (l : List PV) (g : FuncId) (fs cs : List PV) (q : PV → Bool) (hq : ∀ x ∈ l, Gives Tryz.prog g (fs ++ [x] ++ cs) (.bool (q x))) (hl : l.length ≤ 1000000) (hc : ∀ x ∈ l, ∃ a b, x = .agg [.int .i64 a, .lst false 3 b]) :
    Gives Tryz.prog 103 [.lst false 2 l, .fn g fs cs] (.bool (l.all q)) := by
  refine calls_of_awpS mixed L103_ok (Nat.le_of_ble_eq_true rfl) ?_
  simp [L103]
  refine call_gives (k := 4) rfl rfl (anyHm_c l 162 [] [.ref [.fn g fs cs]] (fun x => !q x) (fun x hx => allHm1_c x g fs cs (q x) (hc x hx) (hq x hx)) hl hc) rfl ?_
  simp [List.not_any_eq_all_not]
theorem indexHr_c (l : List PV) (g : FuncId) (fs cs : List PV) (q : PV → Bool) (hq : ∀ x ∈ l, Gives Tryz.prog g (fs ++ [x] ++ cs) (.bool (q x))) (hl : l.length ≤ 1000000) (hc : ∀ x ∈ l, ∃ a b, x = .agg [.int .i64 a, .int .i64 b]) :
    Gives Tryz.prog 218 [.lst false 2 l, .fn g fs cs] (.int .i64 (match l.findIdx? q with | some i => i | none => -1)) := by
  refine calls_of_awpS mixed L218_ok (Nat.le_of_ble_eq_true rfl) ?_
  simp [L218]
  refine awp_loopS (fun n τ => ∃ k : Nat, k ≤ l.length ∧ n = l.length - k ∧ (∀ j x, j < k → l[j]? = some x → q x = false) ∧ τ = ⟨[(0, .pv (.lst false 2 l)), (1, .pv (.fn g fs cs)), (7, .pv (.int .i64 l.length)), (8, .pv (.int .i64 k))], []⟩)
    ⟨l.length, _, Sub.mk (by simp) (by simp), 0, by omega, rfl, (fun j x hj => by omega), rfl⟩ ?_
  rintro J hJ n τ ⟨k, hk, rfl, hinv, rfl⟩
  by_cases hlt : k < l.length
  · have hx : l[k]? = some l[k] := List.getElem?_eq_getElem hlt
    have hm := List.getElem_mem hlt
    generalize l[k] = x at hx hm
    obtain ⟨a, b, rfl⟩ := hc x hm
    have hg := hq _ hm
    have hw : IntKind.i64.wrap ((k : Int) + 1) = ((k + 1 : Nat) : Int) := by rw [wrap64 (by omega)]; omega
    simp [-getElem?_pos, hlt, hx, nblt]
    refine call_gives (k := 0) rfl rfl hg rfl ?_
    cases hb : q _
    · simp [hw]
      exact ⟨_, _, (by omega : l.length - (k + 1) < l.length - k), Sub.mk (by simp) (by simp), hJ _ _ ⟨k + 1, by omega, rfl, fun j x hj hjx => by
        rcases Nat.lt_succ_iff_lt_or_eq.1 hj with h | h
        · exact hinv j x h hjx
        · subst h; rw [hx] at hjx; cases hjx; exact hb, rfl⟩⟩
    · simp [find_at hx hb hinv]
  · have he : k = l.length := by omega
    subst he
    simp [find_none hinv]
theorem anyHr_c (l : List PV) (g : FuncId) (fs cs : List PV) (q : PV → Bool) (hq : ∀ x ∈ l, Gives Tryz.prog g (fs ++ [x] ++ cs) (.bool (q x))) (hl : l.length ≤ 1000000) (hc : ∀ x ∈ l, ∃ a b, x = .agg [.int .i64 a, .int .i64 b]) :
    Gives Tryz.prog 173 [.lst false 2 l, .fn g fs cs] (.bool (l.any q)) := by
  refine calls_of_awpS mixed L173_ok (Nat.le_of_ble_eq_true rfl) ?_
  simp [L173]
  refine call_gives (k := 0) rfl rfl (indexHr_c l g fs cs q hq hl hc) rfl ?_
  cases hf : l.findIdx? q with
  | none =>
    have : l.any q = false := by rw [List.any_eq_false]; intro x hx; simpa using List.findIdx?_eq_none_iff.1 hf x hx
    simp [this]
  | some i =>
    have : l.any q = true := by
      obtain ⟨hi, h1, _⟩ := List.findIdx?_eq_some_iff_getElem.1 hf
      exact List.any_eq_true.2 ⟨_, List.getElem_mem hi, h1⟩
    simp [this]
theorem allHr1_c (x : PV) (g : FuncId) (fs cs : List PV) (b : Bool) (hx : ∃ a b, x = .agg [.int .i64 a, .int .i64 b]) (hq : Gives Tryz.prog g (fs ++ [x] ++ cs) (.bool b)) :
    Gives Tryz.prog 174 [x, .ref [.fn g fs cs]] (.bool (!b)) := by
  obtain ⟨a, b, rfl⟩ := hx
  refine calls_of_awpS mixed L174_ok (Nat.le_of_ble_eq_true rfl) ?_
  simp [L174]
  refine call_gives (k := 0) rfl rfl hq rfl ?_
  simp
theorem allHr_c (l : List PV) (g : FuncId) (fs cs : List PV) (q : PV → Bool) (hq : ∀ x ∈ l, Gives Tryz.prog g (fs ++ [x] ++ cs) (.bool (q x))) (hl : l.length ≤ 1000000) (hc : ∀ x ∈ l, ∃ a b, x = .agg [.int .i64 a, .int .i64 b]) :
    Gives Tryz.prog 110 [.lst false 2 l, .fn g fs cs] (.bool (l.all q)) := by
  refine calls_of_awpS mixed L110_ok (Nat.le_of_ble_eq_true rfl) ?_
  simp [L110]
  refine call_gives (k := 4) rfl rfl (anyHr_c l 174 [] [.ref [.fn g fs cs]] (fun x => !q x) (fun x hx => allHr1_c x g fs cs (q x) (hc x hx) (hq x hx)) hl hc) rfl ?_
  simp [List.not_any_eq_all_not]
theorem indexHg_c (l : List PV) (g : FuncId) (fs cs : List PV) (q : PV → Bool) (hq : ∀ x ∈ l, Gives Tryz.prog g (fs ++ [x] ++ cs) (.bool (q x))) (hl : l.length ≤ 1000000) (hc : ∀ x ∈ l, ∃ a b, x = .agg [.int .i64 a, .int .i64 b]) :
    Gives Tryz.prog 221 [.lst false 2 l, .fn g fs cs] (.int .i64 (match l.findIdx? q with | some i => i | none => -1)) := by
  refine calls_of_awpS mixed L221_ok (Nat.le_of_ble_eq_true rfl) ?_
  simp [L221]
  refine awp_loopS (fun n τ => ∃ k : Nat, k ≤ l.length ∧ n = l.length - k ∧ (∀ j x, j < k → l[j]? = some x → q x = false) ∧ τ = ⟨[(0, .pv (.lst false 2 l)), (1, .pv (.fn g fs cs)), (7, .pv (.int .i64 l.length)), (8, .pv (.int .i64 k))], []⟩)
    ⟨l.length, _, Sub.mk (by simp) (by simp), 0, by omega, rfl, (fun j x hj => by omega), rfl⟩ ?_
  rintro J hJ n τ ⟨k, hk, rfl, hinv, rfl⟩
  by_cases hlt : k < l.length
  · have hx : l[k]? = some l[k] := List.getElem?_eq_getElem hlt
    have hm := List.getElem_mem hlt
    generalize l[k] = x at hx hm
    obtain ⟨a, b, rfl⟩ := hc x hm
    have hg := hq _ hm
    have hw : IntKind.i64.wrap ((k : Int) + 1) = ((k + 1 : Nat) : Int) := by rw [wrap64 (by omega)]; omega
    simp [-getElem?_pos, hlt, hx, nblt]
    refine call_gives (k := 0) rfl rfl hg rfl ?_
    cases hb : q _
    · simp [hw]
      exact ⟨_, _, (by omega : l.length - (k + 1) < l.length - k), Sub.mk (by simp) (by simp), hJ _ _ ⟨k + 1, by omega, rfl, fun j x hj hjx => by
        rcases Nat.lt_succ_iff_lt_or_eq.1 hj with h | h
        · exact hinv j x h hjx
        · subst h; rw [hx] at hjx; cases hjx; exact hb, rfl⟩⟩
    · simp [find_at hx hb hinv]
  · have he : k = l.length := by omega
    subst he
    simp [find_none hinv]
theorem anyHg_c (l : List PV) (g : FuncId) (fs cs : List PV) (q : PV → Bool) (hq : ∀ x ∈ l, Gives Tryz.prog g (fs ++ [x] ++ cs) (.bool (q x))) (hl : l.length ≤ 1000000) (hc : ∀ x ∈ l, ∃ a b, x = .agg [.int .i64 a, .int .i64 b]) :
    Gives Tryz.prog 177 [.lst false 2 l, .fn g fs cs] (.bool (l.any q)) := by
  refine calls_of_awpS mixed L177_ok (Nat.le_of_ble_eq_true rfl) ?_
  simp [L177]
  refine call_gives (k := 0) rfl rfl (indexHg_c l g fs cs q hq hl hc) rfl ?_
  cases hf : l.findIdx? q with
  | none =>
    have : l.any q = false := by rw [List.any_eq_false]; intro x hx; simpa using List.findIdx?_eq_none_iff.1 hf x hx
    simp [this]
  | some i =>
    have : l.any q = true := by
      obtain ⟨hi, h1, _⟩ := List.findIdx?_eq_some_iff_getElem.1 hf
      exact List.any_eq_true.2 ⟨_, List.getElem_mem hi, h1⟩
    simp [this]
end Go.Proofs.YtaffbiibcfeigaaGreat
