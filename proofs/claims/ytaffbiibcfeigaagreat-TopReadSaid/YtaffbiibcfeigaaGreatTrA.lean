/- Layer 8 (round): what laboratories leave of the samples' values; plain. (Several texts in one.) -/
import Derived.Test.YtaffbiibcfeigaaGreatChA
import Derived.Test.YtaffbiibcfeigaaGreatChB
import Derived.Test.YtaffbiibcfeigaaGreatBaseD
import Derived.Test.YtaffbiibcfeigaaGreatTpA
import Derived.Test.YtaffbiibcfeigaaGreatChK
set_option linter.unusedVariables false
set_option linter.unusedSimpArgs false
/-! Layer 8 (round): what laboratories leave of the samples' values; plain. -/
namespace Go.Proofs.YtaffbiibcfeigaaGreat
open Go.RowKit
set_option maxRecDepth 10000
/-- A laboratory. -/
structure Lb where
  tol : Int
  rds : List Int
/-- A round. -/
structure Rn where
  lots : List Cr
  smp : List Int
  spr : Int
  labs : List Lb
/-- What a laboratory's reading of a sample leaves. -/
def rdE (x : Lb) (off : Bool) (i : Nat) (t : Int) : List Cr := match x.rds[i]? with
  | none => []
  | some n => if off = true ∨ n = -1 then [] else [⟨n - t - x.tol, n - t + x.tol⟩]
def shB (lab by_ : Int) (k : Nat) : Int := if (k : Int) = lab then by_ else 0
/-- All readings of a sample, by the first laboratories. -/
def rdM (r : Rn) (off : Nat → Bool) (lab by_ : Int) (i : Nat) : Nat → List Cr
  | 0 => []
  | k + 1 => rdM r off lab by_ i k ++ (match r.labs[k]? with | none => [] | some x => rdE x (off k) i (shB lab by_ k))
def cutM (l : List Cr) : Cr := l.foldl Cr.cut ⟨-1073741824, 1073741824⟩
def smC (r : Rn) (off : Nat → Bool) (lab by_ : Int) (i : Nat) : Cr := cutM (rdM r off lab by_ i r.labs.length)
def lotI (r : Rn) (i : Nat) : Nat := ((r.smp[i]?).getD 0).toNat
def getC (l : List Cr) (j : Nat) : Cr := (l[j]?).getD ⟨0, 0⟩
/-- The samples one behind the other: what is left of each, and of the lots. -/
def spaM (r : Rn) (off : Nat → Bool) (lab by_ : Int) : Nat → Option (List Cr × List Cr)
  | 0 => some ([], r.lots)
  | i + 1 => match spaM r off lab by_ i with
    | none => none
    | some (out, ls) => if (smC r off lab by_ i).hi < (smC r off lab by_ i).lo then none else some (out ++ [smC r off lab by_ i], ls.set (lotI r i) ((getC ls (lotI r i)).cut ((smC r off lab by_ i).wider r.spr)))
def finM (r : Rn) (ls : List Cr) (out : List Cr) (k : Nat) : List Cr := (List.range k).map (fun i => (getC out i).cut ((getC ls (lotI r i)).wider r.spr)) ++ out.drop k
def spnM (r : Rn) (off : Nat → Bool) (lab by_ : Int) : List Cr × Bool := match spaM r off lab by_ r.smp.length with
  | none => ([], false)
  | some (out, ls) => (finM r ls out r.smp.length, ls.all fun x => decide (x.lo ≤ x.hi))
theorem cut_has {a b : Cr} {v : Int} (h1 : a.has v) (h2 : b.has v) : (a.cut b).has v := by
  unfold Cr.has Cr.cut at *
  simp only
  omega
theorem cutM_has {l : List Cr} {v : Int} (h : ∀ x ∈ l, x.has v) (hv : -1073741824 ≤ v ∧ v ≤ 1073741824) : (cutM l).has v := by
  unfold cutM
  have : ∀ (l : List Cr) (o : Cr), o.has v → (∀ x ∈ l, x.has v) → (l.foldl Cr.cut o).has v := fun l => by
    induction l with
    | nil => exact fun o h _ => h
    | cons a l ih => exact fun o h1 h2 => ih _ (cut_has h1 (h2 a List.mem_cons_self)) fun x hx => h2 x (List.mem_cons_of_mem _ hx)
  exact this l _ hv h
theorem rdM_mem {r : Rn} {off : Nat → Bool} {lab by_ : Int} {i : Nat} {y : Cr} : ∀ {n : Nat}, y ∈ rdM r off lab by_ i n → ∃ (k : Nat) (x : Lb), k < n ∧ r.labs[k]? = some x ∧ y ∈ rdE x (off k) i (shB lab by_ k)
  | 0, h => by cases h
  | n + 1, h => by
    unfold rdM at h
    rcases List.mem_append.1 h with h | h
    · obtain ⟨k, x, h1, h2⟩ := rdM_mem h
      exact ⟨k, x, by omega, h2⟩
    · split at h
      · cases h
      · exact ⟨n, _, by omega, by assumption, h⟩
/-- Values that all laboratories are right about (but some), with values of the lots. -/
structure Fit (r : Rn) (off : Nat → Bool) (lab by_ : Int) (v u : Nat → Int) : Prop where
  rd : ∀ (i k : Nat) (x : Lb) (n : Int), i < r.smp.length → r.labs[k]? = some x → x.rds[i]? = some n → off k = false → n ≠ -1 → n - shB lab by_ k - x.tol ≤ v i ∧ v i ≤ n - shB lab by_ k + x.tol
  lt : ∀ j, j < r.lots.length → (getC r.lots j).has (u j)
  sp : ∀ i, i < r.smp.length → lotI r i < r.lots.length ∧ u (lotI r i) - r.spr ≤ v i ∧ v i ≤ u (lotI r i) + r.spr
  bd : ∀ i, i < r.smp.length → -1073741824 ≤ v i ∧ v i ≤ 1073741824
theorem Fit.smp {r : Rn} {off : Nat → Bool} {lab by_ : Int} {v u : Nat → Int} (h : Fit r off lab by_ v u) {i : Nat} (hi : i < r.smp.length) : (smC r off lab by_ i).has (v i) := by
  unfold smC
  refine cutM_has (fun y hy => ?_) (h.bd i hi)
  obtain ⟨k, x, _, hx, hy⟩ := rdM_mem hy
  unfold rdE at hy
  split at hy
  · cases hy
  · rename_i n hn
    split at hy
    · cases hy
    · rename_i hc
      cases List.mem_singleton.1 hy
      rw [not_or, Bool.not_eq_true] at hc
      exact h.rd i k x n hi hx hn hc.1 hc.2
theorem getC_set {l : List Cr} {j m : Nat} {c : Cr} (hm : m < l.length) : getC (l.set m c) j = if j = m then c else getC l j := by
  unfold getC
  rw [List.getElem?_set]
  by_cases h : m = j
  · subst h
    rw [if_pos rfl, if_pos hm, if_pos rfl]
    rfl
  · rw [if_neg h, if_neg (fun e => h e.symm)]
theorem Fit.spa {r : Rn} {off : Nat → Bool} {lab by_ : Int} {v u : Nat → Int} (h : Fit r off lab by_ v u) : ∀ {n : Nat}, n ≤ r.smp.length → ∃ out ls, spaM r off lab by_ n = some (out, ls) ∧ out.length = n ∧ ls.length = r.lots.length ∧ (∀ i, i < n → (getC out i).has (v i)) ∧ ∀ j, j < ls.length → (getC ls j).has (u j)
  | 0, _ => ⟨[], r.lots, rfl, rfl, rfl, fun i hi => absurd hi (Nat.not_lt_zero _), fun j hj => h.lt j hj⟩
  | n + 1, hn => by
    obtain ⟨out, ls, h1, h2, h3, h4, h5⟩ := h.spa (n := n) (by omega)
    have h6 := h.smp (i := n) (by omega)
    have h7 := h.sp n (by omega)
    unfold spaM
    rw [h1]
    simp only
    have h8 := h6
    unfold Cr.has at h8
    rw [if_neg (by omega)]
    refine ⟨_, _, rfl, by rw [List.length_append, h2]; rfl, by rw [List.length_set, h3], fun i hi => ?_, fun j hj => ?_⟩
    · unfold getC
      rcases Nat.lt_or_ge i n with hlt | hge
      · rw [List.getElem?_append_left (by omega)]
        exact h4 i hlt
      · obtain rfl : i = n := by omega
        rw [List.getElem?_append_right (by omega), h2, Nat.sub_self]
        exact h6
    · rw [List.length_set] at hj
      rw [getC_set (by omega)]
      split
      · rename_i e
        subst e
        refine cut_has (h5 _ (by omega)) ?_
        unfold Cr.has Cr.wider Cr.plus
        simp only
        omega
      · exact h5 j hj
theorem Fit.spn {r : Rn} {off : Nat → Bool} {lab by_ : Int} {v u : Nat → Int} (h : Fit r off lab by_ v u) : ∃ l, spnM r off lab by_ = (l, true) ∧ l.length = r.smp.length ∧ ∀ i, i < r.smp.length → (getC l i).has (v i) := by
  obtain ⟨out, ls, h1, h2, h3, h4, h5⟩ := h.spa (n := r.smp.length) (Nat.le_refl _)
  unfold spnM
  rw [h1]
  simp only
  have hall : (ls.all fun x => decide (x.lo ≤ x.hi)) = true := by
    rw [List.all_eq_true]
    intro x hx
    obtain ⟨j, hj⟩ := List.mem_iff_getElem?.1 hx
    have hlt := (List.getElem?_eq_some_iff.1 hj).1
    have := h5 j hlt
    unfold getC at this
    rw [hj] at this
    unfold Cr.has at this
    simp only [Option.getD_some] at this
    rw [decide_eq_true_eq]
    omega
  rw [hall]
  refine ⟨_, rfl, ?_, fun i hi => ?_⟩
  · unfold finM
    rw [List.length_append, List.length_map, List.length_range, List.length_drop]
    omega
  · have hg : getC (finM r ls out r.smp.length) i = (getC out i).cut ((getC ls (lotI r i)).wider r.spr) := by
      unfold finM
      conv => lhs; unfold getC
      rw [List.getElem?_append_left (by rw [List.length_map, List.length_range]; exact hi), List.getElem?_map, List.getElem?_range hi]
      rfl
    rw [hg]
    have h7 := h.sp i hi
    have h8 := h5 (lotI r i) (by omega)
    refine cut_has (h4 i hi) ?_
    unfold Cr.has Cr.wider Cr.plus at *
    simp only
    omega
end Go.Proofs.YtaffbiibcfeigaaGreat
/-! Contracts of layer 8 (round): IndexFunc, ContainsFunc, all. Printed by gen_pred.py. -/
namespace Go.Proofs.YtaffbiibcfeigaaGreat
open Go.RowKit
attribute [local simp] Box.purge Site.isLoc
set_option maxRecDepth 10000
set_option linter.unusedSimpArgs false
theorem indexRg_c (l : List PV) (g : FuncId) (fs cs : List PV) (q : PV → Bool) (hq : ∀ x ∈ l, Gives Tryz.prog g (fs ++ [x] ++ cs) (.bool (q x))) (hl : l.length ≤ 1000000) (hc : ∀ x ∈ l, ∃ a b, x = .agg [.int .i64 a, .int .i64 b]) :
    Gives Tryz.prog 252 [.lst false 2 l, .fn g fs cs] (.int .i64 (match l.findIdx? q with | some i => i | none => -1)) := by
  refine calls_of_awpS mixed L252_ok (Nat.le_of_ble_eq_true rfl) ?_
  simp [L252]
  refine awp_loopS (fun n τ => ∃ k : Nat, k ≤ l.length ∧ n = l.length - k ∧ (∀ j x, j < k → l[j]? = some x → q x = false) ∧ τ = ⟨[(0, .pv (.lst false 2 l)), (1, .pv (.fn g fs cs)), (7, .pv (.int .i64 l.length)), (8, .pv (.int .i64 k))], []⟩)
    ⟨l.length, _, Sub.mk (by simp) (by simp), 0, by omega, rfl, (fun j x hj => by omega), rfl⟩ ?_
  rintro J hJ n τ ⟨k, hk, rfl, hinv, rfl⟩
  by_cases hlt : k < l.length
  · have hx : l[k]? = some l[k] := List.getElem?_eq_getElem hlt
    have hm := List.getElem_mem hlt
    generalize l[k] = x at hx hm
    obtain ⟨a, b, rfl⟩ := hc x hm
    have hg := hq _ hm
    have hw : IntKind.i64.wrap ((k : Int) + 1) = ((k + 1 : Nat) : Int) := by rw [wrap64 (by omega)]; omega
    simp [-getElem?_pos, hlt, hx, nblt]
    refine call_gives (k := 0) rfl rfl hg rfl ?_
    cases hb : q _
    · simp [hw]
      exact ⟨_, _, (by omega : l.length - (k + 1) < l.length - k), Sub.mk (by simp) (by simp), hJ _ _ ⟨k + 1, by omega, rfl, fun j x hj hjx => by
        rcases Nat.lt_succ_iff_lt_or_eq.1 hj with h | h
        · exact hinv j x h hjx
        · subst h; rw [hx] at hjx; cases hjx; exact hb, rfl⟩⟩
    · simp [find_at hx hb hinv]
  · have he : k = l.length := by omega
    subst he
    simp [find_none hinv]
theorem anyRg_c (l : List PV) (g : FuncId) (fs cs : List PV) (q : PV → Bool) (hq : ∀ x ∈ l, Gives Tryz.prog g (fs ++ [x] ++ cs) (.bool (q x))) (hl : l.length ≤ 1000000) (hc : ∀ x ∈ l, ∃ a b, x = .agg [.int .i64 a, .int .i64 b]) :
    Gives Tryz.prog 205 [.lst false 2 l, .fn g fs cs] (.bool (l.any q)) := by
  refine calls_of_awpS mixed L205_ok (Nat.le_of_ble_eq_true rfl) ?_
  simp [L205]
  refine call_gives (k := 0) rfl rfl (indexRg_c l g fs cs q hq hl hc) rfl ?_
  cases hf : l.findIdx? q with
  | none =>
    have : l.any q = false := by rw [List.any_eq_false]; intro x hx; simpa using List.findIdx?_eq_none_iff.1 hf x hx
    simp [this]
  | some i =>
    have : l.any q = true := by
      obtain ⟨hi, h1, _⟩ := List.findIdx?_eq_some_iff_getElem.1 hf
      exact List.any_eq_true.2 ⟨_, List.getElem_mem hi, h1⟩
    simp [this]
theorem allRg1_c (x : PV) (g : FuncId) (fs cs : List PV) (b : Bool) (hx : ∃ a b, x = .agg [.int .i64 a, .int .i64 b]) (hq : Gives Tryz.prog g (fs ++ [x] ++ cs) (.bool b)) :
    Gives Tryz.prog 206 [x, .ref [.fn g fs cs]] (.bool (!b)) := by
  obtain ⟨a, b, rfl⟩ := hx
  refine calls_of_awpS mixed L206_ok (Nat.le_of_ble_eq_true rfl) ?_
  simp [L206]
  refine call_gives (k := 0) rfl rfl hq rfl ?_
  simp
theorem allRg_c (l : List PV) (g : FuncId) (fs cs : List PV) (q : PV → Bool) (hq : ∀ x ∈ l, Gives Tryz.prog g (fs ++ [x] ++ cs) (.bool (q x))) (hl : l.length ≤ 1000000) (hc : ∀ x ∈ l, ∃ a b, x = .agg [.int .i64 a, .int .i64 b]) :
    Gives Tryz.prog 153 [.lst false 2 l, .fn g fs cs] (.bool (l.all q)) := by
  refine calls_of_awpS mixed L153_ok (Nat.le_of_ble_eq_true rfl) ?_
  simp [L153]
  refine call_gives (k := 4) rfl rfl (anyRg_c l 206 [] [.ref [.fn g fs cs]] (fun x => !q x) (fun x hx => allRg1_c x g fs cs (q x) (hc x hx) (hq x hx)) hl hc) rfl ?_
  simp [List.not_any_eq_all_not]
theorem indexRl_c (l : List PV) (g : FuncId) (fs cs : List PV) (q : PV → Bool) (hq : ∀ x ∈ l, Gives Tryz.prog g (fs ++ [x] ++ cs) (.bool (q x))) (hl : l.length ≤ 1000000) (hc : ∀ x ∈ l, ∃ a b, x = .agg [.int .i64 a, .lst false 1 b]) :
    Gives Tryz.prog 253 [.lst false 2 l, .fn g fs cs] (.int .i64 (match l.findIdx? q with | some i => i | none => -1)) := by
  refine calls_of_awpS mixed L253_ok (Nat.le_of_ble_eq_true rfl) ?_
  simp [L253]
  refine awp_loopS (fun n τ => ∃ k : Nat, k ≤ l.length ∧ n = l.length - k ∧ (∀ j x, j < k → l[j]? = some x → q x = false) ∧ τ = ⟨[(0, .pv (.lst false 2 l)), (1, .pv (.fn g fs cs)), (7, .pv (.int .i64 l.length)), (8, .pv (.int .i64 k))], []⟩)
    ⟨l.length, _, Sub.mk (by simp) (by simp), 0, by omega, rfl, (fun j x hj => by omega), rfl⟩ ?_
  rintro J hJ n τ ⟨k, hk, rfl, hinv, rfl⟩
  by_cases hlt : k < l.length
  · have hx : l[k]? = some l[k] := List.getElem?_eq_getElem hlt
    have hm := List.getElem_mem hlt
    generalize l[k] = x at hx hm
    obtain ⟨a, b, rfl⟩ := hc x hm
    have hg := hq _ hm
    have hw : IntKind.i64.wrap ((k : Int) + 1) = ((k + 1 : Nat) : Int) := by rw [wrap64 (by omega)]; omega
    simp [-getElem?_pos, hlt, hx, nblt]
    refine call_gives (k := 0) rfl rfl hg rfl ?_
    cases hb : q _
    · simp [hw]
      exact ⟨_, _, (by omega : l.length - (k + 1) < l.length - k), Sub.mk (by simp) (by simp), hJ _ _ ⟨k + 1, by omega, rfl, fun j x hj hjx => by
        rcases Nat.lt_succ_iff_lt_or_eq.1 hj with h | h
        · exact hinv j x h hjx
        · subst h; rw [hx] at hjx; cases hjx; exact hb, rfl⟩⟩
    · simp [find_at hx hb hinv]
  · have he : k = l.length := by omega
    subst he
    simp [find_none hinv]
theorem anyRl_c (l : List PV) (g : FuncId) (fs cs : List PV) (q : PV → Bool) (hq : ∀ x ∈ l, Gives Tryz.prog g (fs ++ [x] ++ cs) (.bool (q x))) (hl : l.length ≤ 1000000) (hc : ∀ x ∈ l, ∃ a b, x = .agg [.int .i64 a, .lst false 1 b]) :
    Gives Tryz.prog 208 [.lst false 2 l, .fn g fs cs] (.bool (l.any q)) := by
  refine calls_of_awpS mixed L208_ok (Nat.le_of_ble_eq_true rfl) ?_
  simp [L208]
  refine call_gives (k := 0) rfl rfl (indexRl_c l g fs cs q hq hl hc) rfl ?_
  cases hf : l.findIdx? q with
  | none =>
    have : l.any q = false := by rw [List.any_eq_false]; intro x hx; simpa using List.findIdx?_eq_none_iff.1 hf x hx
    simp [this]
  | some i =>
    have : l.any q = true := by
      obtain ⟨hi, h1, _⟩ := List.findIdx?_eq_some_iff_getElem.1 hf
      exact List.any_eq_true.2 ⟨_, List.getElem_mem hi, h1⟩
    simp [this]
theorem allRl1_c (x : PV) (g : FuncId) (fs cs : List PV) (b : Bool) (hx : ∃ a b, x = .agg [.int .i64 a, .lst false 1 b]) (hq : Gives Tryz.prog g (fs ++ [x] ++ cs) (.bool b)) :
    Gives Tryz.prog 209 [x, .ref [.fn g fs cs]] (.bool (!b)) := by
  obtain ⟨a, b, rfl⟩ := hx
  refine calls_of_awpS mixed L209_ok (Nat.le_of_ble_eq_true rfl) ?_
  simp [L209]
  refine call_gives (k := 0) rfl rfl hq rfl ?_
  simp
theorem allRl_c (l : List PV) (g : FuncId) (fs cs : List PV) (q : PV → Bool) (hq : ∀ x ∈ l, Gives Tryz.prog g (fs ++ [x] ++ cs) (.bool (q x))) (hl : l.length ≤ 1000000) (hc : ∀ x ∈ l, ∃ a b, x = .agg [.int .i64 a, .lst false 1 b]) :
    Gives Tryz.prog 157 [.lst false 2 l, .fn g fs cs] (.bool (l.all q)) := by
  refine calls_of_awpS mixed L157_ok (Nat.le_of_ble_eq_true rfl) ?_
  simp [L157]
  refine call_gives (k := 4) rfl rfl (anyRl_c l 209 [] [.ref [.fn g fs cs]] (fun x => !q x) (fun x hx => allRl1_c x g fs cs (q x) (hc x hx) (hq x hx)) hl hc) rfl ?_
  simp [List.not_any_eq_all_not]
theorem anyRi_c (l : List PV) (g : FuncId) (fs cs : List PV) (q : PV → Bool) (hq : ∀ x ∈ l, Gives Tryz.prog g (fs ++ [x] ++ cs) (.bool (q x))) (hl : l.length ≤ 1000000) (hc : ∀ x ∈ l, ∃ a, x = .int .i64 a) :
    Gives Tryz.prog 185 [.lst false 1 l, .fn g fs cs] (.bool (l.any q)) := by
  refine calls_of_awpS mixed L185_ok (Nat.le_of_ble_eq_true rfl) ?_
  simp [L185]
  refine call_gives (k := 0) rfl rfl (indexInt_c l g fs cs q hq hl hc) rfl ?_
  cases hf : l.findIdx? q with
  | none =>
    have : l.any q = false := by rw [List.any_eq_false]; intro x hx; simpa using List.findIdx?_eq_none_iff.1 hf x hx
    simp [this]
  | some i =>
    have : l.any q = true := by
      obtain ⟨hi, h1, _⟩ := List.findIdx?_eq_some_iff_getElem.1 hf
      exact List.any_eq_true.2 ⟨_, List.getElem_mem hi, h1⟩
    simp [this]
theorem allRi1_c (x : PV) (g : FuncId) (fs cs : List PV) (b : Bool) (hx : ∃ a, x = .int .i64 a) (hq : Gives Tryz.prog g (fs ++ [x] ++ cs) (.bool b)) :
    Gives Tryz.prog 207 [x, .ref [.fn g fs cs]] (.bool (!b)) := by
  obtain ⟨a, rfl⟩ := hx
  refine calls_of_awpS mixed L207_ok (Nat.le_of_ble_eq_true rfl) ?_
  simp [L207]
  refine call_gives (k := 0) rfl rfl hq rfl ?_
  simp
theorem allRi_c (l : List PV) (g : FuncId) (fs cs : List PV) (q : PV → Bool) (hq : ∀ x ∈ l, Gives Tryz.prog g (fs ++ [x] ++ cs) (.bool (q x))) (hl : l.length ≤ 1000000) (hc : ∀ x ∈ l, ∃ a, x = .int .i64 a) :
    Gives Tryz.prog 155 [.lst false 1 l, .fn g fs cs] (.bool (l.all q)) := by
  refine calls_of_awpS mixed L155_ok (Nat.le_of_ble_eq_true rfl) ?_
  simp [L155]
  refine call_gives (k := 4) rfl rfl (anyRi_c l 207 [] [.ref [.fn g fs cs]] (fun x => !q x) (fun x hx => allRi1_c x g fs cs (q x) (hc x hx) (hq x hx)) hl hc) rfl ?_
  simp [List.not_any_eq_all_not]
end Go.Proofs.YtaffbiibcfeigaaGreat
/-! Contracts of layer 8 (round): small ones; the error of a valid round. -/
namespace Go.Proofs.YtaffbiibcfeigaaGreat
open Go.RowKit
attribute [local simp] Box.purge Site.isLoc
set_option maxRecDepth 10000
set_option linter.unusedSimpArgs false
def Lb.pv (x : Lb) : PV := .agg [.int .i64 x.tol, .lst false 1 (x.rds.map intP)]
def lotsP (l : List Cr) : PV := .lst false 2 (l.map Cr.pv)
def intsP (l : List Int) : PV := .lst false 1 (l.map intP)
def labsP (l : List Lb) : PV := .lst false 2 (l.map Lb.pv)
def Rn.pvs (r : Rn) : List PV := [lotsP r.lots, intsP r.smp, .int .i64 r.spr, labsP r.labs]
def Rn.pv (r : Rn) : PV := .agg r.pvs
def Cr.lotB (r : Cr) : Bool := decide (0 ≤ r.lo) && decide (r.lo ≤ r.hi) && decide (r.hi ≤ 1000)
def Lb.okB (n : Nat) (x : Lb) : Bool := inB x.tol 0 100 && decide (x.rds.length = n) && x.rds.all fun y => inB y (-1) 1000
structure Rn.ok (r : Rn) : Prop where
  l0 : r.lots ≠ []
  l4 : r.lots.length ≤ 4
  s8 : r.smp.length ≤ 8
  b6 : r.labs.length ≤ 6
  l : r.lots.all Cr.lotB = true
  s : (r.smp.all fun n => inB n 0 ((r.lots.length : Int) - 1)) = true
  p : inB r.spr 0 100 = true
  b : r.labs.all (Lb.okB r.smp.length) = true
theorem wwithin_c (n lo hi : Int) : Gives Tryz.prog 60 [.int .i64 n, .int .i64 lo, .int .i64 hi] (.bool (inB n lo hi)) := by
  refine calls_of_awpS mixed L60_ok (Nat.le_of_ble_eq_true rfl) ?_
  by_cases h : lo ≤ n
  all_goals simp [h, L60, inB]
theorem wtol_c (n : Int) : Gives Tryz.prog 156 [.int .i64 n] (.bool (inB n 0 100)) := by
  refine calls_of_awpS mixed L156_ok (Nat.le_of_ble_eq_true rfl) ?_
  simp [L156]
  refine call_gives (k := 0) rfl rfl (wwithin_c n 0 100) rfl ?_
  simp
theorem wlot_c (r : Cr) : Gives Tryz.prog 154 [r.pv] (.bool r.lotB) := by
  refine calls_of_awpS mixed L154_ok (Nat.le_of_ble_eq_true rfl) ?_
  cases e1 : decide (0 ≤ r.lo)
  · simp [-getElem?_pos, -decide_eq_true_eq, -decide_eq_false_iff_not, L154, Cr.pv, Cr.lotB, e1]
  cases e2 : decide (r.lo ≤ r.hi)
  · simp [-getElem?_pos, -decide_eq_true_eq, -decide_eq_false_iff_not, L154, Cr.pv, Cr.lotB, e1, e2]
  simp [-getElem?_pos, -decide_eq_true_eq, -decide_eq_false_iff_not, L154, Cr.pv, Cr.lotB, e1, e2]
theorem wempty_c (r : Cr) : Gives Tryz.prog 97 [r.pv] (.bool (decide (r.hi < r.lo))) := by
  refine calls_of_awpS mixed L97_ok (Nat.le_of_ble_eq_true rfl) ?_
  simp [-getElem?_pos, L97, Cr.pv]
theorem wlow_c (r : Cr) : Gives Tryz.prog 149 [r.pv] (.int .i64 r.lo) := by
  refine calls_of_awpS mixed L149_ok (Nat.le_of_ble_eq_true rfl) ?_
  simp [-getElem?_pos, L149, Cr.pv]
theorem whigh_c (r : Cr) : Gives Tryz.prog 150 [r.pv] (.int .i64 r.hi) := by
  refine calls_of_awpS mixed L150_ok (Nat.le_of_ble_eq_true rfl) ?_
  simp [-getElem?_pos, L150, Cr.pv]
theorem wwider_c (r : Cr) (n : Int) (h1 : IntKind.i64.wrap (r.lo - n) = r.lo - n) (h2 : IntKind.i64.wrap (r.hi + n) = r.hi + n) : Gives Tryz.prog 98 [r.pv, .int .i64 n] (r.wider n).pv := by
  refine calls_of_awpS mixed L98_ok (Nat.le_of_ble_eq_true rfl) ?_
  have e : r.lo + -n = r.lo - n := by omega
  simp [-getElem?_pos, L98, Cr.pv, h1, h2, Cr.wider, Cr.plus, e]
theorem wnobody_c : Gives Tryz.prog 58 [] (.agg [.int .i64 (-1), .int .i64 0]) := by
  refine calls_of_awpS mixed L58_ok (Nat.le_of_ble_eq_true rfl) ?_
  simp [-getElem?_pos, L58]
theorem wmost_c (a b : Int) : Gives Tryz.prog 151 [.lst false 1 [.int .i64 a, .int .i64 b]] (.int .i64 (max a b)) := by
  have hm := sMax_c a b
  refine calls_of_awpS mixed L151_ok (Nat.le_of_ble_eq_true rfl) ?_
  simp [-getElem?_pos, L151]
  refine call_gives (k := 0) (fs := []) (xs := [.lst false 1 [.int .i64 a, .int .i64 b]]) (cs := []) rfl rfl hm rfl ?_
  simp [-getElem?_pos]
theorem wleast_c (a b : Int) : Gives Tryz.prog 61 [.lst false 1 [.int .i64 a, .int .i64 b]] (.int .i64 (min a b)) := by
  have hm := sMin_c a b
  refine calls_of_awpS mixed L61_ok (Nat.le_of_ble_eq_true rfl) ?_
  simp [-getElem?_pos, L61]
  refine call_gives (k := 0) (fs := []) (xs := [.lst false 1 [.int .i64 a, .int .i64 b]]) (cs := []) rfl rfl hm rfl ?_
  simp [-getElem?_pos]
def wlotQ : PV → Bool
  | .agg [.int _ a, .int _ b] => Cr.lotB ⟨a, b⟩
  | _ => false
theorem wlots_c (l : List Cr) (hl : l.length ≤ 1000) : Gives Tryz.prog 153 [lotsP l, .fn 154 [] []] (.bool (l.all Cr.lotB)) := by
  have a1 := allRg_c (l.map Cr.pv) 154 [] [] wlotQ (fun x hx => by
    obtain ⟨y, _, rfl⟩ := List.mem_map.1 hx
    exact wlot_c y) (by rw [List.length_map]; omega) (fun x hx => by
    obtain ⟨y, _, rfl⟩ := List.mem_map.1 hx
    exact ⟨_, _, rfl⟩)
  rw [List.all_map] at a1
  exact a1
def inQ (lo hi : Int) : PV → Bool
  | .int _ n => inB n lo hi
  | _ => false
def rnR (r : Rn) : PV := .ref r.pvs
theorem wsample_c (r : Rn) (hl : r.lots.length ≤ 1000) (n : Int) : Gives Tryz.prog 152 [.int .i64 n, rnR r] (.bool (inB n 0 ((r.lots.length : Int) - 1))) := by
  have a1 := wwithin_c n 0 ((r.lots.length : Int) - 1)
  have hw : IntKind.i64.wrap ((r.lots.length : Int) - 1) = (r.lots.length : Int) - 1 := wrap64 (by omega)
  refine calls_of_awpS mixed L152_ok (Nat.le_of_ble_eq_true rfl) ?_
  simp [-getElem?_pos, L152, rnR, Rn.pvs, lotsP, hw]
  refine call_gives (k := 0) rfl rfl a1 rfl ?_
  simp
theorem wsamples_c (r : Rn) (hl : r.lots.length ≤ 1000) (hs : r.smp.length ≤ 1000) : Gives Tryz.prog 155 [intsP r.smp, .fn 152 [] [rnR r]] (.bool (r.smp.all fun n => inB n 0 ((r.lots.length : Int) - 1))) := by
  have a1 := allRi_c (r.smp.map intP) 152 [] [rnR r] (inQ 0 ((r.lots.length : Int) - 1)) (fun x hx => by
    obtain ⟨y, _, rfl⟩ := List.mem_map.1 hx
    exact wsample_c r hl y) (by rw [List.length_map]; omega) (fun x hx => by
    obtain ⟨y, _, rfl⟩ := List.mem_map.1 hx
    exact ⟨_, rfl⟩)
  rw [List.all_map] at a1
  exact a1
theorem wreading_c (n : Int) : Gives Tryz.prog 210 [.int .i64 n] (.bool (inB n (-1) 1000)) := by
  refine calls_of_awpS mixed L210_ok (Nat.le_of_ble_eq_true rfl) ?_
  simp [L210]
  refine call_gives (k := 0) rfl rfl (wwithin_c n (-1) 1000) rfl ?_
  simp
theorem wreadings_c (l : List Int) (hl : l.length ≤ 1000) : Gives Tryz.prog 155 [intsP l, .fn 210 [] []] (.bool (l.all fun n => inB n (-1) 1000)) := by
  have a1 := allRi_c (l.map intP) 210 [] [] (inQ (-1) 1000) (fun x hx => by
    obtain ⟨y, _, rfl⟩ := List.mem_map.1 hx
    exact wreading_c y) (by rw [List.length_map]; omega) (fun x hx => by
    obtain ⟨y, _, rfl⟩ := List.mem_map.1 hx
    exact ⟨_, rfl⟩)
  rw [List.all_map] at a1
  exact a1
theorem wlab_c (r : Rn) (x : Lb) (hs : x.rds.length ≤ 1000) : Gives Tryz.prog 158 [r.pv, x.pv] (.bool (x.okB r.smp.length)) := by
  have a1 := wtol_c x.tol
  have a2 := wreadings_c x.rds hs
  have hok : x.okB r.smp.length = (inB x.tol 0 100 && decide (x.rds.length = r.smp.length) && x.rds.all fun y => inB y (-1) 1000) := rfl
  generalize (x.rds.all fun y => inB y (-1) 1000) = A at *
  refine calls_of_awpS mixed L158_ok (Nat.le_of_ble_eq_true rfl) ?_
  rw [hok]
  simp [-getElem?_pos, L158, Rn.pv, Rn.pvs, Lb.pv, lotsP, intsP, labsP]
  refine call_gives (k := 0) rfl rfl a1 rfl ?_
  cases e1 : inB x.tol 0 100
  · simp [-getElem?_pos]
  cases e2 : decide (x.rds.length = r.smp.length)
  · have e2' : ¬ x.rds.length = r.smp.length := of_decide_eq_false e2
    have e2i : ¬ (x.rds.length : Int) = (r.smp.length : Int) := by omega
    simp [-getElem?_pos, e2i, e2]
  have e2' : x.rds.length = r.smp.length := of_decide_eq_true e2
  simp [-getElem?_pos, e2']
  refine call_gives (k := 0) (fs := []) (xs := [intsP x.rds, .fn 210 [] []]) (cs := []) rfl rfl a2 rfl ?_
  simp [-getElem?_pos]
def wlabQ (n : Nat) : PV → Bool
  | .agg [.int _ t, .lst _ _ l] => inB t 0 100 && decide (l.length = n) && l.all (inQ (-1) 1000)
  | _ => false
theorem wlabs_c (r : Rn) (hb : r.labs.length ≤ 1000) (hl : ∀ x ∈ r.labs, x.rds.length ≤ 1000) : Gives Tryz.prog 157 [labsP r.labs, .fn 158 [r.pv] []] (.bool (r.labs.all (Lb.okB r.smp.length))) := by
  have e0 : ∀ x : Lb, wlabQ r.smp.length x.pv = x.okB r.smp.length := fun x => by
    show (inB x.tol 0 100 && decide ((x.rds.map intP).length = r.smp.length) && (x.rds.map intP).all (inQ (-1) 1000)) = _
    rw [List.length_map, List.all_map]
    rfl
  have a1 := allRl_c (r.labs.map Lb.pv) 158 [r.pv] [] (wlabQ r.smp.length) (fun x hx => by
    obtain ⟨y, hy, rfl⟩ := List.mem_map.1 hx
    rw [e0]
    exact wlab_c r y (hl y hy)) (by rw [List.length_map]; omega) (fun x hx => by
    obtain ⟨y, _, rfl⟩ := List.mem_map.1 hx
    exact ⟨_, _, rfl⟩)
  rw [List.all_map] at a1
  have e1 : r.labs.all (wlabQ r.smp.length ∘ Lb.pv) = r.labs.all (Lb.okB r.smp.length) := by
    congr 1
    funext x
    exact e0 x
  rw [e1] at a1
  exact a1
theorem wcheck_c (r : Rn) (h : r.ok) : Gives Tryz.prog 99 [r.pv] (.int .i64 0) := by
  have h4 := h.l4
  have h8 := h.s8
  have h6 := h.b6
  have hle : ∀ x ∈ r.labs, x.rds.length ≤ 1000 := fun x hx => by
    have := List.all_eq_true.1 h.b x hx
    unfold Lb.okB at this
    simp only [Bool.and_eq_true, decide_eq_true_eq] at this
    omega
  have a1 := wlots_c r.lots (by omega)
  have a2 := wsamples_c r (by omega) (by omega)
  have a3 := wtol_c r.spr
  have a4 := wlabs_c r (by omega) hle
  rw [h.l] at a1
  rw [h.s] at a2
  rw [h.p] at a3
  rw [h.b] at a4
  have d1 : decide ((4 : Int) < (r.lots.length : Int)) = false := decide_eq_false (by omega)
  have d2 : decide ((8 : Int) < (r.smp.length : Int)) = false := decide_eq_false (by omega)
  have d3 : decide ((6 : Int) < (r.labs.length : Int)) = false := decide_eq_false (by omega)
  have d4 : ¬ (r.lots.length : Int) = 0 := by
    have := List.length_pos_iff.2 h.l0
    omega
  have d4' : decide ((r.lots.length : Int) = 0) = false := decide_eq_false d4
  refine calls_of_awpS mixed L99_ok (Nat.le_of_ble_eq_true rfl) ?_
  simp [-getElem?_pos, -decide_eq_true_eq, -decide_eq_false_iff_not, L99, Rn.pv, Rn.pvs, lotsP, intsP, labsP, d1, d2, d3, d4', h.l0]
  refine call_gives (k := 0) (fs := []) (xs := [lotsP r.lots, .fn 154 [] []]) (cs := []) rfl rfl a1 rfl ?_
  simp [-getElem?_pos, -decide_eq_true_eq, -decide_eq_false_iff_not]
  refine call_gives (k := 4) (fs := []) (xs := [intsP r.smp, .fn 152 [] [rnR r]]) (cs := []) rfl rfl a2 rfl ?_
  simp [-getElem?_pos, -decide_eq_true_eq, -decide_eq_false_iff_not]
  refine call_gives (k := 0) rfl rfl a3 rfl ?_
  simp [-getElem?_pos, -decide_eq_true_eq, -decide_eq_false_iff_not]
  refine call_gives (k := 0) (fs := []) (xs := [labsP r.labs, .fn 158 [r.pv] []]) (cs := []) rfl rfl a4 rfl ?_
  simp [-getElem?_pos]
end Go.Proofs.YtaffbiibcfeigaaGreat
/-! Layer 8's law and reference (round): Thin, Fault, words. -/
namespace Go.Proofs.YtaffbiibcfeigaaGreat
open Go.RowKit
set_option maxRecDepth 10000
set_option linter.unusedSimpArgs false
attribute [local simp] Box.purge Site.isLoc
theorem win_c (n lo hi : Int) : Gives Tryz.prog 17 [.int .i64 n, .int .i64 lo, .int .i64 hi] (.bool (inB n lo hi)) := by
  refine calls_of_awpS mixed L17_ok (Nat.le_of_ble_eq_true rfl) ?_
  by_cases h : lo ≤ n
  all_goals simp [h, L17, inB]
theorem word8_c (ws : List Int) (hw : ∀ y ∈ ws, 0 ≤ y ∧ y < 65536) (i : Int) (hi : 0 ≤ i) : Gives Tryz.prog 49 [wsP ws, .int .i64 i] (.int .i64 (wordM ws i)) := by
  refine calls_of_awpS mixed L49_ok (Nat.le_of_ble_eq_true rfl) ?_
  by_cases hn : ws = []
  · subst hn
    simp [-getElem?_pos, L49, wsP, wordM]
  have hpos : 0 < ws.length := List.length_pos_iff.2 hn
  have hb := tmod_bd hi (show (0 : Int) < (ws.length : Int) by omega)
  obtain ⟨j, hj⟩ : ∃ j : Nat, i.tmod (ws.length : Int) = j := ⟨(i.tmod (ws.length : Int)).toNat, by omega⟩
  have hjl : j < ws.length := by omega
  obtain ⟨y, hy⟩ : ∃ y, ws[j]? = some y := ⟨_, List.getElem?_eq_getElem hjl⟩
  have hgy : (ws.map (PV.int .u16))[j]? = some (.int .u16 y) := by rw [List.getElem?_map, hy]; rfl
  have hyb := hw y (List.mem_of_getElem? hy)
  have hM : wordM ws i = y := by unfold wordM; rw [hj, Int.toNat_natCast, hy]; rfl
  have hwr : IntKind.i64.wrap y = y := wrap64 (by omega)
  rw [hM]
  simp [-getElem?_pos, -List.getElem?_map, L49, wsP, hn, hj, hjl, hgy, hwr]
/-- A round that is not too great for the statements. -/
def Rn.thinB (r : Rn) : Bool := (r.labs.take 9).all (fun x => decide (x.rds.length ≤ 10)) && (decide ((r.lots.length : Int) ≤ 6) && decide ((r.smp.length : Int) ≤ 10) && decide ((r.labs.length : Int) ≤ 8))
def rcells (r : Rn) : List AV := [.pv (lotsP r.lots), .pv (intsP r.smp), .pv (.int .i64 r.spr), .pv (labsP r.labs)]
def thK (r : Rn) (k : Nat) : AS := ⟨[(1, .ptr (.loc 1 0) 0), (3, .pv (.int .i64 k))], [(.loc 1 0, .cells (rcells r))]⟩
set_option maxHeartbeats 4000000 in
theorem wthin_c (r : Rn) : Gives Tryz.prog 9 [r.pv] (.bool r.thinB) := by
  refine calls_of_awpS mixed L9_ok (Nat.le_of_ble_eq_true rfl) ?_
  generalize hP : r.thinB = P
  simp [-getElem?_pos, L9, Rn.pv, Rn.pvs]
  refine awp_loopS (fun m τ => ∃ k : Nat, k ≤ 9 ∧ k ≤ r.labs.length ∧ m = 9 - k ∧ (∀ (j : Nat) (x : Lb), j < k → r.labs[j]? = some x → x.rds.length ≤ 10) ∧ τ = thK r k) ⟨9, thK r 0, Sub.mk (by simp [thK]) (by simp [thK, rcells]), 0, by omega, Nat.zero_le _, rfl, (fun j x hj => by omega), rfl⟩ ?_
  rintro J hJ m τ ⟨k, hk9, hkl, rfl, hinv, rfl⟩
  have hend : (¬ (k < r.labs.length) ∨ ¬ (k < 9)) → ((r.labs.take 9).all (fun x => decide (x.rds.length ≤ 10))) = true := fun h => by
    rw [List.all_eq_true]
    intro x hx
    obtain ⟨j, hj⟩ := List.mem_iff_getElem?.1 hx
    rw [List.getElem?_take] at hj
    split at hj
    · have hjl := (List.getElem?_eq_some_iff.1 hj).1
      exact decide_eq_true (hinv j x (by omega) hj)
    · cases hj
  have hres : ((r.labs.take 9).all (fun x => decide (x.rds.length ≤ 10))) = true → P = (decide ((r.lots.length : Int) ≤ 6) && decide ((r.smp.length : Int) ≤ 10) && decide ((r.labs.length : Int) ≤ 8)) := fun h => by
    rw [← hP]; unfold Rn.thinB; rw [h, Bool.true_and]
  by_cases hlt : k < r.labs.length
  · obtain ⟨x, hx⟩ : ∃ x, r.labs[k]? = some x := ⟨r.labs[k], List.getElem?_eq_getElem hlt⟩
    have hgx : (r.labs.map Lb.pv)[k]? = some (.agg [.int .i64 x.tol, .lst false 1 (x.rds.map intP)]) := by rw [List.getElem?_map, hx]; rfl
    by_cases h9 : k < 9
    · have hw := wrapK (k := k) (by omega)
      cases e1 : decide ((10 : Int) < (x.rds.length : Int))
      · have hround := hJ _ _ ⟨k + 1, by omega, hlt, rfl, (fun j y hj hy => by
          rcases Nat.lt_or_ge j k with h1 | h1
          · exact hinv j y h1 hy
          · obtain rfl : j = k := by omega
            rw [hx] at hy
            cases hy
            have := of_decide_eq_false e1
            omega), rfl⟩
        have hmeas : 9 - (k + 1) < 9 - k := by omega
        have h9' : (k : Int) < 9 := by omega
        simp [-getElem?_pos, -List.getElem?_map, -decide_eq_true_eq, -decide_eq_false_iff_not, thK, rcells, labsP, hlt, h9', h9, hgx, e1, hw]
        exact ⟨_, _, hmeas, Sub.mk (by simp [thK]) (by simp [thK, rcells, labsP]), hround⟩
      · have hPf : P = false := by
          rw [← hP]
          unfold Rn.thinB
          rw [Bool.and_eq_false_iff]
          refine .inl ?_
          rw [List.all_eq_false]
          refine ⟨x, List.mem_of_getElem? (i := k) (by rw [List.getElem?_take, if_pos h9]; exact hx), ?_⟩
          have := of_decide_eq_true e1
          simp only [decide_eq_true_eq]
          omega
        have h9' : (k : Int) < 9 := by omega
        simp [-getElem?_pos, -List.getElem?_map, -decide_eq_true_eq, -decide_eq_false_iff_not, thK, rcells, labsP, hlt, h9', h9, hgx, e1, hPf]
    · have hP2 := hres (hend (.inr h9))
      have h9' : ¬ (k : Int) < 9 := by omega
      cases d1 : decide ((r.lots.length : Int) ≤ 6)
      · simp [-getElem?_pos, -List.getElem?_map, -decide_eq_true_eq, -decide_eq_false_iff_not, thK, rcells, labsP, lotsP, intsP, hlt, h9', h9, d1, hP2]
      cases d2 : decide ((r.smp.length : Int) ≤ 10)
      · simp [-getElem?_pos, -List.getElem?_map, -decide_eq_true_eq, -decide_eq_false_iff_not, thK, rcells, labsP, lotsP, intsP, hlt, h9', h9, d1, d2, hP2]
      simp [-getElem?_pos, -List.getElem?_map, -decide_eq_true_eq, -decide_eq_false_iff_not, thK, rcells, labsP, lotsP, intsP, hlt, h9', h9, d1, d2, hP2]
  · have hP2 := hres (hend (.inl hlt))
    cases d1 : decide ((r.lots.length : Int) ≤ 6)
    · simp [-getElem?_pos, -List.getElem?_map, -decide_eq_true_eq, -decide_eq_false_iff_not, thK, rcells, labsP, lotsP, intsP, hlt, d1, hP2]
    cases d2 : decide ((r.smp.length : Int) ≤ 10)
    · simp [-getElem?_pos, -List.getElem?_map, -decide_eq_true_eq, -decide_eq_false_iff_not, thK, rcells, labsP, lotsP, intsP, hlt, d1, d2, hP2]
    simp [-getElem?_pos, -List.getElem?_map, -decide_eq_true_eq, -decide_eq_false_iff_not, thK, rcells, labsP, lotsP, intsP, hlt, d1, d2, hP2]
/-- The error of a round. -/
def Rn.bigB (r : Rn) : Bool := decide ((4 : Int) < (r.lots.length : Int)) || decide ((8 : Int) < (r.smp.length : Int)) || decide ((6 : Int) < (r.labs.length : Int))
def Rn.okB (r : Rn) : Bool := !decide ((r.lots.length : Int) = 0) && inB r.spr 0 100 && r.lots.all Cr.lotB && (r.smp.all fun n => inB n 0 ((r.lots.length : Int) - 1)) && r.labs.all (Lb.okB r.smp.length)
def Rn.fault (r : Rn) : Int := if r.bigB = true then 3 else if r.okB = true then 0 else 1
theorem Rn.fault_ok {r : Rn} (h : r.fault = 0) : r.ok := by
  unfold Rn.fault at h
  split at h
  · cases h
  rename_i hb
  split at h
  · rename_i ho
    unfold Rn.bigB at hb
    unfold Rn.okB at ho
    simp only [Bool.or_eq_true, decide_eq_true_eq, not_or, Bool.and_eq_true, Bool.not_eq_true', decide_eq_false_iff_not] at hb ho
    exact ⟨fun e => ho.1.1.1.1 (by rw [e]; rfl), by omega, by omega, by omega, ho.1.1.2, ho.1.2, ho.1.1.1.2, ho.2⟩
  · cases h
def faB (r : Rn) : List (Site × Box) := [(.loc 1 0, .cells (rcells r))]
def faK (r : Rn) (t k : Nat) : AS := ⟨[(1, .ptr (.loc 1 0) 0), (t, .pv (.int .i64 k))], faB r⟩
def faI (r : Rn) (x : Lb) (k i : Nat) : AS := ⟨[(1, .ptr (.loc 1 0) 0), (5, .pv (.int .i64 k)), (6, .ptr (.loc 6 0) 0), (7, .pv (.int .i64 i))], (.loc 6 0, .cells [.pv (.int .i64 x.tol), .pv (.lst false 1 (x.rds.map intP))]) :: faB r⟩
set_option maxHeartbeats 16000000 in
theorem wfault_c (r : Rn) (h1 : r.lots.length ≤ 1000) (h2 : r.smp.length ≤ 1000) (h3 : r.labs.length ≤ 1000) : Gives Tryz.prog 10 [r.pv] (.int .i64 r.fault) := by
  have hbad : r.bigB = false → r.okB = false → r.fault = 1 := fun a b => by unfold Rn.fault; rw [a, b]; rfl
  have hw0 : IntKind.i64.wrap ((r.lots.length : Int) - 1) = (r.lots.length : Int) - 1 := wrap64 (by omega)
  refine calls_of_awpS mixed L10_ok (Nat.le_of_ble_eq_true rfl) ?_
  generalize hF : r.fault = F at *
  simp [-getElem?_pos, -decide_eq_true_eq, -decide_eq_false_iff_not, L10, Rn.pv, Rn.pvs, lotsP, intsP, labsP]
  cases d1 : decide ((4 : Int) < (r.lots.length : Int))
  case true =>
    have : F = 3 := by rw [← hF]; unfold Rn.fault Rn.bigB; rw [d1]; rfl
    simp [-getElem?_pos, -decide_eq_true_eq, -decide_eq_false_iff_not, d1, this]
  cases d2 : decide ((8 : Int) < (r.smp.length : Int))
  case true =>
    have : F = 3 := by rw [← hF]; unfold Rn.fault Rn.bigB; rw [d1, d2]; rfl
    simp [-getElem?_pos, -decide_eq_true_eq, -decide_eq_false_iff_not, d1, d2, this]
  cases d3 : decide ((6 : Int) < (r.labs.length : Int))
  case true =>
    have : F = 3 := by rw [← hF]; unfold Rn.fault Rn.bigB; rw [d1, d2, d3]; rfl
    simp [-getElem?_pos, -decide_eq_true_eq, -decide_eq_false_iff_not, d1, d2, d3, this]
  have hbig : r.bigB = false := by unfold Rn.bigB; rw [d1, d2, d3]; rfl
  have hbad := hbad hbig
  cases e1 : decide ((r.lots.length : Int) = 0)
  case true =>
    have : F = 1 := hbad (by unfold Rn.okB; rw [e1]; rfl)
    have e1' : r.lots = [] := List.length_eq_zero_iff.1 (by have := of_decide_eq_true e1; omega)
    simp [-getElem?_pos, -decide_eq_true_eq, -decide_eq_false_iff_not, d1, d2, d3, e1, e1', this]
  have e1' : ¬ r.lots = [] := fun e => by rw [e] at e1; simp at e1
  have a1 := win_c r.spr 0 100
  simp [-getElem?_pos, -decide_eq_true_eq, -decide_eq_false_iff_not, d1, d2, d3, e1, e1']
  refine call_gives (k := 0) rfl rfl a1 rfl ?_
  cases e2 : inB r.spr 0 100
  · have : F = 1 := hbad (by unfold Rn.okB; rw [e1, e2]; rfl)
    simp [-getElem?_pos, -decide_eq_true_eq, -decide_eq_false_iff_not, this]
  simp [-getElem?_pos, -decide_eq_true_eq, -decide_eq_false_iff_not]
  refine awp_loopS (fun m τ => ∃ k : Nat, k ≤ r.lots.length ∧ m = r.lots.length - k ∧ (∀ (j : Nat) (x : Cr), j < k → r.lots[j]? = some x → x.lotB = true) ∧ τ = faK r 3 k) ⟨r.lots.length, faK r 3 0, Sub.mk (by simp [faK]) (by simp [faK, faB, rcells, lotsP, intsP, labsP]), 0, Nat.zero_le _, rfl, (fun j x hj => by omega), rfl⟩ ?_
  rintro J hJ m τ ⟨k, hk, rfl, hinv, rfl⟩
  by_cases hlt : k < r.lots.length
  · obtain ⟨x, hx⟩ : ∃ x, r.lots[k]? = some x := ⟨r.lots[k], List.getElem?_eq_getElem hlt⟩
    have hgx : (r.lots.map Cr.pv)[k]? = some (.agg [.int .i64 x.lo, .int .i64 x.hi]) := by rw [List.getElem?_map, hx]; rfl
    have hw := wrapK (k := k) (by omega)
    have hmeas : r.lots.length - (k + 1) < r.lots.length - k := by omega
    have hno : x.lotB = false → F = 1 := fun h => hbad (by
      unfold Rn.okB
      have : r.lots.all Cr.lotB = false := by rw [List.all_eq_false]; exact ⟨x, List.mem_of_getElem? hx, by simp [h]⟩
      rw [this]
      simp)
    have hyes : x.lotB = true → J (r.lots.length - (k + 1)) (faK r 3 (k + 1)) := fun h => hJ _ _ ⟨k + 1, hlt, rfl, (fun j y hj hy => by
      rcases Nat.lt_or_ge j k with h1 | h1
      · exact hinv j y h1 hy
      · obtain rfl : j = k := by omega
        rw [hx] at hy
        cases hy
        exact h), rfl⟩
    have a2 := win_c x.lo 0 x.hi
    have hlb : x.lotB = (inB x.lo 0 x.hi && decide (x.hi ≤ 1000)) := rfl
    clear hJ hinv
    simp [-getElem?_pos, -List.getElem?_map, -decide_eq_true_eq, -decide_eq_false_iff_not, faK, faB, rcells, lotsP, intsP, labsP, hlt, hgx]
    refine call_give (k := 0) rfl rfl a2 rfl ?_
    cases e3 : inB x.lo 0 x.hi
    · have : F = 1 := hno (by rw [hlb, e3]; rfl)
      simp [-getElem?_pos, -decide_eq_true_eq, -decide_eq_false_iff_not, this]
    cases e4 : decide ((1000 : Int) < x.hi)
    case true =>
      have : F = 1 := hno (by rw [hlb, e3, decide_eq_false (by have := of_decide_eq_true e4; omega)]; rfl)
      simp [-getElem?_pos, -List.getElem?_map, -decide_eq_true_eq, -decide_eq_false_iff_not, this, hlt, hgx, e4]
    have hround := hyes (by rw [hlb, e3, decide_eq_true (by have := of_decide_eq_false e4; omega)]; rfl)
    simp [-getElem?_pos, -List.getElem?_map, -decide_eq_true_eq, -decide_eq_false_iff_not, hlt, hgx, e4, hw]
    exact ⟨_, _, hmeas, Sub.mk (by simp [faK]) (by simp [faK, faB, rcells, lotsP, intsP, labsP]), hround⟩
  have he : k = r.lots.length := by omega
  subst he
  have hlots : r.lots.all Cr.lotB = true := by
    rw [List.all_eq_true]
    intro x hx
    obtain ⟨j, hj⟩ := List.mem_iff_getElem?.1 hx
    exact hinv j x (List.getElem?_eq_some_iff.1 hj).1 hj
  clear hJ hinv
  simp [-getElem?_pos, -List.getElem?_map, -decide_eq_true_eq, -decide_eq_false_iff_not, faK, faB, rcells, lotsP, intsP, labsP]
  refine awp_loopS (fun m τ => ∃ k : Nat, k ≤ r.smp.length ∧ m = r.smp.length - k ∧ (∀ (j : Nat) (x : Int), j < k → r.smp[j]? = some x → inB x 0 ((r.lots.length : Int) - 1) = true) ∧ τ = faK r 4 k) ⟨r.smp.length, faK r 4 0, Sub.mk (by simp [faK]) (by simp [faK, faB, rcells, lotsP, intsP, labsP]), 0, Nat.zero_le _, rfl, (fun j x hj => by omega), rfl⟩ ?_
  rintro J hJ m τ ⟨k, hk, rfl, hinv, rfl⟩
  by_cases hlt : k < r.smp.length
  · obtain ⟨x, hx⟩ : ∃ x, r.smp[k]? = some x := ⟨r.smp[k], List.getElem?_eq_getElem hlt⟩
    have hgx : (r.smp.map intP)[k]? = some (.int .i64 x) := by rw [List.getElem?_map, hx]; rfl
    have hw := wrapK (k := k) (by omega)
    have hmeas : r.smp.length - (k + 1) < r.smp.length - k := by omega
    have a2 := win_c x 0 ((r.lots.length : Int) - 1)
    simp [-getElem?_pos, -List.getElem?_map, -decide_eq_true_eq, -decide_eq_false_iff_not, faK, faB, rcells, lotsP, intsP, labsP, hlt, hgx, hw0]
    refine call_gives (k := 0) rfl rfl a2 rfl ?_
    cases e3 : inB x 0 ((r.lots.length : Int) - 1)
    · have : F = 1 := hbad (by
        unfold Rn.okB
        have : (r.smp.all fun n => inB n 0 ((r.lots.length : Int) - 1)) = false := by rw [List.all_eq_false]; exact ⟨x, List.mem_of_getElem? hx, by simp [e3]⟩
        rw [this]
        simp)
      simp [-getElem?_pos, -decide_eq_true_eq, -decide_eq_false_iff_not, this]
    have hround := hJ _ _ ⟨k + 1, hlt, rfl, (fun j y hj hy => by
      rcases Nat.lt_or_ge j k with h1 | h1
      · exact hinv j y h1 hy
      · obtain rfl : j = k := by omega
        rw [hx] at hy
        cases hy
        exact e3), rfl⟩
    simp [-getElem?_pos, -List.getElem?_map, -decide_eq_true_eq, -decide_eq_false_iff_not, hw]
    exact ⟨_, _, hmeas, Sub.mk (by simp [faK]) (by simp [faK, faB, rcells, lotsP, intsP, labsP]), hround⟩
  have he : k = r.smp.length := by omega
  subst he
  have hsmp : (r.smp.all fun n => inB n 0 ((r.lots.length : Int) - 1)) = true := by
    rw [List.all_eq_true]
    intro x hx
    obtain ⟨j, hj⟩ := List.mem_iff_getElem?.1 hx
    exact hinv j x (List.getElem?_eq_some_iff.1 hj).1 hj
  clear hJ hinv
  simp [-getElem?_pos, -List.getElem?_map, -decide_eq_true_eq, -decide_eq_false_iff_not, faK, faB, rcells, lotsP, intsP, labsP]
  refine awp_loopS (fun m τ => ∃ k : Nat, k ≤ r.labs.length ∧ m = r.labs.length - k ∧ (∀ (j : Nat) (x : Lb), j < k → r.labs[j]? = some x → x.okB r.smp.length = true) ∧ τ = faK r 5 k) ⟨r.labs.length, faK r 5 0, Sub.mk (by simp [faK]) (by simp [faK, faB, rcells, lotsP, intsP, labsP]), 0, Nat.zero_le _, rfl, (fun j x hj => by omega), rfl⟩ ?_
  rintro J hJ m τ ⟨k, hk, rfl, hinv, rfl⟩
  by_cases hlt : k < r.labs.length
  · obtain ⟨x, hx⟩ : ∃ x, r.labs[k]? = some x := ⟨r.labs[k], List.getElem?_eq_getElem hlt⟩
    have hgx : (r.labs.map Lb.pv)[k]? = some (.agg [.int .i64 x.tol, .lst false 1 (x.rds.map intP)]) := by rw [List.getElem?_map, hx]; rfl
    have hw := wrapK (k := k) (by omega)
    have hmeas : r.labs.length - (k + 1) < r.labs.length - k := by omega
    have hno : x.okB r.smp.length = false → F = 1 := fun h => hbad (by
      unfold Rn.okB
      have : r.labs.all (Lb.okB r.smp.length) = false := by rw [List.all_eq_false]; exact ⟨x, List.mem_of_getElem? hx, by simp [h]⟩
      rw [this]
      simp)
    have hyes : x.okB r.smp.length = true → J (r.labs.length - (k + 1)) (faK r 5 (k + 1)) := fun h => hJ _ _ ⟨k + 1, hlt, rfl, (fun j y hj hy => by
      rcases Nat.lt_or_ge j k with h1 | h1
      · exact hinv j y h1 hy
      · obtain rfl : j = k := by omega
        rw [hx] at hy
        cases hy
        exact h), rfl⟩
    have a2 := win_c x.tol 0 100
    have hlb : x.okB r.smp.length = (inB x.tol 0 100 && decide (x.rds.length = r.smp.length) && x.rds.all fun y => inB y (-1) 1000) := rfl
    clear hJ hinv
    simp [-getElem?_pos, -List.getElem?_map, -decide_eq_true_eq, -decide_eq_false_iff_not, faK, faB, rcells, lotsP, intsP, labsP, hlt, hgx]
    refine call_gives (k := 0) rfl rfl a2 rfl ?_
    cases e3 : inB x.tol 0 100
    · have : F = 1 := hno (by rw [hlb, e3]; rfl)
      simp [-getElem?_pos, -decide_eq_true_eq, -decide_eq_false_iff_not, this]
    by_cases e4 : x.rds.length = r.smp.length
    case neg =>
      have : F = 1 := hno (by rw [hlb, e3, decide_eq_false e4]; rfl)
      have e4i : decide ((x.rds.length : Int) = (r.smp.length : Int)) = false := decide_eq_false (by omega)
      simp [-getElem?_pos, -List.getElem?_map, -decide_eq_true_eq, -decide_eq_false_iff_not, this, e4i]
    have e4i : decide ((x.rds.length : Int) = (r.smp.length : Int)) = true := decide_eq_true (by omega)
    simp [-getElem?_pos, -List.getElem?_map, -decide_eq_true_eq, -decide_eq_false_iff_not, e4i]
    refine awp_loopS (fun m τ => ∃ i : Nat, i ≤ x.rds.length ∧ m = x.rds.length - i ∧ (∀ (j : Nat) (y : Int), j < i → x.rds[j]? = some y → inB y (-1) 1000 = true) ∧ τ = faI r x k i) ⟨x.rds.length, faI r x k 0, Sub.mk (by simp [faI]) (by simp [faI, faB, rcells, lotsP, intsP, labsP]), 0, Nat.zero_le _, rfl, (fun j x hj => by omega), rfl⟩ ?_
    rintro J2 hJ2 m τ ⟨i, hi, rfl, hinv, rfl⟩
    by_cases hlt2 : i < x.rds.length
    · obtain ⟨y, hy⟩ : ∃ y, x.rds[i]? = some y := ⟨x.rds[i], List.getElem?_eq_getElem hlt2⟩
      have hgy : (x.rds.map intP)[i]? = some (.int .i64 y) := by rw [List.getElem?_map, hy]; rfl
      have hwi := wrapK (k := i) (by omega)
      have hmeas2 : x.rds.length - (i + 1) < x.rds.length - i := by omega
      have a3 := win_c y (-1) 1000
      simp [-getElem?_pos, -List.getElem?_map, -decide_eq_true_eq, -decide_eq_false_iff_not, faI, faB, rcells, lotsP, intsP, labsP, hlt2, hgy]
      refine call_gives (k := 0) rfl rfl a3 rfl ?_
      cases e5 : inB y (-1) 1000
      · have : F = 1 := hno (by
          rw [hlb]
          have : (x.rds.all fun y => inB y (-1) 1000) = false := by rw [List.all_eq_false]; exact ⟨y, List.mem_of_getElem? hy, by simp [e5]⟩
          rw [this]
          simp)
        simp [-getElem?_pos, -decide_eq_true_eq, -decide_eq_false_iff_not, this]
      have hround2 := hJ2 _ _ ⟨i + 1, hlt2, rfl, (fun j z hj hz => by
        rcases Nat.lt_or_ge j i with h1 | h1
        · exact hinv j z h1 hz
        · obtain rfl : j = i := by omega
          rw [hy] at hz
          cases hz
          exact e5), rfl⟩
      simp [-getElem?_pos, -List.getElem?_map, -decide_eq_true_eq, -decide_eq_false_iff_not, hwi]
      exact ⟨_, _, hmeas2, Sub.mk (by simp [faI]) (by simp [faI, faB, rcells, lotsP, intsP, labsP]), hround2⟩
    have he : i = x.rds.length := by omega
    subst he
    have hall : (x.rds.all fun y => inB y (-1) 1000) = true := by
      rw [List.all_eq_true]
      intro y hy
      obtain ⟨j, hj⟩ := List.mem_iff_getElem?.1 hy
      exact hinv j y (List.getElem?_eq_some_iff.1 hj).1 hj
    clear hJ2 hinv
    have hround := hyes (by rw [hlb, e3, decide_eq_true e4, hall]; rfl)
    simp [-getElem?_pos, -List.getElem?_map, -decide_eq_true_eq, -decide_eq_false_iff_not, faI, faB, rcells, lotsP, intsP, labsP, hw]
    exact ⟨_, _, hmeas, Sub.mk (by simp [faK]) (by simp [faK, faB, rcells, lotsP, intsP, labsP]), hround⟩
  have he : k = r.labs.length := by omega
  subst he
  have hlabs : r.labs.all (Lb.okB r.smp.length) = true := by
    rw [List.all_eq_true]
    intro x hx
    obtain ⟨j, hj⟩ := List.mem_iff_getElem?.1 hx
    exact hinv j x (List.getElem?_eq_some_iff.1 hj).1 hj
  have hF0 : F = 0 := by
    rw [← hF]
    unfold Rn.fault Rn.okB
    rw [hbig, e1, e2, hlots, hsmp, hlabs]
    rfl
  clear hJ hinv
  simp [-getElem?_pos, -List.getElem?_map, -decide_eq_true_eq, -decide_eq_false_iff_not, faK, faB, rcells, lotsP, intsP, labsP, hF0]
end Go.Proofs.YtaffbiibcfeigaaGreat
