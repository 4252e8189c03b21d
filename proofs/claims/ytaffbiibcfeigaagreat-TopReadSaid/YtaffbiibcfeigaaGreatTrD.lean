/- Top, layers 2 and 8: the rounds that TopRead makes; plain. (Several texts in one.) -/
import Derived.Test.YtaffbiibcfeigaaGreatTrC
import Derived.Test.YtaffbiibcfeigaaGreatChV
import Derived.Test.YtaffbiibcfeigaaGreatTrA
import Derived.Test.YtaffbiibcfeigaaGreatChB
import Derived.Test.YtaffbiibcfeigaaGreatChF
set_option linter.unusedVariables false
set_option linter.unusedSimpArgs false
/-! Top, layers 2 and 8: the rounds that TopRead makes; plain. -/
namespace Go.Proofs.YtaffbiibcfeigaaGreat
open Go.RowKit
set_option maxRecDepth 10000
attribute [local irreducible] Bk.held Bk.nums Bk.heldU Bk.span Bk.contra trueM wordM
def midM (s : Cr) : Int := (s.lo + s.hi).fdiv 2
def tolM (s : Cr) : Int := (s.hi - s.lo + 1).tdiv 2
/-- What a laboratory reads of a sample, with an instrument of which S is told, whose value is T. -/
def rawM (S : Cr × Int) (T v : Int) : Int := v - T + midM S.1
def rdT (S : Cr × Int) (T v orig : Int) : Int := if S.2 ≠ 0 ∨ 100 < tolM S.1 ∨ orig < 0 ∨ inB (rawM S T v) 0 1000 = false then -1 else rawM S T v
def wrT (rd by_ : Int) : Int := if rd < 0 ∨ inB (rd + by_) 0 1000 = false then -1 else rd + by_
theorem rdT_in (S : Cr × Int) (T v orig : Int) : -1 ≤ rdT S T v orig ∧ rdT S T v orig ≤ 1000 := by
  unfold rdT
  split
  · omega
  · rename_i h
    rw [not_or, not_or, not_or, Bool.not_eq_false] at h
    have := h.2.2.2
    unfold inB at this
    simp only [Bool.and_eq_true, decide_eq_true_eq] at this
    omega
theorem wrT_in (rd by_ : Int) : -1 ≤ wrT rd by_ ∧ wrT rd by_ ≤ 1000 := by
  unfold wrT
  split
  · omega
  · rename_i h
    rw [not_or, Bool.not_eq_false] at h
    have := h.2
    unfold inB at this
    simp only [Bool.and_eq_true, decide_eq_true_eq] at this
    omega
theorem mid_tol {s : Cr} {T : Int} (h : s.has T) : midM s - T ≤ tolM s ∧ T - midM s ≤ tolM s := by
  unfold Cr.has at h
  unfold midM tolM
  rw [Int.fdiv_eq_ediv_of_nonneg _ (by omega), Int.tdiv_eq_ediv_of_nonneg (by omega)]
  omega
theorem rdT_near {S : Cr × Int} {T v orig : Int} (hS : S.2 = 10 ∨ (S.2 = 0 ∧ S.1.has T)) (h : rdT S T v orig ≠ -1) : rdT S T v orig - min 100 (tolM S.1) ≤ v ∧ v ≤ rdT S T v orig + min 100 (tolM S.1) := by
  unfold rdT at h ⊢
  split at h
  · exact absurd rfl h
  · rename_i hc
    rw [if_neg hc]
    rw [not_or, not_or] at hc
    rcases hS with hS | ⟨_, hS⟩
    · exact absurd (show S.2 ≠ 0 by rw [hS]; omega) hc.1
    · have := mid_tol hS
      unfold rawM
      omega
/-- What TopRead is about. -/
structure TopR where
  x : Bk
  ws : List Int
  d : Int
  r : Rn
  ow : List Int
  k : Nat
  by_ : Int
def TopR.S (t : TopR) (i : Nat) : Cr × Int := t.x.spanM ((i % t.x.items.length : Nat) : Int) t.d
def TopR.T (t : TopR) (i : Nat) : Int := trueM t.x t.ws ((i % t.x.items.length : Nat) : Int) t.d
def TopR.orig (t : TopR) (i n : Nat) : Int := (((t.r.labs[i]?).map fun l => (l.rds[n]?).getD 0).getD 0)
def TopR.rd (t : TopR) (i n : Nat) : Int := rdT (t.S i) (t.T i) (v8M t.r t.ow n) (t.orig i n)
def TopR.wr (t : TopR) (i n : Nat) : Int := wrT (t.rd i n) (if i = t.k then t.by_ else 0)
def TopR.tol (t : TopR) (i : Nat) : Int := min 100 (tolM (t.S i).1)
def TopR.rds (t : TopR) (i n : Nat) : List Int := (List.range n).map (t.rd i)
def TopR.wrs (t : TopR) (i n : Nat) : List Int := (List.range n).map (t.wr i)
def TopR.one (t : TopR) (i : Nat) : Lb := ⟨t.tol i, t.rds i t.r.smp.length⟩
def TopR.two (t : TopR) (i : Nat) : Lb := ⟨t.tol i, t.wrs i t.r.smp.length⟩
def TopR.ones (t : TopR) (n : Nat) : List Lb := (List.range n).map t.one
def TopR.twos (t : TopR) (n : Nat) : List Lb := (List.range n).map t.two
def TopR.own (t : TopR) : Rn := ⟨t.r.lots, t.r.smp, t.r.spr, t.ones t.r.labs.length⟩
def TopR.off (t : TopR) : Rn := ⟨t.r.lots, t.r.smp, t.r.spr, t.twos t.r.labs.length⟩
structure TopR.ok (t : TopR) : Prop where
  r : t.r.ok
  w : ∀ y ∈ t.ow, 0 ≤ y ∧ y < 65536
  i : 0 < t.x.items.length
  s : ∀ i : Int, 0 ≤ i → i < t.x.items.length → ((t.x.spanM i t.d).2 = 10 ∧ (t.x.spanM i t.d).1 = ⟨0, 0⟩) ∨ ((t.x.spanM i t.d).2 = 0 ∧ (t.x.spanM i t.d).1.has (trueM t.x t.ws i t.d))
theorem TopR.ok.hS {t : TopR} (h : t.ok) (i : Nat) : (t.S i).2 = 10 ∨ ((t.S i).2 = 0 ∧ (t.S i).1.has (t.T i)) := by
  have hm := Nat.mod_lt i h.i
  rcases h.s ((i % t.x.items.length : Nat) : Int) (by omega) (by omega) with h1 | h1
  · exact .inl h1.1
  · exact .inr h1
theorem TopR.ok.tol_bd {t : TopR} (h : t.ok) (i : Nat) : 0 ≤ t.tol i ∧ t.tol i ≤ 100 := by
  have hm := Nat.mod_lt i h.i
  unfold TopR.tol
  have h0 : 0 ≤ tolM (t.S i).1 := by
    rcases h.s ((i % t.x.items.length : Nat) : Int) (by omega) (by omega) with h1 | h1
    · show 0 ≤ tolM (t.x.spanM ((i % t.x.items.length : Nat) : Int) t.d).1
      rw [h1.2]
      decide
    · have := mid_tol h1.2
      show 0 ≤ tolM (t.x.spanM ((i % t.x.items.length : Nat) : Int) t.d).1
      omega
  omega
theorem mapR_get {α : Type} {f : Nat → α} {n k : Nat} {y : α} (h : ((List.range n).map f)[k]? = some y) : k < n ∧ y = f k := by
  rw [List.getElem?_map] at h
  by_cases hk : k < n
  · rw [List.getElem?_range hk] at h
    cases h
    exact ⟨hk, rfl⟩
  · rw [List.getElem?_eq_none (by rw [List.length_range]; omega)] at h
    cases h
theorem TopR.ok.lot {t : TopR} (h : t.ok) {j : Nat} (hj : j < t.r.lots.length) : (getC t.r.lots j).lotB = true := by
  obtain ⟨y, hy, hg⟩ := getC_at hj
  rw [hg]
  exact List.all_eq_true.1 h.r.l y (List.mem_of_getElem? hy)
theorem TopR.ok.u8 {t : TopR} (h : t.ok) {j : Nat} (hj : j < t.r.lots.length) : (getC t.r.lots j).has (u8M t.r t.ow j) ∧ 0 ≤ (getC t.r.lots j).lo ∧ (getC t.r.lots j).hi ≤ 1000 := by
  have hl := h.lot hj
  unfold Cr.lotB at hl
  simp only [Bool.and_eq_true, decide_eq_true_eq] at hl
  have hb := tmod_bd8 (wordM_bd h.w (j : Int)).1 (show (0 : Int) < (getC t.r.lots j).hi - (getC t.r.lots j).lo + 1 by omega)
  unfold Cr.has u8M
  omega
theorem TopR.ok.spr {t : TopR} (h : t.ok) : 0 ≤ t.r.spr ∧ t.r.spr ≤ 100 := by
  have hp := h.r.p
  unfold inB at hp
  simp only [Bool.and_eq_true, decide_eq_true_eq] at hp
  exact hp
theorem TopR.ok.lotI_lt {t : TopR} (h : t.ok) {i : Nat} (hi : i < t.r.smp.length) : lotI t.r i < t.r.lots.length := by
  have e := List.getElem?_eq_getElem hi
  have hb := List.all_eq_true.1 h.r.s _ (List.getElem_mem hi)
  unfold inB at hb
  simp only [Bool.and_eq_true, decide_eq_true_eq] at hb
  unfold lotI
  rw [e]
  simp only [Option.getD_some]
  omega
theorem TopR.ok.v8 {t : TopR} (h : t.ok) {i : Nat} (hi : i < t.r.smp.length) : u8M t.r t.ow (lotI t.r i) - t.r.spr ≤ v8M t.r t.ow i ∧ v8M t.r t.ow i ≤ u8M t.r t.ow (lotI t.r i) + t.r.spr ∧ -1000 ≤ v8M t.r t.ow i ∧ v8M t.r t.ow i ≤ 2000 := by
  have hp := h.spr
  have hu := h.u8 (h.lotI_lt hi)
  have hb := tmod_bd8 (wordM_bd h.w (7 * (i : Int) + 3)).1 (show (0 : Int) < 2 * t.r.spr + 1 by omega)
  unfold Cr.has at hu
  unfold v8M
  omega
theorem fit_of {t : TopR} (h : t.ok) (R : Rn) (hl : R.lots = t.r.lots) (hs : R.smp = t.r.smp) (hp : R.spr = t.r.spr) (off : Nat → Bool) (lab by_ : Int)
    (hrd : ∀ (i k : Nat) (x : Lb) (n : Int), i < t.r.smp.length → R.labs[k]? = some x → x.rds[i]? = some n → off k = false → n ≠ -1 → n - shB lab by_ k - x.tol ≤ v8M t.r t.ow i ∧ v8M t.r t.ow i ≤ n - shB lab by_ k + x.tol) :
    Fit R off lab by_ (v8M t.r t.ow) (u8M t.r t.ow) := by
  have hI : ∀ i, lotI R i = lotI t.r i := fun i => by unfold lotI; rw [hs]
  refine ⟨fun i k x n hi => hrd i k x n (by rw [← hs]; exact hi), fun j hj => ?_, fun i hi => ?_, fun i hi => ?_⟩
  · rw [hl] at hj ⊢
    exact (h.u8 hj).1
  · rw [hs] at hi
    rw [hI, hl, hp]
    have := h.v8 hi
    exact ⟨h.lotI_lt hi, this.1, this.2.1⟩
  · rw [hs] at hi
    have := h.v8 hi
    omega
theorem TopR.ok.fit_own {t : TopR} (h : t.ok) : Fit t.own off0 (-1) 0 (v8M t.r t.ow) (u8M t.r t.ow) := by
  refine fit_of h t.own rfl rfl rfl _ _ _ fun i k x n hi hx hn _ hne => ?_
  obtain ⟨_, rfl⟩ := mapR_get hx
  obtain ⟨_, rfl⟩ := mapR_get hn
  have hsh : shB (-1) 0 k = 0 := by unfold shB; split <;> rfl
  have := rdT_near (h.hS k) hne
  rw [hsh]
  unfold TopR.rd TopR.one TopR.tol at *
  simp only
  omega
theorem wrT_near {rd b v m : Int} (hr : rd ≠ -1 → rd - m ≤ v ∧ v ≤ rd + m) (h : wrT rd b ≠ -1) : wrT rd b - b - m ≤ v ∧ v ≤ wrT rd b - b + m := by
  unfold wrT at h ⊢
  split at h
  · exact absurd rfl h
  · rename_i hc
    rw [if_neg hc]
    rw [not_or] at hc
    have := hr (by omega)
    omega
theorem TopR.ok.fit_off1 {t : TopR} (h : t.ok) : Fit t.off (off1 t.k) (-1) 0 (v8M t.r t.ow) (u8M t.r t.ow) := by
  refine fit_of h t.off rfl rfl rfl _ _ _ fun i k x n hi hx hn hk hne => ?_
  obtain ⟨_, rfl⟩ := mapR_get hx
  obtain ⟨_, rfl⟩ := mapR_get hn
  have hk' : ¬ k = t.k := of_decide_eq_false hk
  have hsh : shB (-1) 0 k = 0 := by unfold shB; split <;> rfl
  unfold TopR.wr at hne ⊢
  rw [if_neg hk'] at hne ⊢
  have := wrT_near (rdT_near (h.hS k)) hne
  rw [hsh]
  unfold TopR.two TopR.tol
  simp only
  unfold TopR.rd
  omega
theorem TopR.ok.fit_shift {t : TopR} (h : t.ok) : Fit t.off off0 t.k t.by_ (v8M t.r t.ow) (u8M t.r t.ow) := by
  refine fit_of h t.off rfl rfl rfl _ _ _ fun i k x n hi hx hn hk hne => ?_
  obtain ⟨_, rfl⟩ := mapR_get hx
  obtain ⟨_, rfl⟩ := mapR_get hn
  have hsh : shB t.k t.by_ k = if k = t.k then t.by_ else 0 := by
    unfold shB
    by_cases e : k = t.k
    · rw [if_pos (by omega), if_pos e]
    · rw [if_neg (by omega), if_neg e]
  unfold TopR.wr at hne ⊢
  have := wrT_near (rdT_near (h.hS k)) hne
  rw [hsh]
  unfold TopR.two TopR.tol
  simp only
  unfold TopR.rd
  omega
theorem rn_ok {t : TopR} (h : t.ok) (f : Nat → Nat → Int) (hf : ∀ i n, -1 ≤ f i n ∧ f i n ≤ 1000) : Rn.ok ⟨t.r.lots, t.r.smp, t.r.spr, (List.range t.r.labs.length).map fun i => ⟨t.tol i, (List.range t.r.smp.length).map (f i)⟩⟩ ∧ Rn.fine ⟨t.r.lots, t.r.smp, t.r.spr, (List.range t.r.labs.length).map fun i => ⟨t.tol i, (List.range t.r.smp.length).map (f i)⟩⟩ := by
  have h0 := h.r
  have hp := h.spr
  refine ⟨⟨h0.l0, h0.l4, h0.s8, by simp only [List.length_map, List.length_range]; exact h0.b6, h0.l, h0.s, h0.p, ?_⟩, ⟨⟨by simp only [List.length_map, List.length_range]; exact h0.b6, fun x hx => ?_⟩, h0.l0, h0.l4, h0.s8, fun c hc => ?_, fun n hn => ?_, hp⟩⟩
  · rw [List.all_eq_true]
    intro x hx
    obtain ⟨i, _, rfl⟩ := List.mem_map.1 hx
    have ht := h.tol_bd i
    unfold Lb.okB inB
    simp only [Bool.and_eq_true, decide_eq_true_eq, List.length_map, List.length_range, List.all_eq_true, List.mem_map]
    refine ⟨⟨⟨ht.1, ht.2⟩, trivial⟩, ?_⟩
    rintro y ⟨n, _, rfl⟩
    exact hf i n
  · obtain ⟨i, _, rfl⟩ := List.mem_map.1 hx
    have ht := h.tol_bd i
    refine ⟨by simp, ht.1, ht.2, fun n hn => ?_⟩
    obtain ⟨j, _, rfl⟩ := List.mem_map.1 hn
    exact hf i j
  · have := List.all_eq_true.1 h0.l c hc
    unfold Cr.lotB at this
    simp only [Bool.and_eq_true, decide_eq_true_eq] at this
    unfold Cr.bdd
    omega
  · have := List.all_eq_true.1 h0.s n hn
    unfold inB at this
    simp only [Bool.and_eq_true, decide_eq_true_eq] at this
    constructor
    · omega
    · simp only
      omega
theorem TopR.ok.own_ok {t : TopR} (h : t.ok) : t.own.ok ∧ t.own.fine := rn_ok h t.rd fun _ _ => rdT_in _ _ _ _
theorem TopR.ok.off_ok {t : TopR} (h : t.ok) : t.off.ok ∧ t.off.fine := rn_ok h t.wr fun _ _ => wrT_in _ _
end Go.Proofs.YtaffbiibcfeigaaGreat
/-! Top, layer 8: reading a round. -/
namespace Go.Proofs.YtaffbiibcfeigaaGreat
open Go.RowKit Go.ChangeShapes Go.WideShapes Go.Deep
set_option maxRecDepth 100000
section
variable {H : Type} {enc : TypeId × Value → H} {W : World} {sp : Nat → Bool} {held : Bool} {r : Reach} {base : Nat}
theorem rr1 : Tryz.prog.cellsOf 3 = 1 := by kernel_rfl
theorem rrI : Tryz.prog.cellsOf 27 = 1 := by kernel_rfl
theorem rrR : Tryz.prog.cellsOf 148 = 2 := by kernel_rfl
theorem rrL : Tryz.prog.cellsOf 54 = 2 := by kernel_rfl
theorem rrLR : Tryz.prog.cellsOf 26 = 1 := by kernel_rfl
theorem rrLL : Tryz.prog.cellsOf 28 = 1 := by kernel_rfl
theorem rrN : Tryz.prog.cellsOf 30 = 4 := by kernel_rfl
theorem rr_range {fuel : Nat} {cs : List Value} {y : DataW H × List MemPlace} (h : DataW.trod enc Tryz.prog W 0 sp held fuel 148 cs = some y) (hl : cs.length = 2) : ∃ q : Cr, True ∧ CellsP W.mem 2 cs q.pv := by
  match cs, hl with
  | [a, b], _ =>
  obtain ⟨xs, n, _, _, _, hxl, hf⟩ := DataW.trod_struct Tryz.underlying148 h
  have hxl' : xs.length = 2 := hxl
  have h0 : DataW.trod enc Tryz.prog W 0 sp held n 3 (([a, b].drop 0).take (Tryz.prog.cellsOf 3)) = xs[0]? := hf 0 _ rfl
  have h1 : DataW.trod enc Tryz.prog W 0 sp held n 3 (([a, b].drop 1).take (Tryz.prog.cellsOf 3)) = xs[1]? := hf 1 _ rfl
  rw [rr1, List.getElem?_eq_getElem (by omega)] at h0 h1
  obtain ⟨m0, rfl, g0⟩ := int_at h0
  obtain ⟨m1, rfl, g1⟩ := int_at h1
  refine ⟨⟨m0, m1⟩, trivial, plain_cells (l := [.int .i64 m0, .int .i64 m1]) rfl rfl rfl fun j d c k1 k2 => ?_⟩
  match j with
  | 0 => simp at k1 k2; subst k1 k2; exact ⟨rfl, .int .i64 _⟩
  | 1 => simp at k1 k2; subst k1 k2; exact ⟨rfl, .int .i64 _⟩
  | j + 2 => simp at k1
theorem rr_ints {fuel : Nat} {v : Value} {y : DataW H × List MemPlace} (h : DataW.trod enc Tryz.prog W 0 sp held fuel 27 [v] = some y) : ∃ l : List Int, RdP W.mem v (intsP l) := by
  obtain ⟨l, _, _, h3⟩ := rd_slice2 intP fit64 Tryz.underlying27 rr1 (by omega) h (fun k cs y hy hl => by
    obtain ⟨m, e, g, hr⟩ := rd_int Tryz.underlying3 hy
    exact ⟨m, kq64 g, hr⟩)
  exact ⟨l, h3⟩
theorem rr_lab {fuel : Nat} {cs : List Value} {y : DataW H × List MemPlace} (h : DataW.trod enc Tryz.prog W 0 sp held fuel 54 cs = some y) (hl : cs.length = 2) : ∃ q : Lb, True ∧ CellsP W.mem 2 cs q.pv := by
  match cs, hl with
  | [a, b], _ =>
  obtain ⟨xs, n, _, _, _, hxl, hf⟩ := DataW.trod_struct Tryz.underlying54 h
  have hxl' : xs.length = 2 := hxl
  have h0 : DataW.trod enc Tryz.prog W 0 sp held n 3 (([a, b].drop 0).take (Tryz.prog.cellsOf 3)) = xs[0]? := hf 0 _ rfl
  have h1 : DataW.trod enc Tryz.prog W 0 sp held n 27 (([a, b].drop 1).take (Tryz.prog.cellsOf 27)) = xs[1]? := hf 1 _ rfl
  rw [rr1, List.getElem?_eq_getElem (by omega)] at h0
  rw [rrI, List.getElem?_eq_getElem (by omega)] at h1
  obtain ⟨m0, rfl, g0⟩ := int_at h0
  have h1' : DataW.trod enc Tryz.prog W 0 sp held n 27 [b] = some xs[1] := h1
  obtain ⟨l, hr⟩ := rr_ints h1'
  refine ⟨⟨m0, l⟩, trivial, plain_cells (l := [.int .i64 m0, intsP l]) rfl rfl rfl fun j d c k1 k2 => ?_⟩
  match j with
  | 0 => simp at k1 k2; subst k1 k2; exact ⟨rfl, .int .i64 _⟩
  | 1 => simp at k1 k2; subst k1 k2; exact ⟨by cases hr <;> rfl, hr⟩
  | j + 2 => simp at k1
theorem rk_round {v : Value} {fuel : Nat} {x : DataW H × List MemPlace} (hok : Value.okWide Tryz.prog W r base 30 v) (h : DataW.trod enc Tryz.prog W 0 sp held fuel 30 v.cells.toList = some x) :
    ∃ q : Rn, True ∧ RdP W.mem v q.pv := by
  obtain ⟨cs, rfl, hsz⟩ := okWide_struct Tryz.underlying30 hok
  rw [rrN] at hsz
  obtain ⟨l⟩ := cs
  match l, hsz with
  | [a, b, c, d], _ =>
  obtain ⟨xs, n, _, _, _, hxl, hf⟩ := DataW.trod_struct Tryz.underlying30 h
  have hxl' : xs.length = 4 := hxl
  have h0 : DataW.trod enc Tryz.prog W 0 sp held n 26 (([a, b, c, d].drop 0).take (Tryz.prog.cellsOf 26)) = xs[0]? := hf 0 _ rfl
  have h1 : DataW.trod enc Tryz.prog W 0 sp held n 27 (([a, b, c, d].drop 1).take (Tryz.prog.cellsOf 27)) = xs[1]? := hf 1 _ rfl
  have h2 : DataW.trod enc Tryz.prog W 0 sp held n 3 (([a, b, c, d].drop 2).take (Tryz.prog.cellsOf 3)) = xs[2]? := hf 2 _ rfl
  have h3 : DataW.trod enc Tryz.prog W 0 sp held n 28 (([a, b, c, d].drop 3).take (Tryz.prog.cellsOf 28)) = xs[3]? := hf 3 _ rfl
  rw [rrLR, List.getElem?_eq_getElem (by omega)] at h0
  rw [rrI, List.getElem?_eq_getElem (by omega)] at h1
  rw [rr1, List.getElem?_eq_getElem (by omega)] at h2
  rw [rrLL, List.getElem?_eq_getElem (by omega)] at h3
  have h0' : DataW.trod enc Tryz.prog W 0 sp held n 26 [a] = some xs[0] := h0
  have h1' : DataW.trod enc Tryz.prog W 0 sp held n 27 [b] = some xs[1] := h1
  have h3' : DataW.trod enc Tryz.prog W 0 sp held n 28 [d] = some xs[3] := h3
  obtain ⟨ms, _, _, m3⟩ := rd_slice2 Cr.pv (fun _ => True) Tryz.underlying26 rrR (by omega) h0' (fun k cs y hy hl => rr_range hy hl)
  obtain ⟨ls, n3⟩ := rr_ints h1'
  obtain ⟨m, rfl, g0⟩ := int_at h2
  obtain ⟨rs, _, _, q3⟩ := rd_slice2 Lb.pv (fun _ => True) Tryz.underlying28 rrL (by omega) h3' (fun k cs y hy hl => rr_lab hy hl)
  refine ⟨⟨ms, ls, m, rs⟩, trivial, .agg _ _ rfl ?_ ?_⟩
  · intro d hd
    simp at hd
    rcases hd with rfl | rfl | rfl | rfl
    · cases m3 <;> rfl
    · cases n3 <;> rfl
    · rfl
    · cases q3 <;> rfl
  · intro j d e k1 k2
    match j with
    | 0 => simp [Rn.pvs] at k1 k2; subst k1 k2; exact m3
    | 1 => simp [Rn.pvs] at k1 k2; subst k1 k2; exact n3
    | 2 => simp [Rn.pvs] at k1 k2; subst k1 k2; exact .int .i64 _
    | 3 => simp [Rn.pvs] at k1 k2; subst k1 k2; exact q3
    | j + 4 => simp at k1
end
end Go.Proofs.YtaffbiibcfeigaaGreat
