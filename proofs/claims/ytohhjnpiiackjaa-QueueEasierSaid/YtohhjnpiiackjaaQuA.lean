/- IndexFunc, ContainsFunc, all: one proof for all types of elements. (Several texts in one.) -/
import Derived.Test.YtohhjnpiiackjaaBaseD
import Derived.Test.YtohhjnpiiackjaaCodeB
import Derived.Test.YtohhjnpiiackjaaProg
set_option linter.unusedVariables false
set_option linter.unusedSimpArgs false
/-! IndexFunc, ContainsFunc, all: one proof for all types of elements. -/
namespace Go.Proofs.Ytohhjnpiiackjaa
open Go.RowKit
set_option maxRecDepth 10000
attribute [local simp] Box.purge Site.isLoc
theorem find_at {l : List PV} {q : PV → Bool} {k : Nat} {x : PV} (hx : l[k]? = some x) (hb : q x = true) (hinv : ∀ (j : Nat) (y : PV), j < k → l[j]? = some y → q y = false) : l.findIdx? q = some k := by
  obtain ⟨hlt, e⟩ := List.getElem?_eq_some_iff.1 hx
  rw [List.findIdx?_eq_some_iff_getElem]
  refine ⟨hlt, by rw [e]; exact hb, fun j hj => ?_⟩
  have := hinv j l[j] hj (List.getElem?_eq_getElem (by omega))
  simp [this]
theorem find_none {l : List PV} {q : PV → Bool} (hinv : ∀ (j : Nat) (y : PV), j < l.length → l[j]? = some y → q y = false) : l.findIdx? q = none := by
  rw [List.findIdx?_eq_none_iff]
  intro x hx
  obtain ⟨j, hj⟩ := List.mem_iff_getElem?.1 hx
  exact hinv j x (List.getElem?_eq_some_iff.1 hj).1 hj
/-- IndexFunc's code, for elements of so many cells (read as a row, or as one cell). -/
def lIx (row : Bool) (n : Nat) : LFn := ⟨19, (.seq (.region [⟨(some 4), none, (.mov (.c (.int .i64 (0)))), true⟩]) (.seq (.seq (.region [⟨(some 6), none, (.mov (.t 0)), true⟩, ⟨(some 7), none, (.len none (.t 6)), true⟩, ⟨(some 8), none, (.mov (.c (.int .i64 (0)))), true⟩]) (.block 0 (.loop (.seq (.region [⟨(some 9), none, (.bin false .lss (.t 8) (.t 7)), true⟩]) (.seq (.cond (.t 9) .skip (.exit 0)) (.seq (.block 1 (.seq (.region [⟨(some 10), none, (.mov (.t 8)), true⟩, ⟨(some 5), none, (.mov (.t 10)), true⟩]) (.seq (.region [⟨(some 11), none, (.mov (.t 1)), true⟩, ⟨(some 12), none, (.mov (.t 0)), true⟩, ⟨(some 13), none, (.mov (.t 5)), true⟩, ⟨(some 14), none, (.ia n none (.t 12) (.t 13)), true⟩, ⟨(some 15), none, (.load row n (.t 14)), true⟩, ⟨(some 16), none, (.call (.t 11) [(.t 15)]), true⟩]) (.cond (.t 16) (.seq (.region [⟨(some 17), none, (.mov (.t 5)), true⟩, ⟨(some 4), none, (.mov (.t 17)), true⟩]) .ret) .skip)))) (.region [⟨(some 18), none, (.bin false .add (.t 8) (.c (.int .i64 (1)))), true⟩, ⟨(some 8), none, (.mov (.t 18)), true⟩]))))))) (.seq (.region [⟨(some 4), none, (.mov (.c (.int .i64 (-1)))), true⟩]) .ret))), [(.tm 4)]⟩
/-- What an element may be. -/
def elB : Bool → Nat → PV → Prop
  | true, n, x => ∃ cs, x = .agg cs ∧ cs.length = n
  | false, n, x => n = 1 ∧ ((∃ b m ys, x = .lst b m ys) ∨ ∃ s, x = .str s)
theorem index_g {f : FuncId} {row : Bool} {n : Nat} {l : List PV} {g : FuncId} {fs cs : List PV} {q : PV → Bool} (hq : ∀ x ∈ l, Gives Try.prog g (fs ++ [x] ++ cs) (.bool (q x))) (hl : l.length ≤ 1000000) (hc : ∀ x ∈ l, elB row n x) (hL : litF Try.prog f = some (lIx row n) := by kernel_rfl) :
    Gives Try.prog f [.lst false n l, .fn g fs cs] (.int .i64 (match l.findIdx? q with | some i => i | none => -1)) := by
  refine calls_of_awpS mixed hL (Nat.le_of_ble_eq_true rfl) ?_
  simp [lIx]
  refine awp_loopS (fun m τ => ∃ k : Nat, k ≤ l.length ∧ m = l.length - k ∧ (∀ j x, j < k → l[j]? = some x → q x = false) ∧ τ = ⟨[(0, .pv (.lst false n l)), (1, .pv (.fn g fs cs)), (7, .pv (.int .i64 l.length)), (8, .pv (.int .i64 k))], []⟩)
    ⟨l.length, _, Sub.mk (by simp) (by simp), 0, by omega, rfl, (fun j x hj => by omega), rfl⟩ ?_
  rintro J hJ m τ ⟨k, hk, rfl, hinv, rfl⟩
  by_cases hlt : k < l.length
  · have hx : l[k]? = some l[k] := List.getElem?_eq_getElem hlt
    have hm := List.getElem_mem hlt
    generalize l[k] = x at hx hm
    have hg := hq _ hm
    have hw : IntKind.i64.wrap ((k : Int) + 1) = ((k + 1 : Nat) : Int) := by rw [IntKind.wrap_i64]; omega
    have hsh := hc x hm
    clear hc hL
    cases row with
    | true =>
      obtain ⟨ys, rfl, rfl⟩ := hsh
      simp [hlt, ↓hx, nble]
      refine call_gives (k := 0) rfl rfl hg rfl ?_
      cases hb : q _
      · simp [hw]
        exact ⟨_, _, (by omega : l.length - (k + 1) < l.length - k), Sub.mk (by simp) (by simp), hJ _ _ ⟨k + 1, by omega, rfl, fun j x hj hjx => by
          rcases Nat.lt_succ_iff_lt_or_eq.1 hj with h | h
          · exact hinv j x h hjx
          · subst h; rw [hx] at hjx; cases hjx; exact hb, rfl⟩⟩
      · simp [find_at hx hb hinv]
    | false =>
      obtain ⟨rfl, ⟨b, m, ys, rfl⟩ | ⟨s, rfl⟩⟩ := hsh
      all_goals
        simp [hlt, ↓hx]
        refine call_gives (k := 0) rfl rfl hg rfl ?_
        cases hb : q _
        · simp [hw]
          exact ⟨_, _, (by omega : l.length - (k + 1) < l.length - k), Sub.mk (by simp) (by simp), hJ _ _ ⟨k + 1, by omega, rfl, fun j x hj hjx => by
            rcases Nat.lt_succ_iff_lt_or_eq.1 hj with h | h
            · exact hinv j x h hjx
            · subst h; rw [hx] at hjx; cases hjx; exact hb, rfl⟩⟩
        · simp [find_at hx hb hinv]
  · have he : k = l.length := by omega
    subst he
    simp [find_none hinv]
def lCn (fi : FuncId) : LFn := ⟨9, (.seq (.region [⟨(some 4), none, (.mov (.c (.bool false))), true⟩]) (.seq (.region [⟨(some 5), none, (.mov (.t 0)), true⟩, ⟨(some 6), none, (.mov (.t 1)), true⟩, ⟨(some 7), none, (.call (.c (.fn fi [] [])) [(.t 5), (.t 6)]), true⟩, ⟨(some 8), none, (.bin false .geq (.t 7) (.c (.int .i64 (0)))), true⟩, ⟨(some 4), none, (.mov (.t 8)), true⟩]) .ret)), [(.tm 4)]⟩
theorem any_g {f : FuncId} (fi : FuncId) {n : Nat} {l : List PV} {g : FuncId} {fs cs : List PV} {q : PV → Bool} (hi : Gives Try.prog fi [.lst false n l, .fn g fs cs] (.int .i64 (match l.findIdx? q with | some i => i | none => -1))) (hL : litF Try.prog f = some (lCn fi) := by kernel_rfl) : Gives Try.prog f [.lst false n l, .fn g fs cs] (.bool (l.any q)) := by
  refine calls_of_awpS mixed hL (Nat.le_of_ble_eq_true rfl) ?_
  simp [lCn]
  refine call_gives (k := 0) rfl rfl hi rfl ?_
  cases hf : l.findIdx? q with
  | none =>
    have : l.any q = false := by rw [List.any_eq_false]; intro x hx; simpa using List.findIdx?_eq_none_iff.1 hf x hx
    simp [this]
  | some i =>
    have : l.any q = true := by
      obtain ⟨hi, h1, _⟩ := List.findIdx?_eq_some_iff_getElem.1 hf
      exact List.any_eq_true.2 ⟨_, List.getElem_mem hi, h1⟩
    simp [this]
def lAl (fc f1 : FuncId) : LFn := ⟨9, (.seq (.region [⟨(some 3), none, (.box 1 (.t 1)), true⟩, ⟨(some 4), none, (.mov (.c (.bool false))), true⟩]) (.seq (.region [⟨(some 5), none, (.mov (.t 0)), true⟩, ⟨(some 6), none, (.mkf f1 [] [(.t 3)]), true⟩, ⟨(some 7), none, (.call (.c (.fn fc [] [])) [(.t 5), (.t 6)]), true⟩, ⟨(some 8), none, (.not (.t 7)), true⟩, ⟨(some 4), none, (.mov (.t 8)), true⟩]) .ret)), [(.tm 4)]⟩
theorem all_g {f : FuncId} (fc f1 : FuncId) {n : Nat} {l : List PV} {g : FuncId} {fs cs : List PV} {q : PV → Bool} (ha : Gives Try.prog fc [.lst false n l, .fn f1 [] [.ref [.fn g fs cs]]] (.bool (l.any fun x => !q x))) (hL : litF Try.prog f = some (lAl fc f1) := by kernel_rfl) : Gives Try.prog f [.lst false n l, .fn g fs cs] (.bool (l.all q)) := by
  refine calls_of_awpS mixed hL (Nat.le_of_ble_eq_true rfl) ?_
  simp [lAl]
  refine call_gives (k := 4) rfl rfl ha rfl ?_
  simp [List.not_any_eq_all_not]
end Go.Proofs.Ytohhjnpiiackjaa
/-! Layer 10 (queue): a queue as plain values, and how an argument reads as one. -/
namespace Go.Proofs.Ytohhjnpiiackjaa
open Go.RowKit Go.ChangeShapes Go.WideShapes Go.Deep
set_option maxRecDepth 100000
structure Rg where
  lo : Int
  hi : Int
structure Rq where
  hours : Int
  ready : Int
  on : List Bool
structure Qu where
  ms : List (List Rg)
  rs : List Rq
def Rg.pv (r : Rg) : PV := .agg [.int .i64 r.lo, .int .i64 r.hi]
def rgsP (l : List Rg) : PV := .lst false 2 (l.map Rg.pv)
def onP (l : List Bool) : PV := .lst false 1 (l.map PV.bool)
def Rq.pv (r : Rq) : PV := .agg [.int .i64 r.hours, .int .i64 r.ready, onP r.on]
def Qu.pv (q : Qu) : PV := .agg [.lst false 1 (q.ms.map rgsP), .lst false 3 (q.rs.map Rq.pv)]
def fit64 (n : Int) : Prop := -9223372036854775808 ≤ n ∧ n ≤ 9223372036854775807
theorem kq64 {n : Int} (h : IntKind.i64.min ≤ n ∧ n ≤ IntKind.i64.max) : fit64 n := by
  have e1 : IntKind.i64.min = -9223372036854775808 := by decide
  have e2 : IntKind.i64.max = 9223372036854775807 := by decide
  rw [e1, e2] at h; exact h
section
variable {H : Type} {enc : TypeId × Value → H} {W : World} {sp : Nat → Bool} {held : Bool} {r : Reach} {base : Nat}
theorem cq3 : Try.prog.cellsOf 3 = 1 := by kernel_rfl
theorem cq4 : Try.prog.cellsOf 4 = 1 := by kernel_rfl
theorem cqR : Try.prog.cellsOf 101 = 2 := by kernel_rfl
theorem cqB : Try.prog.cellsOf 68 = 1 := by kernel_rfl
theorem cqL : Try.prog.cellsOf 84 = 1 := by kernel_rfl
theorem cqU : Try.prog.cellsOf 70 = 3 := by kernel_rfl
theorem one_cell {m : Mem} {v : Value} {n : Nat} {l : List PV} (h : RdP m v (.lst false n l)) : CellsP m 1 [v] (.lst false n l) := by
  refine ⟨rfl, rfl, fun d hd => ?_, fun j d c h1 h2 => ?_⟩
  · simp at hd; subst hd
    cases h <;> rfl
  · cases j with
    | zero => simp [PV.cells] at h1 h2; subst h1 h2; exact h
    | succ j => simp at h1
theorem rq_range {fuel : Nat} {cs : List Value} {y : DataW H × List MemPlace} (h : DataW.trod enc Try.prog W 0 sp held fuel 101 cs = some y) (hl : cs.length = 2) :
    ∃ q : Rg, (fit64 q.lo ∧ fit64 q.hi) ∧ CellsP W.mem 2 cs q.pv := by
  match cs, hl with
  | [a, b], _ =>
  obtain ⟨xs, n, _, _, _, hxl, hf⟩ := DataW.trod_struct Try.underlying101 h
  have hxl' : xs.length = 2 := hxl
  have h0 : DataW.trod enc Try.prog W 0 sp held n 3 (([a, b].drop 0).take (Try.prog.cellsOf 3)) = xs[0]? := hf 0 _ rfl
  have h1 : DataW.trod enc Try.prog W 0 sp held n 3 (([a, b].drop 1).take (Try.prog.cellsOf 3)) = xs[1]? := hf 1 _ rfl
  rw [cq3, List.getElem?_eq_getElem (by omega)] at h0 h1
  obtain ⟨m, e0, g0, r0⟩ := rd_int Try.underlying3 h0
  obtain ⟨k, e1, g1, r1⟩ := rd_int Try.underlying3 h1
  simp at e0 e1
  subst e0 e1
  refine ⟨⟨m, k⟩, ⟨kq64 g0, kq64 g1⟩, rfl, rfl, ?_, ?_⟩
  · intro d hd
    simp at hd
    rcases hd with rfl | rfl <;> rfl
  · intro j d c k1 k2
    match j with
    | 0 => simp [Rg.pv, PV.cells] at k1 k2; subst k1 k2; exact .int .i64 m
    | 1 => simp [Rg.pv, PV.cells] at k1 k2; subst k1 k2; exact .int .i64 k
    | j + 2 => simp at k1
theorem rq_ranges {fuel : Nat} {cs : List Value} {y : DataW H × List MemPlace} (h : DataW.trod enc Try.prog W 0 sp held fuel 84 cs = some y) (hl : cs.length = 1) :
    ∃ l : List Rg, (∀ q ∈ l, fit64 q.lo ∧ fit64 q.hi) ∧ CellsP W.mem 1 cs (rgsP l) := by
  match cs, hl with
  | [v], _ =>
  obtain ⟨l, h1, _, h2⟩ := rd_slice2 Rg.pv (fun q => fit64 q.lo ∧ fit64 q.hi) Try.underlying84 cqR (by omega) h (fun k cs y hy hl => rq_range hy hl)
  exact ⟨l, h1, one_cell h2⟩
theorem rq_on {fuel : Nat} {v : Value} {y : DataW H × List MemPlace} (h : DataW.trod enc Try.prog W 0 sp held fuel 68 [v] = some y) : ∃ l : List Bool, RdP W.mem v (onP l) := by
  obtain ⟨l, _, _, h2⟩ := rd_slice2 PV.bool (fun _ => True) Try.underlying68 cq4 (by omega) h (fun k cs y hy hl => by
    obtain ⟨m, _, hr⟩ := rd_bool Try.underlying4 hy
    exact ⟨m, trivial, hr⟩)
  exact ⟨l, h2⟩
theorem rq_run {fuel : Nat} {cs : List Value} {y : DataW H × List MemPlace} (h : DataW.trod enc Try.prog W 0 sp held fuel 70 cs = some y) (hl : cs.length = 3) :
    ∃ q : Rq, (fit64 q.hours ∧ fit64 q.ready) ∧ CellsP W.mem 3 cs q.pv := by
  match cs, hl with
  | [a, b, c], _ =>
  obtain ⟨xs, n, _, _, _, hxl, hf⟩ := DataW.trod_struct Try.underlying70 h
  have hxl' : xs.length = 3 := hxl
  have h0 : DataW.trod enc Try.prog W 0 sp held n 3 (([a, b, c].drop 0).take (Try.prog.cellsOf 3)) = xs[0]? := hf 0 _ rfl
  have h1 : DataW.trod enc Try.prog W 0 sp held n 3 (([a, b, c].drop 1).take (Try.prog.cellsOf 3)) = xs[1]? := hf 1 _ rfl
  have h2 : DataW.trod enc Try.prog W 0 sp held n 68 (([a, b, c].drop 2).take (Try.prog.cellsOf 68)) = xs[2]? := hf 2 _ rfl
  rw [cq3, List.getElem?_eq_getElem (by omega)] at h0 h1
  rw [cqB, List.getElem?_eq_getElem (by omega)] at h2
  obtain ⟨m, e0, g0, r0⟩ := rd_int Try.underlying3 h0
  obtain ⟨k, e1, g1, r1⟩ := rd_int Try.underlying3 h1
  simp at e0 e1
  subst e0 e1
  have h2' : DataW.trod enc Try.prog W 0 sp held n 68 [c] = some xs[2] := h2
  obtain ⟨l, hl⟩ := rq_on h2'
  refine ⟨⟨m, k, l⟩, ⟨kq64 g0, kq64 g1⟩, rfl, rfl, ?_, ?_⟩
  · intro d hd
    simp at hd
    rcases hd with rfl | rfl | rfl
    · rfl
    · rfl
    · unfold onP at hl; cases hl <;> rfl
  · intro j d c k1 k2
    match j with
    | 0 => simp [Rq.pv, PV.cells] at k1 k2; subst k1 k2; exact .int .i64 m
    | 1 => simp [Rq.pv, PV.cells] at k1 k2; subst k1 k2; exact .int .i64 k
    | 2 => simp [Rq.pv, PV.cells] at k1 k2; subst k1 k2; exact hl
    | j + 3 => simp at k1
theorem cqM : Try.prog.cellsOf 22 = 1 := by kernel_rfl
theorem cqV : Try.prog.cellsOf 23 = 1 := by kernel_rfl
theorem cqQ : Try.prog.cellsOf 25 = 2 := by kernel_rfl
/-- What a queue holds fits its kinds. -/
structure Qu.wf (q : Qu) : Prop where
  ms : ∀ l ∈ q.ms, ∀ x ∈ l, fit64 x.lo ∧ fit64 x.hi
  rs : ∀ x ∈ q.rs, fit64 x.hours ∧ fit64 x.ready
  m1 : q.ms.length ≤ 9223372036854775807
  r1 : q.rs.length ≤ 9223372036854775807
theorem rq_queue {v : Value} {fuel : Nat} {x : DataW H × List MemPlace} (hok : Value.okWide Try.prog W r base 25 v) (h : DataW.trod enc Try.prog W 0 sp held fuel 25 v.cells.toList = some x) :
    ∃ q : Qu, q.wf ∧ RdP W.mem v q.pv := by
  obtain ⟨cs, rfl, hsz⟩ := okWide_struct Try.underlying25 hok
  rw [cqQ] at hsz
  obtain ⟨l⟩ := cs
  match l, hsz with
  | [a, b], _ =>
  obtain ⟨xs, n, _, _, _, hxl, hf⟩ := DataW.trod_struct Try.underlying25 h
  have hxl' : xs.length = 2 := hxl
  have h0 : DataW.trod enc Try.prog W 0 sp held n 22 (([a, b].drop 0).take (Try.prog.cellsOf 22)) = xs[0]? := hf 0 _ rfl
  have h1 : DataW.trod enc Try.prog W 0 sp held n 23 (([a, b].drop 1).take (Try.prog.cellsOf 23)) = xs[1]? := hf 1 _ rfl
  rw [cqM, List.getElem?_eq_getElem (by omega)] at h0
  rw [cqV, List.getElem?_eq_getElem (by omega)] at h1
  have h0' : DataW.trod enc Try.prog W 0 sp held n 22 [a] = some xs[0] := h0
  have h1' : DataW.trod enc Try.prog W 0 sp held n 23 [b] = some xs[1] := h1
  obtain ⟨ms, m1, m2, m3⟩ := rd_slice2 rgsP (fun l => ∀ q ∈ l, fit64 q.lo ∧ fit64 q.hi) Try.underlying22 cqL (by omega) h0' (fun k cs y hy hl => rq_ranges hy hl)
  obtain ⟨rs, n1, n2, n3⟩ := rd_slice2 Rq.pv (fun q => fit64 q.hours ∧ fit64 q.ready) Try.underlying23 cqU (by omega) h1' (fun k cs y hy hl => rq_run hy hl)
  refine ⟨⟨ms, rs⟩, ⟨m1, n1, m2, n2⟩, .agg _ _ rfl ?_ ?_⟩
  · intro d hd
    simp at hd
    rcases hd with rfl | rfl
    · cases m3 <;> rfl
    · cases n3 <;> rfl
  · intro j d e k1 k2
    match j with
    | 0 => simp at k1 k2; subst k1 k2; exact m3
    | 1 => simp at k1 k2; subst k1 k2; exact n3
    | j + 2 => simp at k1
end
end Go.Proofs.Ytohhjnpiiackjaa
/-! Contracts of layer 10's functions (queue): small ones. -/
namespace Go.Proofs.Ytohhjnpiiackjaa
open Go.RowKit
attribute [local simp] Box.purge Site.isLoc
set_option maxRecDepth 10000
set_option linter.unusedSimpArgs false
theorem within_c (n lo hi : Int) : Gives Try.prog 58 [.int .i64 n, .int .i64 lo, .int .i64 hi] (.bool (decide (lo ≤ n) && decide (n ≤ hi))) := by
  refine calls_of_awpS mixed L58_ok (Nat.le_of_ble_eq_true rfl) ?_
  by_cases h : lo ≤ n
  all_goals simp [h, L58]
theorem in_c (n lo hi : Int) : Gives Try.prog 24 [.int .i64 n, .int .i64 lo, .int .i64 hi] (.bool (decide (lo ≤ n) && decide (n ≤ hi))) := by
  refine calls_of_awpS mixed L24_ok (Nat.le_of_ble_eq_true rfl) ?_
  by_cases h : lo ≤ n
  all_goals simp [h, L24]
def hourB (n : Int) : Bool := decide (0 ≤ n) && decide (n ≤ 39)
def manyB (n : Int) : Bool := decide (0 ≤ n) && decide (n ≤ 40)
theorem hour_c (n : Int) : Gives Try.prog 71 [.int .i64 n] (.bool (hourB n)) := by
  refine calls_of_awpS mixed L71_ok (Nat.le_of_ble_eq_true rfl) ?_
  simp [L71]
  refine call_gives (k := 0) rfl rfl (within_c n 0 39) rfl ?_
  simp [hourB]
theorem many_c (n : Int) : Gives Try.prog 55 [.int .i64 n] (.bool (manyB n)) := by
  refine calls_of_awpS mixed L55_ok (Nat.le_of_ble_eq_true rfl) ?_
  simp [L55]
  refine call_gives (k := 0) rfl rfl (within_c n 0 40) rfl ?_
  simp [manyB]
def Rg.hoursB (r : Rg) : Bool := hourB r.lo && hourB r.hi && decide (r.lo ≤ r.hi)
theorem hours_c (r : Rg) : Gives Try.prog 53 [r.pv] (.bool r.hoursB) := by
  refine calls_of_awpS mixed L53_ok (Nat.le_of_ble_eq_true rfl) ?_
  simp [-getElem?_pos, L53, Rg.pv]
  refine call_gives (k := 0) rfl rfl (hour_c r.lo) rfl ?_
  cases h1 : hourB r.lo
  · simp [Rg.hoursB, h1]
  · simp [h1]
    refine call_gives (k := 0) rfl rfl (hour_c r.hi) rfl ?_
    cases h2 : hourB r.hi
    · simp [Rg.hoursB, h1, h2]
    · simp [Rg.hoursB, h1, h2]
end Go.Proofs.Ytohhjnpiiackjaa
/-! Contracts of layer 10 (queue): IndexFunc, ContainsFunc, all. -/
namespace Go.Proofs.Ytohhjnpiiackjaa
open Go.RowKit
attribute [local simp] Box.purge Site.isLoc
set_option maxRecDepth 10000
set_option linter.unusedSimpArgs false
theorem anyRgs_c (l : List PV) (g : FuncId) (fs cs : List PV) (q : PV → Bool) (hq : ∀ x ∈ l, Gives Try.prog g (fs ++ [x] ++ cs) (.bool (q x))) (hl : l.length ≤ 1000000) (hc : ∀ x ∈ l, ∃ ys, x = .lst false 2 ys) :
    Gives Try.prog 80 [.lst false 1 l, .fn g fs cs] (.bool (l.any q)) :=
  any_g 96 (index_g (row := false) hq hl (fun x hx => by obtain ⟨ys, rfl⟩ := hc x hx; exact ⟨rfl, by simp⟩))
theorem allRgs1_c (x : PV) (g : FuncId) (fs cs : List PV) (b : Bool) (hx : ∃ ys, x = .lst false 2 ys) (hq : Gives Try.prog g (fs ++ [x] ++ cs) (.bool b)) :
    Gives Try.prog 81 [x, .ref [.fn g fs cs]] (.bool (!b)) := by
  obtain ⟨ys, rfl⟩ := hx
  refine calls_of_awpS mixed L81_ok (Nat.le_of_ble_eq_true rfl) ?_
  simp [L81]
  refine call_gives (k := 0) rfl rfl hq rfl ?_
  simp
theorem allRgs_c (l : List PV) (g : FuncId) (fs cs : List PV) (q : PV → Bool) (hq : ∀ x ∈ l, Gives Try.prog g (fs ++ [x] ++ cs) (.bool (q x))) (hl : l.length ≤ 1000000) (hc : ∀ x ∈ l, ∃ ys, x = .lst false 2 ys) :
    Gives Try.prog 56 [.lst false 1 l, .fn g fs cs] (.bool (l.all q)) :=
  all_g 80 81 (anyRgs_c l 81 [] [.ref [.fn g fs cs]] (fun x => !q x) (fun x hx => allRgs1_c x g fs cs (q x) (hc x hx) (hq x hx)) hl hc)
theorem anyRg_c (l : List PV) (g : FuncId) (fs cs : List PV) (q : PV → Bool) (hq : ∀ x ∈ l, Gives Try.prog g (fs ++ [x] ++ cs) (.bool (q x))) (hl : l.length ≤ 1000000) (hc : ∀ x ∈ l, ∃ a b, x = .agg [.int .i64 a, .int .i64 b]) :
    Gives Try.prog 78 [.lst false 2 l, .fn g fs cs] (.bool (l.any q)) :=
  any_g 95 (index_g (row := true) hq hl (fun x hx => by obtain ⟨a, b, rfl⟩ := hc x hx; exact ⟨_, rfl, rfl⟩))
theorem allRg1_c (x : PV) (g : FuncId) (fs cs : List PV) (b : Bool) (hx : ∃ a b, x = .agg [.int .i64 a, .int .i64 b]) (hq : Gives Try.prog g (fs ++ [x] ++ cs) (.bool b)) :
    Gives Try.prog 79 [x, .ref [.fn g fs cs]] (.bool (!b)) := by
  obtain ⟨a, b, rfl⟩ := hx
  refine calls_of_awpS mixed L79_ok (Nat.le_of_ble_eq_true rfl) ?_
  simp [L79]
  refine call_gives (k := 0) rfl rfl hq rfl ?_
  simp
theorem allRg_c (l : List PV) (g : FuncId) (fs cs : List PV) (q : PV → Bool) (hq : ∀ x ∈ l, Gives Try.prog g (fs ++ [x] ++ cs) (.bool (q x))) (hl : l.length ≤ 1000000) (hc : ∀ x ∈ l, ∃ a b, x = .agg [.int .i64 a, .int .i64 b]) :
    Gives Try.prog 52 [.lst false 2 l, .fn g fs cs] (.bool (l.all q)) :=
  all_g 78 79 (anyRg_c l 79 [] [.ref [.fn g fs cs]] (fun x => !q x) (fun x hx => allRg1_c x g fs cs (q x) (hc x hx) (hq x hx)) hl hc)
theorem anyRq_c (l : List PV) (g : FuncId) (fs cs : List PV) (q : PV → Bool) (hq : ∀ x ∈ l, Gives Try.prog g (fs ++ [x] ++ cs) (.bool (q x))) (hl : l.length ≤ 1000000) (hc : ∀ x ∈ l, ∃ a b ys, x = .agg [.int .i64 a, .int .i64 b, .lst false 1 ys]) :
    Gives Try.prog 82 [.lst false 3 l, .fn g fs cs] (.bool (l.any q)) :=
  any_g 97 (index_g (row := true) hq hl (fun x hx => by obtain ⟨a, b, ys, rfl⟩ := hc x hx; exact ⟨_, rfl, rfl⟩))
theorem allRq1_c (x : PV) (g : FuncId) (fs cs : List PV) (b : Bool) (hx : ∃ a b ys, x = .agg [.int .i64 a, .int .i64 b, .lst false 1 ys]) (hq : Gives Try.prog g (fs ++ [x] ++ cs) (.bool b)) :
    Gives Try.prog 83 [x, .ref [.fn g fs cs]] (.bool (!b)) := by
  obtain ⟨a, b, ys, rfl⟩ := hx
  refine calls_of_awpS mixed L83_ok (Nat.le_of_ble_eq_true rfl) ?_
  simp [L83]
  refine call_gives (k := 0) rfl rfl hq rfl ?_
  simp
theorem allRq_c (l : List PV) (g : FuncId) (fs cs : List PV) (q : PV → Bool) (hq : ∀ x ∈ l, Gives Try.prog g (fs ++ [x] ++ cs) (.bool (q x))) (hl : l.length ≤ 1000000) (hc : ∀ x ∈ l, ∃ a b ys, x = .agg [.int .i64 a, .int .i64 b, .lst false 1 ys]) :
    Gives Try.prog 57 [.lst false 3 l, .fn g fs cs] (.bool (l.all q)) :=
  all_g 82 83 (anyRq_c l 83 [] [.ref [.fn g fs cs]] (fun x => !q x) (fun x hx => allRq1_c x g fs cs (q x) (hc x hx) (hq x hx)) hl hc)
theorem anyLs_c (l : List PV) (g : FuncId) (fs cs : List PV) (q : PV → Bool) (hq : ∀ x ∈ l, Gives Try.prog g (fs ++ [x] ++ cs) (.bool (q x))) (hl : l.length ≤ 1000000) (hc : ∀ x ∈ l, ∃ a b, x = .agg [.int .i64 a, .int .i64 b]) :
    Gives Try.prog 91 [.lst false 2 l, .fn g fs cs] (.bool (l.any q)) :=
  any_g 106 (index_g (row := true) hq hl (fun x hx => by obtain ⟨a, b, rfl⟩ := hc x hx; exact ⟨_, rfl, rfl⟩))
theorem allLs1_c (x : PV) (g : FuncId) (fs cs : List PV) (b : Bool) (hx : ∃ a b, x = .agg [.int .i64 a, .int .i64 b]) (hq : Gives Try.prog g (fs ++ [x] ++ cs) (.bool b)) :
    Gives Try.prog 92 [x, .ref [.fn g fs cs]] (.bool (!b)) := by
  obtain ⟨a, b, rfl⟩ := hx
  refine calls_of_awpS mixed L92_ok (Nat.le_of_ble_eq_true rfl) ?_
  simp [L92]
  refine call_gives (k := 0) rfl rfl hq rfl ?_
  simp
theorem allLs_c (l : List PV) (g : FuncId) (fs cs : List PV) (q : PV → Bool) (hq : ∀ x ∈ l, Gives Try.prog g (fs ++ [x] ++ cs) (.bool (q x))) (hl : l.length ≤ 1000000) (hc : ∀ x ∈ l, ∃ a b, x = .agg [.int .i64 a, .int .i64 b]) :
    Gives Try.prog 72 [.lst false 2 l, .fn g fs cs] (.bool (l.all q)) :=
  all_g 91 92 (anyLs_c l 92 [] [.ref [.fn g fs cs]] (fun x => !q x) (fun x hx => allLs1_c x g fs cs (q x) (hc x hx) (hq x hx)) hl hc)
end Go.Proofs.Ytohhjnpiiackjaa
/-! Contracts of layer 10 (queue): CheckQueue. -/
namespace Go.Proofs.Ytohhjnpiiackjaa
open Go.RowKit
attribute [local simp] Box.purge Site.isLoc
set_option maxRecDepth 10000
set_option linter.unusedSimpArgs false
theorem few_c (ys : List PV) : Gives Try.prog 50 [.lst false 2 ys] (.bool (decide ((ys.length : Int) ≤ 6))) := by
  refine calls_of_awpS mixed L50_ok (Nat.le_of_ble_eq_true rfl) ?_
  simp [-decide_eq_true_eq, L50]
def hoursQ : PV → Bool
  | .agg [.int _ a, .int _ b] => Rg.hoursB ⟨a, b⟩
  | _ => true
theorem stops_c (l : List Rg) (hl : l.length ≤ 1000000) : Gives Try.prog 51 [rgsP l] (.bool (l.all Rg.hoursB)) := by
  have h := allRg_c (l.map Rg.pv) 53 [] [] hoursQ (fun x hx => by
    obtain ⟨r, _, rfl⟩ := List.mem_map.1 hx
    exact hours_c r) (by simpa using hl) (fun x hx => by
    obtain ⟨r, _, rfl⟩ := List.mem_map.1 hx
    exact ⟨_, _, rfl⟩)
  have e : (l.map Rg.pv).all hoursQ = l.all Rg.hoursB := by rw [List.all_map]; rfl
  rw [e] at h
  refine calls_of_awpS mixed L51_ok (Nat.le_of_ble_eq_true rfl) ?_
  simp [L51, rgsP]
  refine call_gives (k := 0) rfl rfl h rfl ?_
  simp
def Rq.okB (n : Nat) (r : Rq) : Bool := manyB r.hours && manyB r.ready && decide ((r.on.length : Int) = n)
theorem run_c (q : Qu) (r : Rq) : Gives Try.prog 54 [r.pv, .ref [.lst false 1 (q.ms.map rgsP), .lst false 3 (q.rs.map Rq.pv)]] (.bool (r.okB q.ms.length)) := by
  refine calls_of_awpS mixed L54_ok (Nat.le_of_ble_eq_true rfl) ?_
  simp [-getElem?_pos, L54, Rq.pv]
  refine call_gives (k := 0) (fs := []) (cs := []) rfl rfl (many_c r.hours) rfl ?_
  cases h1 : manyB r.hours
  · simp [Rq.okB, h1]
  · simp [-getElem?_pos]
    refine call_gives (k := 0) (fs := []) (cs := []) rfl rfl (many_c r.ready) rfl ?_
    cases h2 : manyB r.ready
    · simp [Rq.okB, h1, h2]
    · simp [-getElem?_pos, onP, Rq.okB, h1, h2]
def Qu.big (q : Qu) : Bool := decide (4 < q.ms.length) || decide (6 < q.rs.length) || !(q.ms.all fun l => decide ((l.length : Int) ≤ 6))
def Qu.bad (q : Qu) : Bool := !(q.ms.all fun l => l.all Rg.hoursB) || !(q.rs.all fun r => r.okB q.ms.length)
/-- The error of a queue. -/
def Qu.check (q : Qu) : Int := if q.big = true then 3 else if q.bad = true then 1 else 0
def fewQ : PV → Bool
  | .lst _ _ ys => decide ((ys.length : Int) ≤ 6)
  | _ => true
def stopsQ : PV → Bool
  | .lst _ _ ys => ys.all hoursQ
  | _ => true
def okQ (n : Nat) : PV → Bool
  | .agg [.int _ a, .int _ b, .lst _ _ ys] => manyB a && manyB b && decide ((ys.length : Int) = n)
  | _ => true
theorem check_c (q : Qu) (h1 : q.ms.length ≤ 1000000) (h2 : q.rs.length ≤ 1000000) (h3 : ∀ l ∈ q.ms, l.length ≤ 1000000) : Gives Try.prog 18 [q.pv] (.int .i64 q.check) := by
  have e1 : (q.ms.map rgsP).all fewQ = q.ms.all fun l => decide ((l.length : Int) ≤ 6) := by
    rw [List.all_map]
    congr 1
    funext l
    simp [fewQ, rgsP]
  have e2 : (q.ms.map rgsP).all stopsQ = q.ms.all fun l => l.all Rg.hoursB := by
    rw [List.all_map]
    congr 1
    funext l
    show ((l.map Rg.pv).all hoursQ) = _
    rw [List.all_map]; rfl
  have e3 : (q.rs.map Rq.pv).all (okQ q.ms.length) = q.rs.all fun r => r.okB q.ms.length := by
    rw [List.all_map]
    congr 1
    funext r
    simp [okQ, Rq.pv, onP, Rq.okB]
  have a1 := allRgs_c (q.ms.map rgsP) 50 [] [] fewQ (fun x hx => by
    obtain ⟨l, _, rfl⟩ := List.mem_map.1 hx
    exact few_c _) (by simpa using h1) (fun x hx => by
    obtain ⟨l, _, rfl⟩ := List.mem_map.1 hx
    exact ⟨_, rfl⟩)
  have a2 := allRgs_c (q.ms.map rgsP) 51 [] [] stopsQ (fun x hx => by
    obtain ⟨l, hl, rfl⟩ := List.mem_map.1 hx
    have := stops_c l (h3 l hl)
    have e : stopsQ (rgsP l) = l.all Rg.hoursB := by show ((l.map Rg.pv).all hoursQ) = _; rw [List.all_map]; rfl
    rw [e]
    exact this) (by simpa using h1) (fun x hx => by
    obtain ⟨l, _, rfl⟩ := List.mem_map.1 hx
    exact ⟨_, rfl⟩)
  have a3 := allRq_c (q.rs.map Rq.pv) 54 [] [.ref [.lst false 1 (q.ms.map rgsP), .lst false 3 (q.rs.map Rq.pv)]] (okQ q.ms.length) (fun x hx => by
    obtain ⟨r, _, rfl⟩ := List.mem_map.1 hx
    have e : okQ q.ms.length r.pv = r.okB q.ms.length := by simp [okQ, Rq.pv, onP, Rq.okB]
    rw [e]
    exact run_c q r) (by simpa using h2) (fun x hx => by
    obtain ⟨r, _, rfl⟩ := List.mem_map.1 hx
    exact ⟨_, _, _, rfl⟩)
  rw [e1] at a1
  rw [e2] at a2
  rw [e3] at a3
  have hb : q.big = (decide (4 < q.ms.length) || decide (6 < q.rs.length) || !(q.ms.all fun l => decide ((l.length : Int) ≤ 6))) := rfl
  have hd : q.bad = (!(q.ms.all fun l => l.all Rg.hoursB) || !(q.rs.all fun r => r.okB q.ms.length)) := rfl
  unfold Qu.check
  generalize (q.ms.all fun l => decide ((l.length : Int) ≤ 6)) = b1 at *
  generalize (q.ms.all fun l => l.all Rg.hoursB) = b2 at *
  generalize (q.rs.all fun r => r.okB q.ms.length) = b3 at *
  refine calls_of_awpS mixed L18_ok (Nat.le_of_ble_eq_true rfl) ?_
  by_cases c1 : 4 < q.ms.length
  · have k1 : (4 : Int) < (q.ms.length : Int) := by omega
    have k1' : ¬ ((q.ms.length : Int) ≤ 4) := by omega
    simp [-getElem?_pos, L18, Qu.pv, k1, k1', hb, c1]
  · have d1 : decide ((4 : Int) < (q.ms.length : Int)) = false := by simp; omega
    by_cases c2 : 6 < q.rs.length
    · have d2 : decide ((6 : Int) < (q.rs.length : Int)) = true := by simp; omega
      simp [-getElem?_pos, -decide_eq_true_eq, -decide_eq_false_iff_not, L18, Qu.pv, d1, d2]
      simp [hb, c1, c2]
    · have d2 : decide ((6 : Int) < (q.rs.length : Int)) = false := by simp; omega
      simp [-getElem?_pos, -decide_eq_true_eq, -decide_eq_false_iff_not, L18, Qu.pv, d1, d2]
      refine call_gives (k := 4) rfl rfl a1 rfl ?_
      cases b1
      · simp [-getElem?_pos, hb, c1, c2]
      · simp [-getElem?_pos]
        refine call_gives (k := 4) rfl rfl a2 rfl ?_
        cases b2
        · simp [-getElem?_pos, hb, hd, c1, c2]
        · simp [-getElem?_pos]
          refine call_gives (k := 4) rfl rfl a3 rfl ?_
          cases b3 <;> simp [-getElem?_pos, hb, hd, c1, c2]
end Go.Proofs.Ytohhjnpiiackjaa
/-! Contracts of layer 10's reference (queue): Fault. -/
namespace Go.Proofs.Ytohhjnpiiackjaa
open Go.RowKit
attribute [local simp] Box.purge Site.isLoc
set_option maxRecDepth 10000
set_option linter.unusedSimpArgs false
def Qu.cells (q : Qu) : List AV := [.pv (.lst false 1 (q.ms.map rgsP)), .pv (.lst false 3 (q.rs.map Rq.pv))]
theorem all_take_false {α : Type} {l : List α} {p : α → Bool} {k : Nat} {x : α} (hx : l[k]? = some x) (hp : p x = false) : l.all p = false := by
  rw [List.all_eq_false]
  exact ⟨x, List.mem_of_getElem? hx, by simp [hp]⟩
theorem all_of_take {α : Type} {l : List α} {p : α → Bool} (h : ∀ (j : Nat) (x : α), j < l.length → l[j]? = some x → p x = true) : l.all p = true := by
  rw [List.all_eq_true]
  intro x hx
  obtain ⟨j, hj⟩ := List.mem_iff_getElem?.1 hx
  exact h j x (List.getElem?_eq_some_iff.1 hj).1 hj
theorem inv_next {α : Type} {l : List α} {p : α → Bool} {k : Nat} {x : α} (h : ∀ (j : Nat) (x : α), j < k → l[j]? = some x → p x = true) (hx : l[k]? = some x) (hp : p x = true) : ∀ (j : Nat) (x : α), j < k + 1 → l[j]? = some x → p x = true := fun j y hj hy => by
  rcases Nat.lt_succ_iff_lt_or_eq.1 hj with e | e
  · exact h j y e hy
  · subst e; rw [hx] at hy; cases hy; exact hp
set_option maxHeartbeats 16000000 in
theorem fault_c (q : Qu) (h1 : q.ms.length ≤ 1000000) (h2 : q.rs.length ≤ 1000000) (h3 : ∀ l ∈ q.ms, l.length ≤ 1000000) : Gives Try.prog 36 [q.pv] (.int .i64 q.check) := by
  have hb : q.big = (decide (4 < q.ms.length) || decide (6 < q.rs.length) || !(q.ms.all fun l => decide ((l.length : Int) ≤ 6))) := rfl
  have hd : q.bad = (!(q.ms.all fun l => l.all Rg.hoursB) || !(q.rs.all fun r => r.okB q.ms.length)) := rfl
  unfold Qu.check
  refine calls_of_awpS mixed L36_ok (Nat.le_of_ble_eq_true rfl) ?_
  by_cases c1 : 4 < q.ms.length
  · have k1 : (4 : Int) < (q.ms.length : Int) := by omega
    have k1' : ¬ ((q.ms.length : Int) ≤ 4) := by omega
    simp [-getElem?_pos, L36, Qu.pv, k1, k1', hb, c1]
  · have d1 : decide ((4 : Int) < (q.ms.length : Int)) = false := by simp; omega
    by_cases c2 : 6 < q.rs.length
    · have d2 : decide ((6 : Int) < (q.rs.length : Int)) = true := by simp; omega
      simp [-getElem?_pos, -decide_eq_true_eq, -decide_eq_false_iff_not, L36, Qu.pv, d1, d2]
      simp [hb, c1, c2]
    · have d2 : decide ((6 : Int) < (q.rs.length : Int)) = false := by simp; omega
      simp [-getElem?_pos, -decide_eq_true_eq, -decide_eq_false_iff_not, L36, Qu.pv, d1, d2]
      refine awp_loopS (fun n τ => ∃ k : Nat, k ≤ q.ms.length ∧ n = q.ms.length - k ∧ (∀ (j : Nat) (x : List Rg), j < k → q.ms[j]? = some x → decide ((x.length : Int) ≤ 6) = true) ∧ τ = ⟨[(1, .ptr (.loc 1 0) 0), (3, .pv (.int .i64 k))], [(.loc 1 0, .cells q.cells)]⟩)
        ⟨q.ms.length, _, Sub.mk (by simp) (by simp [Qu.cells]), 0, by omega, rfl, (fun j x hj => by omega), rfl⟩ ?_
      rintro J hJ n τ ⟨k, hk, rfl, hinv, rfl⟩
      by_cases hlt : k < q.ms.length
      · obtain ⟨l, hl⟩ : ∃ l, q.ms[k]? = some l := ⟨q.ms[k], List.getElem?_eq_getElem hlt⟩
        have hg : (q.ms.map rgsP)[k]? = some (.lst false 2 (l.map Rg.pv)) := by rw [List.getElem?_map, hl]; rfl
        have hw : IntKind.i64.wrap ((k : Int) + 1) = ((k + 1 : Nat) : Int) := by rw [wrap64 (by omega)]; omega
        cases hc : decide ((l.length : Int) ≤ 6)
        · have d3 : decide ((6 : Int) < (l.length : Int)) = true := by simp at hc ⊢; omega
          have hall := all_take_false (p := fun l : List Rg => decide ((l.length : Int) ≤ 6)) hl hc
          simp [-getElem?_pos, -List.getElem?_map, -decide_eq_true_eq, -decide_eq_false_iff_not, Qu.cells, hlt, hg, d3]
          simp [hb, hall]
        · have d3 : decide ((6 : Int) < (l.length : Int)) = false := by simp at hc ⊢; omega
          have hround := hJ _ _ ⟨k + 1, hlt, rfl, inv_next (p := fun l : List Rg => decide ((l.length : Int) ≤ 6)) hinv hl hc, rfl⟩
          simp [-getElem?_pos, -List.getElem?_map, -decide_eq_true_eq, -decide_eq_false_iff_not, Qu.cells, hlt, hg, d3, hw]
          exact ⟨_, _, (by omega : q.ms.length - (k + 1) < q.ms.length - k), Sub.mk (by simp) (by simp [Qu.cells]), hround⟩
      · have he : k = q.ms.length := by omega
        subst he
        have hall := all_of_take (p := fun l : List Rg => decide ((l.length : Int) ≤ 6)) hinv
        clear hJ hinv
        have hbig : q.big = false := by rw [hb, hall]; simp [c1, c2]
        rw [hbig]
        clear hb hbig hall
        simp [-getElem?_pos, Qu.cells]
        refine awp_loopS (fun n τ => ∃ k : Nat, k ≤ q.ms.length ∧ n = q.ms.length - k ∧ (∀ (j : Nat) (x : List Rg), j < k → q.ms[j]? = some x → x.all Rg.hoursB = true) ∧ τ = ⟨[(1, .ptr (.loc 1 0) 0), (4, .pv (.int .i64 k))], [(.loc 1 0, .cells q.cells)]⟩)
          ⟨q.ms.length, _, Sub.mk (by simp) (by simp [Qu.cells]), 0, by omega, rfl, (fun j x hj => by omega), rfl⟩ ?_
        rintro J hJ n τ ⟨k, hk, rfl, hinv, rfl⟩
        by_cases hlt : k < q.ms.length
        · obtain ⟨l, hl⟩ : ∃ l, q.ms[k]? = some l := ⟨q.ms[k], List.getElem?_eq_getElem hlt⟩
          have hll := h3 l (List.mem_of_getElem? hl)
          have hg : (q.ms.map rgsP)[k]? = some (.lst false 2 (l.map Rg.pv)) := by rw [List.getElem?_map, hl]; rfl
          have hw : IntKind.i64.wrap ((k : Int) + 1) = ((k + 1 : Nat) : Int) := by rw [wrap64 (by omega)]; omega
          simp [-getElem?_pos, -List.getElem?_map, Qu.cells, hlt]
          refine awp_loopS (fun n τ => ∃ i : Nat, i ≤ l.length ∧ n = l.length - i ∧ (∀ (j : Nat) (x : Rg), j < i → l[j]? = some x → x.hoursB = true) ∧ τ = ⟨[(1, .ptr (.loc 1 0) 0), (4, .pv (.int .i64 k)), (5, .pv (.int .i64 i))], [(.loc 1 0, .cells q.cells)]⟩)
            ⟨l.length, _, Sub.mk (by simp) (by simp [Qu.cells]), 0, by omega, rfl, (fun j x hj => by omega), rfl⟩ ?_
          rintro J2 hJ2 n τ ⟨i, hi, rfl, hinv2, rfl⟩
          by_cases hlt2 : i < l.length
          · obtain ⟨r, hr⟩ : ∃ r, l[i]? = some r := ⟨l[i], List.getElem?_eq_getElem hlt2⟩
            have hgr : (l.map Rg.pv)[i]? = some (.agg [.int .i64 r.lo, .int .i64 r.hi]) := by rw [List.getElem?_map, hr]; rfl
            have hwi : IntKind.i64.wrap ((i : Int) + 1) = ((i + 1 : Nat) : Int) := by rw [wrap64 (by omega)]; omega
            have hh : r.hoursB = ((decide (0 ≤ r.lo) && decide (r.lo ≤ r.hi)) && !decide (39 < r.hi)) := by
              unfold Rg.hoursB hourB
              rw [Bool.eq_iff_iff]
              simp
              omega
            have hin := in_c r.lo 0 r.hi
            generalize (decide (0 ≤ r.lo) && decide (r.lo ≤ r.hi)) = A at *
            have bad : r.hoursB = false → q.bad = true := fun e => by rw [hd, all_take_false hl (all_take_false hr e)]; rfl
            simp [-getElem?_pos, -List.getElem?_map, -decide_eq_true_eq, -decide_eq_false_iff_not, Qu.cells, hlt, hg, hlt2, hgr]
            refine call_gives (k := 0) (fs := []) (cs := []) rfl rfl hin rfl ?_
            cases A
            · simp [-getElem?_pos, bad (by rw [hh]; rfl)]
            · cases hB : decide (39 < r.hi)
              · have hround := hJ2 _ _ ⟨i + 1, hlt2, rfl, inv_next hinv2 hr (by rw [hh, hB]; rfl), rfl⟩
                simp [-getElem?_pos, -decide_eq_true_eq, -decide_eq_false_iff_not, hB, hwi]
                exact ⟨_, _, (by omega : l.length - (i + 1) < l.length - i), Sub.mk (by simp) (by simp [Qu.cells]), hround⟩
              · simp [-getElem?_pos, -decide_eq_true_eq, -decide_eq_false_iff_not, hB, bad (by rw [hh, hB]; rfl)]
          · have he : i = l.length := by omega
            subst he
            have hall := all_of_take hinv2
            have hround := hJ _ _ ⟨k + 1, hlt, rfl, inv_next (p := fun l : List Rg => l.all Rg.hoursB) hinv hl hall, rfl⟩
            simp [-getElem?_pos, -List.getElem?_map, Qu.cells, hlt, hg, hw]
            exact ⟨_, _, (by omega : q.ms.length - (k + 1) < q.ms.length - k), Sub.mk (by simp) (by simp [Qu.cells]), hround⟩
        · have he : k = q.ms.length := by omega
          subst he
          have hall := all_of_take (p := fun l : List Rg => l.all Rg.hoursB) hinv
          clear hJ hinv
          rw [hall] at hd
          clear hall
          simp [-getElem?_pos, Qu.cells]
          refine awp_loopS (fun n τ => ∃ k : Nat, k ≤ q.rs.length ∧ n = q.rs.length - k ∧ (∀ (j : Nat) (x : Rq), j < k → q.rs[j]? = some x → x.okB q.ms.length = true) ∧ τ = ⟨[(1, .ptr (.loc 1 0) 0), (7, .pv (.int .i64 k))], [(.loc 1 0, .cells q.cells)]⟩)
            ⟨q.rs.length, _, Sub.mk (by simp) (by simp [Qu.cells]), 0, by omega, rfl, (fun j x hj => by omega), rfl⟩ ?_
          rintro J hJ n τ ⟨k, hk, rfl, hinv, rfl⟩
          by_cases hlt : k < q.rs.length
          · obtain ⟨r, hr⟩ : ∃ r, q.rs[k]? = some r := ⟨q.rs[k], List.getElem?_eq_getElem hlt⟩
            have hg : (q.rs.map Rq.pv)[k]? = some (.agg [.int .i64 r.hours, .int .i64 r.ready, .lst false 1 (r.on.map PV.bool)]) := by rw [List.getElem?_map, hr]; rfl
            have hw : IntKind.i64.wrap ((k : Int) + 1) = ((k + 1 : Nat) : Int) := by rw [wrap64 (by omega)]; omega
            have hi1 : Gives Try.prog 24 [.int .i64 r.hours, .int .i64 0, .int .i64 40] (.bool (manyB r.hours)) := in_c r.hours 0 40
            have hi2 : Gives Try.prog 24 [.int .i64 r.ready, .int .i64 0, .int .i64 40] (.bool (manyB r.ready)) := in_c r.ready 0 40
            have hok : r.okB q.ms.length = (manyB r.hours && manyB r.ready && decide ((r.on.length : Int) = q.ms.length)) := rfl
            have bad : r.okB q.ms.length = false → q.bad = true := fun e => by rw [hd, all_take_false hr e]; rfl
            generalize manyB r.hours = b1 at *
            generalize manyB r.ready = b2 at *
            simp [-getElem?_pos, -List.getElem?_map, Qu.cells, hlt, hg]
            refine call_gives (k := 0) (fs := []) (cs := []) rfl rfl hi1 rfl ?_
            cases b1
            · simp [-getElem?_pos, bad (by rw [hok]; rfl)]
            · simp [-getElem?_pos]
              refine call_gives (k := 0) (fs := []) (cs := []) rfl rfl hi2 rfl ?_
              cases b2
              · simp [-getElem?_pos, bad (by rw [hok]; rfl)]
              · cases hB : decide ((r.on.length : Int) = q.ms.length)
                · have hne : ¬ r.on.length = q.ms.length := by simp at hB; omega
                  simp [-getElem?_pos, -decide_eq_true_eq, -decide_eq_false_iff_not, hB, bad (by rw [hok, hB]; rfl)]
                · have heq : r.on.length = q.ms.length := by simp at hB; omega
                  have hround := hJ _ _ ⟨k + 1, hlt, rfl, inv_next (p := fun x : Rq => x.okB q.ms.length) hinv hr (by rw [hok, hB]; rfl), rfl⟩
                  simp [-getElem?_pos, heq, hw]
                  exact ⟨_, _, (by omega : q.rs.length - (k + 1) < q.rs.length - k), Sub.mk (by simp) (by simp [Qu.cells]), hround⟩
          · have he : k = q.rs.length := by omega
            subst he
            have hall := all_of_take (p := fun x : Rq => x.okB q.ms.length) hinv
            rw [hall] at hd
            simp [-getElem?_pos, Qu.cells, hd]
end Go.Proofs.Ytohhjnpiiackjaa
/-! Contracts of layer 10's law (queue): Thin. -/
namespace Go.Proofs.Ytohhjnpiiackjaa
open Go.RowKit
attribute [local simp] Box.purge Site.isLoc
set_option maxRecDepth 10000
set_option linter.unusedSimpArgs false
def Qu.thin (q : Qu) : Bool := ((q.ms.take 7).all fun l => decide ((l.length : Int) ≤ 9)) && ((q.rs.take 9).all fun r => decide ((r.on.length : Int) ≤ 9)) && (decide ((q.ms.length : Int) ≤ 6) && decide ((q.rs.length : Int) ≤ 8))
theorem take_get {α : Type} {l : List α} {n k : Nat} {x : α} (hk : k < n) (h : l[k]? = some x) : (l.take n)[k]? = some x := by
  rw [List.getElem?_take, if_pos hk, h]
set_option maxHeartbeats 16000000 in
theorem thin_c (q : Qu) : Gives Try.prog 16 [q.pv] (.bool q.thin) := by
  have ht : q.thin = (((q.ms.take 7).all fun l => decide ((l.length : Int) ≤ 9)) && ((q.rs.take 9).all fun r => decide ((r.on.length : Int) ≤ 9)) && (decide ((q.ms.length : Int) ≤ 6) && decide ((q.rs.length : Int) ≤ 8))) := rfl
  generalize q.thin = T at *
  refine calls_of_awpS mixed L16_ok (Nat.le_of_ble_eq_true rfl) ?_
  simp [-getElem?_pos, L16, Qu.pv]
  refine awp_loopS (fun n τ => ∃ k : Nat, k ≤ (q.ms.take 7).length ∧ n = (q.ms.take 7).length - k ∧ (∀ (j : Nat) (x : List Rg), j < k → (q.ms.take 7)[j]? = some x → decide ((x.length : Int) ≤ 9) = true) ∧ τ = ⟨[(1, .ptr (.loc 1 0) 0), (3, .pv (.int .i64 k))], [(.loc 1 0, .cells q.cells)]⟩)
    ⟨_, _, Sub.mk (by simp) (by simp [Qu.cells]), 0, by omega, rfl, (fun j x hj => by omega), rfl⟩ ?_
  rintro J hJ n τ ⟨k, hk, rfl, hinv, rfl⟩
  have hml : (q.ms.take 7).length = min 7 q.ms.length := List.length_take
  by_cases hlt : k < (q.ms.take 7).length
  · have hx1 : k < q.ms.length := by omega
    have hx2 : k < 7 := by omega
    have hx2' : (k : Int) < 7 := by omega
    obtain ⟨l, hl⟩ : ∃ l, q.ms[k]? = some l := ⟨q.ms[k], List.getElem?_eq_getElem hx1⟩
    have hg : (q.ms.map rgsP)[k]? = some (.lst false 2 (l.map Rg.pv)) := by rw [List.getElem?_map, hl]; rfl
    have hw : IntKind.i64.wrap ((k : Int) + 1) = ((k + 1 : Nat) : Int) := by rw [wrap64 (by omega)]; omega
    cases hc : decide ((l.length : Int) ≤ 9)
    · have d3 : decide ((9 : Int) < (l.length : Int)) = true := by simp at hc ⊢; omega
      have hall := all_take_false (p := fun l : List Rg => decide ((l.length : Int) ≤ 9)) (take_get hx2 hl) hc
      rw [hall] at ht
      have hk1 : decide ((k : Int) < (q.ms.length : Int)) = true := by simp; omega
      have hk2 : decide ((k : Int) < 7) = true := by simp; omega
      simp [-getElem?_pos, -List.getElem?_map, -decide_eq_true_eq, -decide_eq_false_iff_not, Qu.cells, hk1, hk2, hx1, hg, d3]
      simp [ht]
    · have d3 : decide ((9 : Int) < (l.length : Int)) = false := by simp at hc ⊢; omega
      have hk1 : decide ((k : Int) < (q.ms.length : Int)) = true := by simp; omega
      have hk2 : decide ((k : Int) < 7) = true := by simp; omega
      have hround := hJ _ _ ⟨k + 1, hlt, rfl, inv_next (p := fun l : List Rg => decide ((l.length : Int) ≤ 9)) hinv (take_get hx2 hl) hc, rfl⟩
      simp [-getElem?_pos, -List.getElem?_map, -decide_eq_true_eq, -decide_eq_false_iff_not, -List.length_take, Qu.cells, hk1, hk2, hx1, hg, d3, hw]
      exact ⟨_, _, (by omega : (q.ms.take 7).length - (k + 1) < (q.ms.take 7).length - k), Sub.mk (by simp) (by simp [Qu.cells]), hround⟩
  · have he : k = (q.ms.take 7).length := by omega
    have hall := all_of_take (p := fun l : List Rg => decide ((l.length : Int) ≤ 9)) (l := q.ms.take 7) (fun j x hj => hinv j x (by omega))
    clear hJ hinv
    rw [hall] at ht
    clear hall
    have hx : (decide (k < q.ms.length) && decide ((k : Int) < 7)) = false := by simp; omega
    clear he hk hlt hml
    cases hc1 : decide (k < q.ms.length) <;> rw [hc1] at hx <;> simp only [Bool.true_and, Bool.false_and] at hx
    all_goals
      simp [-getElem?_pos, -decide_eq_true_eq, -decide_eq_false_iff_not, Qu.cells, hc1, hx]
      refine awp_loopS (fun n τ => ∃ k : Nat, k ≤ (q.rs.take 9).length ∧ n = (q.rs.take 9).length - k ∧ (∀ (j : Nat) (x : Rq), j < k → (q.rs.take 9)[j]? = some x → decide ((x.on.length : Int) ≤ 9) = true) ∧ τ = ⟨[(1, .ptr (.loc 1 0) 0), (4, .pv (.int .i64 k))], [(.loc 1 0, .cells q.cells)]⟩)
        ⟨(q.rs.take 9).length, ⟨[(1, .ptr (.loc 1 0) 0), (4, .pv (.int .i64 0))], [(.loc 1 0, .cells q.cells)]⟩, Sub.mk (by simp) (by simp [Qu.cells]), 0, Nat.zero_le _, rfl, (fun j x hj => by omega), rfl⟩ ?_
      rintro J hJ n τ ⟨k, hk, rfl, hinv, rfl⟩
      have hml : (q.rs.take 9).length = min 9 q.rs.length := List.length_take
      by_cases hlt : k < (q.rs.take 9).length
      · have hx1 : k < q.rs.length := by omega
        have hx2 : k < 9 := by omega
        obtain ⟨r, hl⟩ : ∃ r, q.rs[k]? = some r := ⟨q.rs[k], List.getElem?_eq_getElem hx1⟩
        have hg : (q.rs.map Rq.pv)[k]? = some (.agg [.int .i64 r.hours, .int .i64 r.ready, .lst false 1 (r.on.map PV.bool)]) := by rw [List.getElem?_map, hl]; rfl
        have hw : IntKind.i64.wrap ((k : Int) + 1) = ((k + 1 : Nat) : Int) := by rw [wrap64 (by omega)]; omega
        have hk1 : decide ((k : Int) < (q.rs.length : Int)) = true := by simp; omega
        have hk2 : decide ((k : Int) < 9) = true := by simp; omega
        cases hc : decide ((r.on.length : Int) ≤ 9)
        · have d3 : decide ((9 : Int) < (r.on.length : Int)) = true := by simp at hc ⊢; omega
          have hall := all_take_false (p := fun l : Rq => decide ((l.on.length : Int) ≤ 9)) (take_get hx2 hl) hc
          rw [hall] at ht
          simp [-getElem?_pos, -List.getElem?_map, -decide_eq_true_eq, -decide_eq_false_iff_not, Qu.cells, hk1, hk2, hx1, hg, d3]
          simp [ht]
        · have d3 : decide ((9 : Int) < (r.on.length : Int)) = false := by simp at hc ⊢; omega
          have hround := hJ _ _ ⟨k + 1, hlt, rfl, inv_next (p := fun l : Rq => decide ((l.on.length : Int) ≤ 9)) hinv (take_get hx2 hl) hc, rfl⟩
          simp [-getElem?_pos, -List.getElem?_map, -decide_eq_true_eq, -decide_eq_false_iff_not, -List.length_take, Qu.cells, hk1, hk2, hx1, hg, d3, hw]
          exact ⟨_, _, (by omega : (q.rs.take 9).length - (k + 1) < (q.rs.take 9).length - k), Sub.mk (by simp) (by simp [Qu.cells]), hround⟩
      · have hall := all_of_take (p := fun l : Rq => decide ((l.on.length : Int) ≤ 9)) (l := q.rs.take 9) (fun j x hj => hinv j x (by omega))
        rw [hall] at ht
        have hx : (decide (k < q.rs.length) && decide ((k : Int) < 9)) = false := by simp; omega
        cases hc1 : decide (k < q.rs.length) <;> rw [hc1] at hx <;> simp only [Bool.true_and, Bool.false_and] at hx
        all_goals
          cases hc2 : decide ((q.ms.length : Int) ≤ 6)
          all_goals
            rw [hc2] at ht
            simp [-getElem?_pos, -decide_eq_true_eq, -decide_eq_false_iff_not, Qu.cells, hc1, hx, hc2, ht]
end Go.Proofs.Ytohhjnpiiackjaa
/-! Contracts of layer 10's law (queue): Queue and Back, copies. -/
namespace Go.Proofs.Ytohhjnpiiackjaa
open Go.RowKit
attribute [local simp] Box.purge Site.isLoc
set_option maxRecDepth 10000
set_option linter.unusedSimpArgs false
attribute [local simp] retFz frzL AS.frz AV.frz AV.frzL Box.frz AS.tidy AS.frzC
def quK (q : Qu) (k : Nat) : AS := ⟨[(1, .ptr (.loc 1 0) 0), (2, .ptr (.loc 2 0) 0), (3, .ptr (.loc 3 0) 0), (4, .pv (.int .i64 k))], [(.loc 52 0, .arr 78 1 ((q.ms.take k).map rgsP)), (.loc 3 0, .cells [.vec (.loc 52 0) 1 0 k, .pv (.emp (some true))]), (.loc 1 0, .cells q.cells), (.loc 2 0, .cells [.pv (.emp (some true)), .pv (.emp (some true))])]⟩
def quI (q : Qu) (k : Nat) (l : List Rg) (i : Nat) : AS := ⟨(5, .vec (.loc 47 0) 2 0 i) :: (6, .pv (.int .i64 i)) :: (quK q k).tm, (.loc 47 0, .arr 95 2 ((l.take i).map Rg.pv)) :: (quK q k).bx⟩
def quR (q : Qu) (k : Nat) : AS := ⟨[(1, .ptr (.loc 1 0) 0), (2, .ptr (.loc 2 0) 0), (3, .ptr (.loc 3 0) 0), (7, .pv (.int .i64 k))], [(.loc 78 0, .arr 77 3 ((q.rs.take k).map Rq.pv)), (.loc 52 0, .arr 78 1 (q.ms.map rgsP)), (.loc 3 0, .cells [.vec (.loc 52 0) 1 0 q.ms.length, .vec (.loc 78 0) 3 0 k]), (.loc 1 0, .cells q.cells), (.loc 2 0, .cells [.pv (.emp (some true)), .pv (.emp (some true))])]⟩
set_option maxHeartbeats 16000000 in
theorem queue_c (q : Qu) (h1 : q.ms.length ≤ 1000) (h2 : q.rs.length ≤ 1000) (h3 : ∀ l ∈ q.ms, l.length ≤ 1000) (h4 : ∀ r ∈ q.rs, r.on.length ≤ 1000) : CallsA Try.prog 19 ([q.pv].map .pv) [] (fun r B => r = .pv q.pv ∧ B = []) := by
  refine calls_of_awpF [.loc 52 0, .loc 78 0] mixed L19_ok (Nat.le_of_ble_eq_true rfl) ?_
  generalize hR : (fun (r : AV) (B : List (Site × Box)) => r = .pv q.pv ∧ B = []) = R
  simp [-getElem?_pos, L19, Qu.pv]
  refine awp_loopS (fun n τ => ∃ k : Nat, k ≤ q.ms.length ∧ n = q.ms.length - k ∧ τ = quK q k) ⟨q.ms.length, quK q 0, Sub.trans' (Sub.mk (by simp [quK, AS.vecC]) (by simp [quK, AS.vecC, Qu.cells])) (vecC 52 78 1 (s := .loc 3 0) (cs := [.pv (.emp (some true)), .pv (.emp (some true))]) 0 rfl rfl (by decide)), 0, by omega, rfl, rfl⟩ ?_
  rintro J hJ n τ ⟨k, hk, rfl, rfl⟩
  by_cases hlt : k < q.ms.length
  · obtain ⟨l, hl⟩ : ∃ l, q.ms[k]? = some l := ⟨q.ms[k], List.getElem?_eq_getElem hlt⟩
    have hll := h3 l (List.mem_of_getElem? hl)
    have hg : (q.ms.map rgsP)[k]? = some (.lst false 2 (l.map Rg.pv)) := by rw [List.getElem?_map, hl]; rfl
    have hw : IntKind.i64.wrap ((k : Int) + 1) = ((k + 1 : Nat) : Int) := by rw [wrap64 (by omega)]; omega
    have hround := hJ _ _ ⟨k + 1, hlt, rfl, rfl⟩
    have htk : (q.ms.take (k + 1)).map rgsP = (q.ms.take k).map rgsP ++ [.lst false 2 (l.map Rg.pv)] := by rw [List.take_add_one, hl]; simp [rgsP]
    have hk6 : k + 1 ≤ 1000000 := by omega
    have htl : ((q.ms.take k).map rgsP).length = k := by rw [List.length_map, List.length_take]; omega
    have hmeas : q.ms.length - (k + 1) < q.ms.length - k := by omega
    clear hJ
    generalize hTL : (q.ms.take k).map rgsP = TL at *
    simp [-getElem?_pos, -List.getElem?_map, quK, Qu.cells, hlt, hTL]
    refine awp_loopS (fun n τ => ∃ i : Nat, i ≤ l.length ∧ n = l.length - i ∧ τ = quI q k l i) ⟨l.length, quI q k l 0, Sub.trans' (Sub.mk (by simp [quI, quK, AS.vecT]) (by simp [quI, quK, AS.vecT, Qu.cells, hTL])) (vecT 47 95 2 5 rfl (by decide)), 0, by omega, rfl, rfl⟩ ?_
    rintro J2 hJ2 n τ ⟨i, hi, rfl, rfl⟩
    by_cases hlt2 : i < l.length
    · obtain ⟨r, hr⟩ : ∃ r, l[i]? = some r := ⟨l[i], List.getElem?_eq_getElem hlt2⟩
      have hgr : (l.map Rg.pv)[i]? = some (.agg [.int .i64 r.lo, .int .i64 r.hi]) := by rw [List.getElem?_map, hr]; rfl
      have hwi : IntKind.i64.wrap ((i : Int) + 1) = ((i + 1 : Nat) : Int) := by rw [wrap64 (by omega)]; omega
      have hround2 := hJ2 _ _ ⟨i + 1, hlt2, rfl, rfl⟩
      have hti : (l.take (i + 1)).map Rg.pv = (l.take i).map Rg.pv ++ [.agg [.int .i64 r.lo, .int .i64 r.hi]] := by rw [List.take_add_one, hr]; simp [Rg.pv]
      have hi6 : i + 1 ≤ 1000000 := by omega
      have htil : ((l.take i).map Rg.pv).length = i := by rw [List.length_map, List.length_take]; omega
      have hmeas2 : l.length - (i + 1) < l.length - i := by omega
      clear hJ2
      generalize hTI : (l.take i).map Rg.pv = TI at *
      simp [-getElem?_pos, -List.getElem?_map, -decide_eq_true_eq, quI, quK, Qu.cells, hlt, hlt2, hg, hgr, nble, nblt, hwi, hi6, hTI, htil, hTL]
      refine ⟨_, _, hmeas2, Sub.mk ?_ ?_, hround2⟩
      · simp [quI, quK]
      · simp [quI, quK, Qu.cells, -List.map_take, -List.take_succ_cons, hti, hTL]
    · have he : i = l.length := by omega
      subst he
      clear hJ2
      have hlm : (l.map Rg.pv).take l.length = l.map Rg.pv := List.take_of_length_le (by simp)
      simp [-getElem?_pos, -List.getElem?_map, -decide_eq_true_eq, quI, quK, Qu.cells, hlt, hg, nble, nblt, hlm, hw, hk6, hTL, htl]
      refine ⟨_, _, hmeas, Sub.mk ?_ ?_, hround⟩
      · simp [quK]
      · simp [quK, Qu.cells, -List.map_take, -List.take_succ_cons, htk, hTL]
  · have he : k = q.ms.length := by omega
    subst he
    clear hJ
    simp [-getElem?_pos, -List.getElem?_map, -decide_eq_true_eq, quK, Qu.cells]
    refine awp_loopS (fun n τ => ∃ k : Nat, k ≤ q.rs.length ∧ n = q.rs.length - k ∧ τ = quR q k) ⟨q.rs.length, quR q 0, Sub.trans' (Sub.mk (by simp [quR, AS.vecC]) (by simp [quR, AS.vecC, Qu.cells])) (vecC 78 77 3 (s := .loc 3 0) (cs := [.vec (.loc 52 0) 1 0 q.ms.length, .pv (.emp (some true))]) 1 rfl rfl (by decide)), 0, by omega, rfl, rfl⟩ ?_
    rintro J hJ n τ ⟨k, hk, rfl, rfl⟩
    by_cases hlt : k < q.rs.length
    · obtain ⟨r, hr⟩ : ∃ r, q.rs[k]? = some r := ⟨q.rs[k], List.getElem?_eq_getElem hlt⟩
      have hro := h4 r (List.mem_of_getElem? hr)
      have hg : (q.rs.map Rq.pv)[k]? = some (.agg [.int .i64 r.hours, .int .i64 r.ready, .lst false 1 (r.on.map PV.bool)]) := by rw [List.getElem?_map, hr]; rfl
      have hw : IntKind.i64.wrap ((k : Int) + 1) = ((k + 1 : Nat) : Int) := by rw [wrap64 (by omega)]; omega
      have hround := hJ _ _ ⟨k + 1, hlt, rfl, rfl⟩
      have htk : (q.rs.take (k + 1)).map Rq.pv = (q.rs.take k).map Rq.pv ++ [.agg [.int .i64 r.hours, .int .i64 r.ready, .lst false 1 (r.on.map PV.bool)]] := by rw [List.take_add_one, hr]; simp [Rq.pv, onP]
      have hk6 : k + 1 ≤ 1000000 := by omega
      have hon : r.on.length ≤ 1000000 := by omega
      have htl : ((q.rs.take k).map Rq.pv).length = k := by rw [List.length_map, List.length_take]; omega
      have hol : (r.on.map PV.bool).take r.on.length = r.on.map PV.bool := List.take_of_length_le (by simp)
      have hmeas : q.rs.length - (k + 1) < q.rs.length - k := by omega
      clear hJ
      generalize hTL : (q.rs.take k).map Rq.pv = TL at *
      simp [-getElem?_pos, -List.getElem?_map, -decide_eq_true_eq, quR, Qu.cells, hlt, hg, nble, nblt, hw, hk6, hTL, htl, hon, hol]
      refine ⟨_, _, hmeas, Sub.mk ?_ ?_, hround⟩
      · simp [quR]
      · simp [quR, Qu.cells, -List.map_take, -List.take_succ_cons, htk, hTL]
    · have he : k = q.rs.length := by omega
      subst he
      clear hJ
      have hm1 : (q.ms.map rgsP).take q.ms.length = q.ms.map rgsP := List.take_of_length_le (by simp)
      have hm2 : (q.rs.map Rq.pv).take q.rs.length = q.rs.map Rq.pv := List.take_of_length_le (by simp)
      simp [-getElem?_pos, -List.getElem?_map, -decide_eq_true_eq, quR, Qu.cells, hm1, hm2]
      rw [← hR]
      simp [Qu.pv]
def bkK (q : Qu) (k : Nat) : AS := ⟨[(1, .ptr (.loc 1 0) 0), (2, .ptr (.loc 2 0) 0), (3, .ptr (.loc 3 0) 0), (4, .pv (.int .i64 k))], [(.loc 52 0, .arr 84 1 ((q.ms.take k).map rgsP)), (.loc 3 0, .cells [.vec (.loc 52 0) 1 0 k, .pv (.emp (some true))]), (.loc 1 0, .cells q.cells), (.loc 2 0, .cells [.pv (.emp (some true)), .pv (.emp (some true))])]⟩
def bkI (q : Qu) (k : Nat) (l : List Rg) (i : Nat) : AS := ⟨(5, .vec (.loc 47 0) 2 0 i) :: (6, .pv (.int .i64 i)) :: (bkK q k).tm, (.loc 47 0, .arr 101 2 ((l.take i).map Rg.pv)) :: (bkK q k).bx⟩
def bkR (q : Qu) (k : Nat) : AS := ⟨[(1, .ptr (.loc 1 0) 0), (2, .ptr (.loc 2 0) 0), (3, .ptr (.loc 3 0) 0), (7, .pv (.int .i64 k))], [(.loc 78 0, .arr 70 3 ((q.rs.take k).map Rq.pv)), (.loc 52 0, .arr 84 1 (q.ms.map rgsP)), (.loc 3 0, .cells [.vec (.loc 52 0) 1 0 q.ms.length, .vec (.loc 78 0) 3 0 k]), (.loc 1 0, .cells q.cells), (.loc 2 0, .cells [.pv (.emp (some true)), .pv (.emp (some true))])]⟩
end Go.Proofs.Ytohhjnpiiackjaa
/-! Contracts of layer 10's law (queue): copies of lists, lists compared, what runs need. -/
namespace Go.Proofs.Ytohhjnpiiackjaa
open Go.RowKit
attribute [local simp] Box.purge Site.isLoc
set_option maxRecDepth 10000
set_option linter.unusedSimpArgs false
attribute [local simp] retFz frzL AS.frz AV.frz AV.frzL Box.frz AS.tidy AS.frzC
def intP (n : Int) : PV := .int .i64 n
def intsP (l : List Int) : PV := .lst false 1 (l.map intP)
def planP (p : List (List Int)) : PV := .lst false 1 (p.map intsP)
structure Ls where
  m : Int
  h : Int
def Ls.pv (x : Ls) : PV := .agg [.int .i64 x.m, .int .i64 x.h]
def lossP (l : List Ls) : PV := .lst false 2 (l.map Ls.pv)
theorem wrapS {k : Nat} (h : k ≤ 1000000) : IntKind.i64.wrap ((k : Int) + 1) = ((k + 1 : Nat) : Int) := by rw [wrap64 (by omega)]; omega
theorem all_c (q : Qu) (hr : q.rs.length ≤ 1000) : Gives Try.prog 47 [q.pv] (intsP ((List.range q.rs.length).map Int.ofNat)) := by
  refine calls_of_awpF [.loc 15 0] mixed L47_ok (Nat.le_of_ble_eq_true rfl) ?_
  generalize hR : (fun (r : AV) (B : List (Site × Box)) => r = .pv (intsP ((List.range q.rs.length).map Int.ofNat)) ∧ B = []) = R
  simp [-getElem?_pos, L47, Qu.pv]
  refine awp_loopS (fun n τ => ∃ k : Nat, k ≤ q.rs.length ∧ n = q.rs.length - k ∧ τ = ⟨[(1, .ptr (.loc 1 0) 0), (3, .vec (.loc 15 0) 1 0 k), (4, .pv (.int .i64 k))], [(.loc 15 0, .arr 3 1 ((List.range k).map fun i : Nat => .int .i64 i)), (.loc 1 0, .cells q.cells)]⟩) ⟨q.rs.length, _, Sub.trans' (Sub.mk (by simp [AS.vecT]) (by simp [AS.vecT, Qu.cells])) (vecT 15 3 1 3 rfl (by decide)), 0, by omega, rfl, rfl⟩ ?_
  rintro J hJ n τ ⟨k, hk, rfl, rfl⟩
  by_cases hlt : k < q.rs.length
  · have hw := wrapS (k := k) (by omega)
    have hround := hJ _ _ ⟨k + 1, hlt, rfl, rfl⟩
    have htk : ((List.range (k + 1)).map fun i : Nat => PV.int .i64 i) = ((List.range k).map fun i : Nat => PV.int .i64 i) ++ [.int .i64 k] := by rw [List.range_succ]; simp
    have hk6 : k + 1 ≤ 1000000 := by omega
    have htl : ((List.range k).map fun i : Nat => PV.int .i64 i).length = k := by simp
    have hmeas : q.rs.length - (k + 1) < q.rs.length - k := by omega
    clear hJ
    generalize hTL : ((List.range k).map fun i : Nat => PV.int .i64 i) = TL at *
    simp [-getElem?_pos, -List.getElem?_map, -decide_eq_true_eq, Qu.cells, hlt, nble, nblt, hw, hk6, htl]
    refine ⟨_, _, hmeas, Sub.mk ?_ ?_, hround⟩
    · simp
    · simp [htk, Qu.cells]
  · have he : k = q.rs.length := by omega
    subst he
    clear hJ
    have hm : (((List.range q.rs.length).map fun i : Nat => PV.int .i64 i)).take q.rs.length = ((List.range q.rs.length).map fun i : Nat => PV.int .i64 i) := List.take_of_length_le (by simp)
    simp [-getElem?_pos, -List.getElem?_map, -decide_eq_true_eq, Qu.cells, nblt, hm]
    rw [← hR]
    refine ⟨?_, rfl⟩
    simp [intsP]
    intro a _; rfl
end Go.Proofs.Ytohhjnpiiackjaa
/-! Contracts of layer 10's law (queue): short plans, lists compared, what runs need, rising lists. -/
namespace Go.Proofs.Ytohhjnpiiackjaa
open Go.RowKit
attribute [local simp] Box.purge Site.isLoc
set_option maxRecDepth 10000
set_option linter.unusedSimpArgs false
attribute [local simp] retFz frzL AS.frz AV.frz AV.frzL Box.frz AS.tidy AS.frzC
theorem ints_c (a b : List Int) (ha : a.length ≤ 1000000) : Gives Try.prog 34 [intsP a, intsP b] (.bool (decide (a = b))) := by
  obtain ⟨T, hT⟩ : ∃ T, T = decide (a = b) := ⟨_, rfl⟩
  rw [← hT]
  refine calls_of_awpS mixed L34_ok (Nat.le_of_ble_eq_true rfl) ?_
  by_cases hlen : a.length = b.length
  · simp [-getElem?_pos, L34, intsP, hlen]
    refine awp_loopS (fun n τ => ∃ k : Nat, k ≤ a.length ∧ n = a.length - k ∧ (∀ j : Nat, j < k → a[j]? = b[j]?) ∧ τ = ⟨[(0, .pv (intsP a)), (1, .pv (intsP b)), (5, .pv (.int .i64 k))], []⟩)
      ⟨a.length, ⟨[(0, .pv (intsP a)), (1, .pv (intsP b)), (5, .pv (.int .i64 0))], []⟩, Sub.mk (by simp [intsP]) (by simp), 0, Nat.zero_le _, rfl, (fun j hj => by omega), rfl⟩ ?_
    rintro J hJ n τ ⟨k, hk, rfl, hinv, rfl⟩
    by_cases hlt : k < a.length
    · obtain ⟨x, hx⟩ : ∃ l, a[k]? = some l := ⟨a[k], List.getElem?_eq_getElem hlt⟩
      obtain ⟨y, hy⟩ : ∃ l, b[k]? = some l := ⟨b[k], List.getElem?_eq_getElem (by omega)⟩
      have hg1 : (a.map intP)[k]? = some (.int .i64 x) := by rw [List.getElem?_map, hx]; rfl
      have hg2 : (b.map intP)[k]? = some (.int .i64 y) := by rw [List.getElem?_map, hy]; rfl
      have hw := wrapS (k := k) (by omega)
      by_cases hxy : x = y
      · subst hxy
        have hround := hJ _ _ ⟨k + 1, hlt, rfl, (fun j hj => by
          rcases Nat.lt_succ_iff_lt_or_eq.1 hj with h | h
          · exact hinv j h
          · subst h; rw [hx, hy]), rfl⟩
        simp [-getElem?_pos, -List.getElem?_map, intsP, hlt, hg1, hg2, hw]
        exact ⟨_, _, (by omega : a.length - (k + 1) < a.length - k), Sub.mk (by simp [intsP]) (by simp), hround⟩
      · have hne : a ≠ b := fun e => by subst e; rw [hx] at hy; cases hy; exact hxy rfl
        have hd : decide (x = y) = false := by simpa using hxy
        simp [-getElem?_pos, -List.getElem?_map, intsP, hlt, hg1, hg2, hxy]
        simp [hT, hne]
    · have he : k = a.length := by omega
      have heq : a = b := by
        apply List.ext_getElem? 
        intro j
        by_cases hj : j < a.length
        · exact hinv j (by omega)
        · rw [List.getElem?_eq_none (by omega), List.getElem?_eq_none (by omega)]
      subst he
      simp [-getElem?_pos, -List.getElem?_map, intsP]
      simp [hT, heq]
  · have hne : a ≠ b := fun e => hlen (by rw [e])
    have h1 : ¬ ((a.length : Int) = (b.length : Int)) := by omega
    simp [-getElem?_pos, L34, intsP, h1, hlen]
    simp [hT, hne]
structure Qu.small (q : Qu) : Prop where
  m : q.ms.length ≤ 6
  r : q.rs.length ≤ 8
  s : ∀ l ∈ q.ms, l.length ≤ 9
  f : ∀ r ∈ q.rs, r.on.length ≤ 9
theorem Qu.small_of {q : Qu} (h : q.thin = true) : q.small := by
  simp only [Qu.thin, Bool.and_eq_true, List.all_eq_true, decide_eq_true_eq] at h
  obtain ⟨⟨h1, h2⟩, h3, h4⟩ := h
  have h3' : q.ms.length ≤ 6 := by omega
  have h4' : q.rs.length ≤ 8 := by omega
  rw [List.take_of_length_le (by omega)] at h1 h2
  exact ⟨h3', h4', fun l hl => by have := h1 l hl; omega, fun r hr => by have := h2 r hr; omega⟩
def Qu.readyB (q : Qu) : Bool := q.thin && decide (q.check = 0)
theorem ready_c (q : Qu) : Gives Try.prog 49 [q.pv] (.bool q.readyB) := by
  refine calls_of_awpS mixed L49_ok (Nat.le_of_ble_eq_true rfl) ?_
  simp [-getElem?_pos, L49, Qu.pv]
  refine call_gives (k := 0) (fs := []) (xs := [q.pv]) (cs := []) rfl rfl (thin_c q) rfl ?_
  cases ht : q.thin
  · simp [-getElem?_pos, Qu.readyB, ht]
  · have hs := Qu.small_of ht
    simp [-getElem?_pos]
    refine call_gives (k := 0) (fs := []) (xs := [q.pv]) (cs := []) rfl rfl (fault_c q (by have := hs.m; omega) (by have := hs.r; omega) (fun l hl => by have := hs.s l hl; omega)) rfl ?_
    simp [-getElem?_pos, Qu.readyB, ht]
/-- What the runs of a list need. -/
def Qu.hrs (q : Qu) (i : Int) : Int := ((q.rs[i.toNat]?).map Rq.hours).getD 0
def Qu.needs (q : Qu) (l : List Int) : Int := (l.map q.hrs).sum
theorem Qu.hrs_bd {q : Qu} (hh : ∀ r ∈ q.rs, 0 ≤ r.hours ∧ r.hours ≤ 40) (i : Int) : 0 ≤ q.hrs i ∧ q.hrs i ≤ 40 := by
  unfold Qu.hrs
  cases h : q.rs[i.toNat]? with
  | none => simp
  | some r => exact hh r (List.mem_of_getElem? h)
theorem Qu.needs_bd {q : Qu} (hh : ∀ r ∈ q.rs, 0 ≤ r.hours ∧ r.hours ≤ 40) : ∀ l : List Int, 0 ≤ q.needs l ∧ q.needs l ≤ 40 * l.length
  | [] => by simp [Qu.needs]
  | a :: l => by
    have h1 := Qu.needs_bd hh l
    have h2 := q.hrs_bd hh a
    have e : q.needs (a :: l) = q.hrs a + q.needs l := by simp [Qu.needs]
    rw [e, List.length_cons]
    omega
theorem Qu.needs_app (q : Qu) (a b : List Int) : q.needs (a ++ b) = q.needs a + q.needs b := by simp [Qu.needs]
theorem needs_c (q : Qu) (l : List Int) (hl : l.length ≤ 1000) (hr : q.rs.length ≤ 1000) (hh : ∀ r ∈ q.rs, 0 ≤ r.hours ∧ r.hours ≤ 40) (hin : ∀ x ∈ l, 0 ≤ x ∧ x < q.rs.length) : Gives Try.prog 33 [q.pv, intsP l] (.int .i64 (q.needs l)) := by
  refine calls_of_awpS mixed L33_ok (Nat.le_of_ble_eq_true rfl) ?_
  simp [-getElem?_pos, L33, Qu.pv, intsP]
  refine awp_loopS (fun n τ => ∃ k : Nat, k ≤ l.length ∧ n = l.length - k ∧ τ = ⟨[(1, .pv (intsP l)), (2, .ptr (.loc 2 0) 0), (5, .pv (.int .i64 (q.needs (l.take k)))), (6, .pv (.int .i64 k))], [(.loc 2 0, .cells q.cells)]⟩)
    ⟨l.length, ⟨[(1, .pv (intsP l)), (2, .ptr (.loc 2 0) 0), (5, .pv (.int .i64 0)), (6, .pv (.int .i64 0))], [(.loc 2 0, .cells q.cells)]⟩, Sub.mk (by simp [intsP]) (by simp [Qu.cells]), 0, Nat.zero_le _, rfl, by simp [Qu.needs]⟩ ?_
  rintro J hJ n τ ⟨k, hk, rfl, rfl⟩
  by_cases hlt : k < l.length
  · obtain ⟨x, hx⟩ : ∃ x, l[k]? = some x := ⟨l[k], List.getElem?_eq_getElem hlt⟩
    obtain ⟨hx0, hx1⟩ := hin x (List.mem_of_getElem? hx)
    obtain ⟨i, rfl⟩ : ∃ i : Nat, x = i := ⟨x.toNat, by omega⟩
    obtain ⟨r, hr'⟩ : ∃ r, q.rs[i]? = some r := ⟨q.rs[i]'(by omega), List.getElem?_eq_getElem _⟩
    have hg1 : (l.map intP)[k]? = some (.int .i64 i) := by rw [List.getElem?_map, hx]; rfl
    have hg2 : (q.rs.map Rq.pv)[i]? = some (.agg [.int .i64 r.hours, .int .i64 r.ready, onP r.on]) := by rw [List.getElem?_map, hr']; rfl
    have hw := wrapS (k := k) (by omega)
    have htk : q.needs (l.take (k + 1)) = q.needs (l.take k) + r.hours := by
      rw [List.take_add_one, hx, Qu.needs_app]
      simp [Qu.needs, Qu.hrs, hr']
    have hb := Qu.needs_bd hh (l.take k)
    have hb2 : (l.take k).length ≤ 1000 := by rw [List.length_take]; omega
    have hb3 := hh r (List.mem_of_getElem? hr')
    have hw2 : IntKind.i64.wrap (q.needs (l.take k) + r.hours) = q.needs (l.take k) + r.hours := wrap64 (by omega)
    have hround := hJ _ _ ⟨k + 1, hlt, rfl, rfl⟩
    clear hJ
    simp [-getElem?_pos, -List.getElem?_map, intsP, Qu.cells, hlt, hg1, hg2, hw, hw2]
    refine ⟨_, _, (by omega : l.length - (k + 1) < l.length - k), Sub.mk ?_ ?_, hround⟩
    · simp [intsP, htk]
    · simp [Qu.cells]
  · have he : k = l.length := by omega
    subst he
    simp [-getElem?_pos, -List.getElem?_map, intsP, Qu.cells]
end Go.Proofs.Ytohhjnpiiackjaa
