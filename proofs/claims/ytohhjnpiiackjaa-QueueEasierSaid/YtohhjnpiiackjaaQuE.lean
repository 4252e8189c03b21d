/- Contracts of layer 10 (queue): the closure of Reason. (Several texts in one.) -/
import Derived.Test.YtohhjnpiiackjaaQuD
import Derived.Test.YtohhjnpiiackjaaBaseD
import Derived.Test.YtohhjnpiiackjaaQuB
set_option linter.unusedVariables false
set_option linter.unusedSimpArgs false
/-! Contracts of layer 10 (queue): the closure of Reason. -/
namespace Go.Proofs.Ytohhjnpiiackjaa
open Go.RowKit
set_option maxRecDepth 10000
set_option linter.unusedSimpArgs false
attribute [local simp] AS.exp expG Box.ren AV.map AV.mapL outsOk noRet Site.isRet Box.allS AV.allS AV.allSL retB dropL AS.adds renL outG outOk lentBx inG fnOf lookA List.findIdx?_cons
attribute [local simp] Box.purge Site.isLoc
attribute [local simp] frzL AS.frz AV.frz AV.frzL Box.frz AS.tidy AS.frzC
def iv (l : List Int) : List PV := l.map (PV.int .i64)
theorem iv_len {l : List Int} : (iv l).length = l.length := by simp [iv]
theorem iv_take {l : List Int} {k : Nat} : (iv l).take k = iv (l.take k) := by simp [iv, List.map_take]
def oP : Option (List Int) → PV
  | none => .emp (some true)
  | some l => intsP l
/-- The runs from one on, one after the other. -/
def loopR (rec : Nat → Option (List Int) → Option (List Int) × Bool) : Nat → Nat → Option (List Int) → Option (List Int) × Bool
  | 0, _, o => (o, false)
  | f + 1, k, o => if (rec k o).2 = true then rec k o else loopR rec f (k + 1) (rec k o).1
def fromM (q : Qu) (u : Nat) : Nat → List Int → Nat → Option (List Int) → Option (List Int) × Bool
  | 0, L, _, _ => (some L, decide ((q.roomM L u : Int) < q.needs L))
  | m + 1, L, next, o => loopR (fun k o => fromM q u m (L ++ [(k : Int)]) (k + 1) o) (q.rs.length - next) next o
theorem cloneL_c (l X : List Int) (hl : X.take l.length = l) (h0 : 0 < l.length) (h1 : l.length ≤ 1000) : CallsA Try.prog 62 [.vec (.par 0) 1 0 l.length] [(.par 0, .arr 3 1 (iv X))] (fun r B => r = .vec (.ret 0) 1 0 l.length ∧ B = [(.ret 0, .arr 3 1 (iv l)), (.par 0, .arr 3 1 (iv X))]) := by
  refine calls_of_awpB [.loc 7 0, .par 0] mixed L62_ok (Nat.le_of_ble_eq_true rfl) ?_
  have hXl : l.length ≤ X.length := by rw [← hl, List.length_take]; omega
  have ht : (iv X).take l.length = iv l := by rw [iv_take, hl]
  have hne : ¬ l.length = 0 := by omega
  have hl6 : l.length ≤ 1000000 := by omega
  simp [-getElem?_pos, L62, nilOf, hne, iv_len, hXl, ht, nble, hl6]
def frF : AV := .fn 66 [] [.ptr (.par 0) 0, .ptr (.par 1) 0, .ptr (.par 2) 0, .ptr (.par 3) 0]
def frB (q : Qu) (u : Nat) (o : Option (List Int)) : List Box := [.cells [.pv (oP o)], .cells q.cells, .cells [.pv (.int .i64 u)], .cells [frF]]
/-- The list is one's own (b), or nil. -/
def frA (b : Bool) (L : List Int) : AV := match b with
  | true => .vec (.par 4) 1 0 L.length
  | false => .pv (.emp (some true))
def frX (b : Bool) (X : List Int) : List Box := match b with
  | true => [.arr 3 1 (iv X)]
  | false => []
def FromC (q : Qu) (u m : Nat) (b : Bool) : Prop := ∀ (L X : List Int) (next : Nat) (o : Option (List Int)), L.length + m ≤ 12 → (∀ x ∈ L, 0 ≤ x ∧ x < q.rs.length) → X.take L.length = L → (b = true → 0 < L.length) → (b = false → L = [] ∧ 0 < m) → next ≤ q.rs.length →
  CallsA Try.prog 66 [frA b L, .pv (.int .i64 next), .pv (.int .i64 (q.needs L)), .pv (.int .i64 m), .ptr (.par 0) 0, .ptr (.par 1) 0, .ptr (.par 2) 0, .ptr (.par 3) 0] (laid 0 (frB q u o ++ frX b X))
    (fun r B => r = .pv (.bool (fromM q u m L next o).2) ∧ ∃ X' : List Int, X'.take L.length = L ∧ B = laid 0 (frB q u (fromM q u m L next o).1 ++ frX b X'))
theorem from_0 (q : Qu) (hq : q.ok) (u : Nat) (hu : u ≤ 40) : FromC q u 0 true := by
  intro L X next o hL hin hX hb _ hnext
  have h0 := hb rfl
  have hXl : L.length ≤ X.length := by rw [← hX, List.length_take]; omega
  have ht : (iv X).take L.length = iv L := by rw [iv_take, hX]
  have hcl := cloneL_c L X hX h0 (by omega)
  have hrm := room_c q hq L (by omega) hin u (by omega)
  refine calls_of_awpX mixed L66_ok (Nat.le_of_ble_eq_true rfl) ?_
  generalize hR : (fun (r : AV) (B : List (Site × Box)) => r = .pv (.bool (fromM q u 0 L next o).2) ∧ ∃ X' : List Int, X'.take L.length = L ∧ B = laid 0 (frB q u (fromM q u 0 L next o).1 ++ frX true X')) = R
  simp [-getElem?_pos, L66, frA, frB, frX, laid, frF, Qu.cells]
  refine call_lent (as' := [.vec (.par 0) 1 0 L.length]) (B := [(.par 0, .arr 3 1 (iv X))]) (fs := []) (cs := []) 17 [.par 4] ?_ rfl rfl ?_ ?_ ?_ hcl ?_
  · rfl
  · simp
  · rfl
  · rfl
  rintro r0 B0 ⟨rfl, rfl⟩
  refine ⟨rfl, by simp, ?_⟩
  simp [-getElem?_pos]
  refine call_gives (k := 1) (fs := []) (xs := [q.pv, intsP L, .int .i64 u]) (cs := []) rfl ?_ hrm rfl ?_
  · simp [snapW, AV.snap, AV.snap0, iv_len, hXl, ht, Qu.pv]
    rfl
  simp [-getElem?_pos]
  refine ⟨[.loc 17 0], [.par 0, .par 1, .par 2, .par 3, .par 4], ?_⟩
  have htL : (iv L).take L.length = iv L := List.take_of_length_le (by simp [iv])
  simp [iv_len, htL, fnA, unpvs]
  rw [← hR]
  refine ⟨rfl, X, hX, ?_⟩
  simp [frB, frX, frF, laid, fromM, oP, intsP, iv, Qu.cells]
  exact fun _ _ => rfl
def frE (b : Bool) : Site := match b with
  | true => .par 4
  | false => .loc 99 0
def frV (q : Qu) (m : Nat) (b : Bool) (L : List Int) (k : Nat) : List (Nat × AV) := [(0, .vec (frE b) 1 0 L.length), (2, .pv (.int .i64 (q.needs L))), (3, .pv (.int .i64 (m + 1 : Nat))), (4, .ptr (.par 0) 0), (5, .ptr (.par 1) 0), (6, .ptr (.par 2) 0), (7, .ptr (.par 3) 0), (13, .pv (.int .i64 k))]
def frH (q : Qu) (u m : Nat) (b : Bool) (L X : List Int) (k : Nat) (o : Option (List Int)) : AS := ⟨frV q m b L k, (frE b, .arr 3 1 (iv X)) :: laid 0 (frB q u o)⟩
/-- Behind the append: a new list; the old one made longer. -/
def frW (q : Qu) (m : Nat) (L : List Int) (k : Nat) (s : Site) (L2 : List Int) : List (Nat × AV) := [(32, frF), (36, .vec s 1 0 (L.length + 1)), (38, .pv (.int .i64 (k + 1 : Nat))), (46, .pv (.int .i64 (q.needs L2))), (48, .pv (.int .i64 m))]
def frP (q : Qu) (u m : Nat) (b : Bool) (L X : List Int) (k : Nat) (o : Option (List Int)) (L2 : List Int) : AS := ⟨frW q m L k (.loc 36 0) L2 ++ frV q m b L k, (.loc 36 0, .arr 3 1 (iv L2)) :: (frE b, .arr 3 1 (iv X)) :: laid 0 (frB q u o)⟩
def frQ (q : Qu) (u m : Nat) (b : Bool) (L : List Int) (k : Nat) (o : Option (List Int)) (L2 : List Int) : AS := ⟨frW q m L k (frE b) L2 ++ frV q m b L k, (frE b, .arr 3 1 (iv L2)) :: laid 0 (frB q u o)⟩
set_option maxHeartbeats 16000000 in
theorem from_t (q : Qu) (hq : q.ok) (u m : Nat) (ih : FromC q u m true) : FromC q u (m + 1) true := by
  intro L X0 next o0 hL hin hX0 hb hb2 hnext
  have hqr := hq.r
  refine calls_of_awpX mixed L66_ok (Nat.le_of_ble_eq_true rfl) ?_
  obtain ⟨RES, hRES⟩ : ∃ z, z = fromM q u (m + 1) L next o0 := ⟨_, rfl⟩
  rw [← hRES]
  have hE : fromM q u (m + 1) L next o0 = loopR (fun k o => fromM q u m (L ++ [(k : Int)]) (k + 1) o) (q.rs.length - next) next o0 := rfl
  rw [hE] at hRES
  clear hE
  generalize hR : (fun (r : AV) (B : List (Site × Box)) => r = .pv (.bool RES.2) ∧ ∃ X' : List Int, X'.take L.length = L ∧ B = laid 0 (frB q u RES.1 ++ frX true X')) = R
  have hm0 : ¬ ((m : Int) + 1 = 0) := by omega
  simp [-getElem?_pos, L66, frA, frB, frX, laid, frF, Qu.cells, hm0]
  refine awp_loopX (fun n τ => ∃ (k : Nat) (X : List Int) (o : Option (List Int)), k ≤ q.rs.length ∧ n = q.rs.length - k ∧ X.take L.length = L ∧ loopR (fun k o => fromM q u m (L ++ [(k : Int)]) (k + 1) o) (q.rs.length - k) k o = RES ∧ τ = frH q u m true L X k o)
    ⟨q.rs.length - next, frH q u m true L X0 next o0, Sub.mk (by simp [frV, frE]) (by simp [frB, frE, frF, laid, Qu.cells]), next, X0, o0, hnext, rfl, hX0, hRES.symm, rfl⟩ ?_
  clear hRES hX0
  rintro J hJ n τ ⟨k, X, o, hk, rfl, hX, hres, rfl⟩
  have hXl : L.length ≤ X.length := by
    have := congrArg List.length hX
    rw [List.length_take] at this; omega
  by_cases hlt : k < q.rs.length
  · obtain ⟨r, hr⟩ : ∃ r, q.rs[k]? = some r := ⟨q.rs[k], List.getElem?_eq_getElem hlt⟩
    have hg : (q.rs.map Rq.pv)[k]? = some (.agg [.int .i64 r.hours, .int .i64 r.ready, onP r.on]) := by rw [List.getElem?_map, hr]; rfl
    have hh := fun r hr => hq.h r hr
    have hh1 := hq.h r (List.mem_of_getElem? hr)
    have hw := wrapS (k := k) (by omega)
    have hmeas : q.rs.length - (k + 1) < q.rs.length - k := by omega
    have hnd : q.needs (L ++ [(k : Int)]) = q.needs L + r.hours := by rw [Qu.needs_app]; simp [Qu.needs, Qu.hrs, hr]
    have hnb := Qu.needs_bd hh L
    have hwn : IntKind.i64.wrap (q.needs L + r.hours) = q.needs L + r.hours := wrap64 (by omega)
    have hwm : IntKind.i64.wrap ((m : Int) + 1 - 1) = (m : Int) := by rw [wrap64 (by omega)]; omega
    have hwm2 : IntKind.i64.wrap (m : Int) = (m : Int) := wrap64 (by omega)
    have hin2 : ∀ x ∈ L ++ [(k : Int)], 0 ≤ x ∧ x < q.rs.length := fun x hx => by
      rcases List.mem_append.1 hx with h | h
      · exact hin x h
      · simp at h; subst h; omega
    have hsub : q.rs.length - k = (q.rs.length - (k + 1)) + 1 := by omega
    rw [hsub, loopR] at hres
    obtain ⟨S, hS⟩ : ∃ S, S = fromM q u m (L ++ [(k : Int)]) (k + 1) o := ⟨_, rfl⟩
    rw [← hS] at hres
    have ihA := ih (L ++ [(k : Int)]) (L ++ [(k : Int)]) (k + 1) o (by simp; omega) hin2 (List.take_of_length_le (Nat.le_refl _)) (fun _ => by simp) (fun h => by cases h) hlt
    rw [← hS] at ihA
    have hnext2 : S.2 = false → ∀ X', X'.take L.length = L → J (q.rs.length - (k + 1)) (frH q u m true L X' (k + 1) S.1) := fun h2 X' hX' => hJ _ _ ⟨k + 1, X', S.1, hlt, rfl, hX', by rw [if_neg (by rw [h2]; simp)] at hres; exact hres, rfl⟩
    have hstop : S.2 = true → S = RES := fun h2 => by rw [if_pos h2] at hres; exact hres
    have hlk : (L ++ [(k : Int)]).length = L.length + 1 := by simp
    rw [hlk] at ihA
    clear hJ hres ih hS hin2
    have hl1 : (iv L).length = L.length := iv_len
    have hivk : iv (L ++ [(k : Int)]) = iv L ++ [.int .i64 k] := by simp [iv]
    have hivX : (iv X).take L.length = iv L := by rw [iv_take, hX]
    have hb1 : (L.length + 1) * 8 ≤ 140737488355328 := by omega
    have hb2' : L.length + 1 ≤ 9223372036854775807 := by omega
    simp [-getElem?_pos, -List.getElem?_map, frH, frV, frE, frB, laid, frF, Qu.cells, hlt]
    refine ltX_seq2 (frP q u m true L X k o (L ++ [(k : Int)])) (frQ q u m true L k o (L ++ [(k : Int)])) ?_ ?_ ?_
    · simp [-getElem?_pos, -List.getElem?_map, ltX_alt, ltX_no, hg, hw, hwn, hwm, hwm2]
      repeat' apply And.intro
      all_goals
        refine app_keep (s := .par 4) (lo := 0) (len := L.length) (xs := iv X) (ys := [.int .i64 k]) rfl rfl ?_ ?_ ?_ ?_ ?_ ?_
        · simp
        · rw [iv_len]; omega
        · simpa using hb1
        · simpa using hb2'
        · simp [-getElem?_pos, -List.getElem?_map, hg, hw, hwn, hwm, hwm2]
          exact .inl (Sub.mk (by simp [frW, frV, frE, frF, hnd, hwm2]) (by simp [frE, frB, frF, laid, hivk, hivX, Qu.cells]))
        · simp [-getElem?_pos, -List.getElem?_map, hg, hw, hwn, hwm, hwm2]
          exact .inr (Sub.mk (by simp [frW, frV, frE, frF, hnd, hwm2]) (by simp [frE, frB, frF, laid, hivk, hivX, Qu.cells]))
    · simp [-getElem?_pos, -List.getElem?_map, ltX_alt, ltX_no, frP, frW, frV, frE, frF, frB, laid, Qu.cells]
      refine call_lent (fs := []) (cs := [.ptr (.par 0) 0, .ptr (.par 1) 0, .ptr (.par 2) 0, .ptr (.par 3) 0]) 49 [.par 0, .par 1, .par 2, .par 3, .loc 36 0] ?_ rfl rfl ?_ ?_ ?_ ihA ?_
      · rfl
      · simp [frB, frX, frF, laid, Qu.cells]
      · rfl
      · simp [frA]
      rintro r0 B0 ⟨rfl, X2, hX2, rfl⟩
      refine ⟨rfl, by simp [frB, frX, frF, laid, Qu.cells], ?_⟩
      cases hS2 : S.2
      · have hround := hnext2 hS2 X hX
        simp [-getElem?_pos, -List.getElem?_map, frB, frX, frF, laid, Qu.cells, hw]
        refine ⟨_, _, hmeas, Sub.mk ?_ ?_, hround⟩
        · simp [frV, frE]
        · simp [frE, frB, frF, laid, Qu.cells]
      · have hst := hstop hS2
        subst hst
        simp [-getElem?_pos, -List.getElem?_map, frB, frX, frF, laid, Qu.cells]
        refine ⟨[], [.par 0, .par 1, .par 2, .par 3, .par 4], ?_⟩
        simp
        rw [← hR]
        refine ⟨by rw [hS2], X, hX, ?_⟩
        simp [frB, frX, frF, laid, Qu.cells]
    · simp [-getElem?_pos, -List.getElem?_map, ltX_alt, ltX_no, frQ, frW, frV, frE, frF, frB, laid, Qu.cells]
      refine call_lent (fs := []) (cs := [.ptr (.par 0) 0, .ptr (.par 1) 0, .ptr (.par 2) 0, .ptr (.par 3) 0]) 49 [.par 0, .par 1, .par 2, .par 3, .par 4] ?_ rfl rfl ?_ ?_ ?_ ihA ?_
      · rfl
      · simp [frB, frX, frF, laid, Qu.cells]
      · rfl
      · simp [frA]
      rintro r0 B0 ⟨rfl, X2, hX2, rfl⟩
      have hX3 : X2.take L.length = L := by
        have h1 : (X2.take (L.length + 1)).take L.length = X2.take L.length := by rw [List.take_take]; congr 1; omega
        rw [← h1, hX2]; simp
      refine ⟨rfl, by simp [frB, frX, frF, laid, Qu.cells], ?_⟩
      cases hS2 : S.2
      · have hround := hnext2 hS2 X2 hX3
        simp [-getElem?_pos, -List.getElem?_map, frB, frX, frF, laid, Qu.cells, hw]
        refine ⟨_, _, hmeas, Sub.mk ?_ ?_, hround⟩
        · simp [frV, frE]
        · simp [frE, frB, frF, laid, Qu.cells]
      · have hst := hstop hS2
        subst hst
        simp [-getElem?_pos, -List.getElem?_map, frB, frX, frF, laid, Qu.cells]
        refine ⟨[], [.par 0, .par 1, .par 2, .par 3, .par 4], ?_⟩
        simp
        rw [← hR]
        refine ⟨by rw [hS2], X2, hX3, ?_⟩
        simp [frB, frX, frF, laid, Qu.cells]
  · have he : k = q.rs.length := by omega
    subst he
    rw [Nat.sub_self] at hres
    have hres' : RES = (o, false) := hres.symm
    subst hres'
    simp [-getElem?_pos, -List.getElem?_map, frH, frV, frE, frB, laid, frF, Qu.cells]
    refine ⟨[], [.par 0, .par 1, .par 2, .par 3, .par 4], ?_⟩
    simp
    rw [← hR]
    refine ⟨rfl, X, hX, ?_⟩
    simp [frB, frX, frF, laid, Qu.cells]
set_option maxHeartbeats 16000000 in
theorem from_f (q : Qu) (hq : q.ok) (u m : Nat) (ih : FromC q u m true) : FromC q u (m + 1) false := by
  intro L X0 next o0 hL hin hX0 hb hb2 hnext
  have hqr := hq.r
  refine calls_of_awpX mixed L66_ok (Nat.le_of_ble_eq_true rfl) ?_
  obtain ⟨RES, hRES⟩ : ∃ z, z = fromM q u (m + 1) L next o0 := ⟨_, rfl⟩
  rw [← hRES]
  have hE : fromM q u (m + 1) L next o0 = loopR (fun k o => fromM q u m (L ++ [(k : Int)]) (k + 1) o) (q.rs.length - next) next o0 := rfl
  rw [hE] at hRES
  clear hE
  generalize hR : (fun (r : AV) (B : List (Site × Box)) => r = .pv (.bool RES.2) ∧ ∃ X' : List Int, X'.take L.length = L ∧ B = laid 0 (frB q u RES.1 ++ frX false X')) = R
  have hm0 : ¬ ((m : Int) + 1 = 0) := by omega
  simp [-getElem?_pos, L66, frA, frB, frX, laid, frF, Qu.cells, hm0]
  have hLn : L = [] := (hb2 rfl).1
  have hL0 : L.length = 0 := by rw [hLn]; rfl
  have hiv0 : iv ([] : List Int) = [] := rfl
  refine awp_loopX (fun n τ => ∃ (k : Nat) (X : List Int) (o : Option (List Int)), k ≤ q.rs.length ∧ n = q.rs.length - k ∧ X.take L.length = L ∧ loopR (fun k o => fromM q u m (L ++ [(k : Int)]) (k + 1) o) (q.rs.length - k) k o = RES ∧ τ = frH q u m false L X k o)
    ⟨q.rs.length - next, frH q u m false L [] next o0, Sub.trans' (Sub.mk (by simp [frV, frE, AS.vecT, hL0]) (by simp [frB, frE, frF, laid, Qu.cells, AS.vecT, hiv0])) (vecT 99 3 1 0 rfl (by decide)), next, [], o0, hnext, rfl, by rw [hLn]; rfl, hRES.symm, rfl⟩ ?_
  clear hRES hX0
  rintro J hJ n τ ⟨k, X, o, hk, rfl, hX, hres, rfl⟩
  have hXl : L.length ≤ X.length := by
    have := congrArg List.length hX
    rw [List.length_take] at this; omega
  by_cases hlt : k < q.rs.length
  · obtain ⟨r, hr⟩ : ∃ r, q.rs[k]? = some r := ⟨q.rs[k], List.getElem?_eq_getElem hlt⟩
    have hg : (q.rs.map Rq.pv)[k]? = some (.agg [.int .i64 r.hours, .int .i64 r.ready, onP r.on]) := by rw [List.getElem?_map, hr]; rfl
    have hh := fun r hr => hq.h r hr
    have hh1 := hq.h r (List.mem_of_getElem? hr)
    have hw := wrapS (k := k) (by omega)
    have hmeas : q.rs.length - (k + 1) < q.rs.length - k := by omega
    have hnd : q.needs (L ++ [(k : Int)]) = q.needs L + r.hours := by rw [Qu.needs_app]; simp [Qu.needs, Qu.hrs, hr]
    have hnb := Qu.needs_bd hh L
    have hwn : IntKind.i64.wrap (q.needs L + r.hours) = q.needs L + r.hours := wrap64 (by omega)
    have hwm : IntKind.i64.wrap ((m : Int) + 1 - 1) = (m : Int) := by rw [wrap64 (by omega)]; omega
    have hwm2 : IntKind.i64.wrap (m : Int) = (m : Int) := wrap64 (by omega)
    have hin2 : ∀ x ∈ L ++ [(k : Int)], 0 ≤ x ∧ x < q.rs.length := fun x hx => by
      rcases List.mem_append.1 hx with h | h
      · exact hin x h
      · simp at h; subst h; omega
    have hsub : q.rs.length - k = (q.rs.length - (k + 1)) + 1 := by omega
    rw [hsub, loopR] at hres
    obtain ⟨S, hS⟩ : ∃ S, S = fromM q u m (L ++ [(k : Int)]) (k + 1) o := ⟨_, rfl⟩
    rw [← hS] at hres
    have ihA := ih (L ++ [(k : Int)]) (L ++ [(k : Int)]) (k + 1) o (by simp; omega) hin2 (List.take_of_length_le (Nat.le_refl _)) (fun _ => by simp) (fun h => by cases h) hlt
    rw [← hS] at ihA
    have hnext2 : S.2 = false → ∀ X', X'.take L.length = L → J (q.rs.length - (k + 1)) (frH q u m false L X' (k + 1) S.1) := fun h2 X' hX' => hJ _ _ ⟨k + 1, X', S.1, hlt, rfl, hX', by rw [if_neg (by rw [h2]; simp)] at hres; exact hres, rfl⟩
    have hstop : S.2 = true → S = RES := fun h2 => by rw [if_pos h2] at hres; exact hres
    have hlk : (L ++ [(k : Int)]).length = L.length + 1 := by simp
    rw [hlk] at ihA
    clear hJ hres ih hS hin2
    have hl1 : (iv L).length = L.length := iv_len
    have hivk : iv (L ++ [(k : Int)]) = iv L ++ [.int .i64 k] := by simp [iv]
    have hivX : (iv X).take L.length = iv L := by rw [iv_take, hX]
    have hb1 : (L.length + 1) * 8 ≤ 140737488355328 := by omega
    have hb2' : L.length + 1 ≤ 9223372036854775807 := by omega
    simp [-getElem?_pos, -List.getElem?_map, frH, frV, frE, frB, laid, frF, Qu.cells, hlt]
    refine ltX_seq2 (frP q u m false L X k o (L ++ [(k : Int)])) (frQ q u m false L k o (L ++ [(k : Int)])) ?_ ?_ ?_
    · simp [-getElem?_pos, -List.getElem?_map, ltX_alt, ltX_no, hg, hw, hwn, hwm, hwm2]
      repeat' apply And.intro
      all_goals
        refine app_keep (s := .loc 99 0) (lo := 0) (len := L.length) (xs := iv X) (ys := [.int .i64 k]) rfl rfl ?_ ?_ ?_ ?_ ?_ ?_
        · simp
        · rw [iv_len]; omega
        · simpa using hb1
        · simpa using hb2'
        · simp [-getElem?_pos, -List.getElem?_map, hg, hw, hwn, hwm, hwm2]
          exact .inl (Sub.mk (by simp [frW, frV, frE, frF, hnd, hwm2]) (by simp [frE, frB, frF, laid, hivk, hivX, Qu.cells]))
        · simp [-getElem?_pos, -List.getElem?_map, hg, hw, hwn, hwm, hwm2]
          exact .inr (Sub.mk (by simp [frW, frV, frE, frF, hnd, hwm2]) (by simp [frE, frB, frF, laid, hivk, hivX, Qu.cells]))
    · simp [-getElem?_pos, -List.getElem?_map, ltX_alt, ltX_no, frP, frW, frV, frE, frF, frB, laid, Qu.cells]
      refine call_lent (fs := []) (cs := [.ptr (.par 0) 0, .ptr (.par 1) 0, .ptr (.par 2) 0, .ptr (.par 3) 0]) 49 [.par 0, .par 1, .par 2, .par 3, .loc 36 0] ?_ rfl rfl ?_ ?_ ?_ ihA ?_
      · rfl
      · simp [frB, frX, frF, laid, Qu.cells]
      · rfl
      · simp [frA]
      rintro r0 B0 ⟨rfl, X2, hX2, rfl⟩
      refine ⟨rfl, by simp [frB, frX, frF, laid, Qu.cells], ?_⟩
      cases hS2 : S.2
      · have hround := hnext2 hS2 X hX
        simp [-getElem?_pos, -List.getElem?_map, frB, frX, frF, laid, Qu.cells, hw]
        refine ⟨_, _, hmeas, Sub.mk ?_ ?_, hround⟩
        · simp [frV, frE]
        · simp [frE, frB, frF, laid, Qu.cells]
      · have hst := hstop hS2
        subst hst
        simp [-getElem?_pos, -List.getElem?_map, frB, frX, frF, laid, Qu.cells]
        refine ⟨[], [.par 0, .par 1, .par 2, .par 3], ?_⟩
        simp
        rw [← hR]
        refine ⟨by rw [hS2], X, hX, ?_⟩
        simp [frB, frX, frF, laid, Qu.cells]
    · simp [-getElem?_pos, -List.getElem?_map, ltX_alt, ltX_no, frQ, frW, frV, frE, frF, frB, laid, Qu.cells]
      refine call_lent (fs := []) (cs := [.ptr (.par 0) 0, .ptr (.par 1) 0, .ptr (.par 2) 0, .ptr (.par 3) 0]) 49 [.par 0, .par 1, .par 2, .par 3, .loc 99 0] ?_ rfl rfl ?_ ?_ ?_ ihA ?_
      · rfl
      · simp [frB, frX, frF, laid, Qu.cells]
      · rfl
      · simp [frA]
      rintro r0 B0 ⟨rfl, X2, hX2, rfl⟩
      have hX3 : X2.take L.length = L := by
        have h1 : (X2.take (L.length + 1)).take L.length = X2.take L.length := by rw [List.take_take]; congr 1; omega
        rw [← h1, hX2]; simp
      refine ⟨rfl, by simp [frB, frX, frF, laid, Qu.cells], ?_⟩
      cases hS2 : S.2
      · have hround := hnext2 hS2 X2 hX3
        simp [-getElem?_pos, -List.getElem?_map, frB, frX, frF, laid, Qu.cells, hw]
        refine ⟨_, _, hmeas, Sub.mk ?_ ?_, hround⟩
        · simp [frV, frE]
        · simp [frE, frB, frF, laid, Qu.cells]
      · have hst := hstop hS2
        subst hst
        simp [-getElem?_pos, -List.getElem?_map, frB, frX, frF, laid, Qu.cells]
        refine ⟨[], [.par 0, .par 1, .par 2, .par 3], ?_⟩
        simp
        rw [← hR]
        refine ⟨by rw [hS2], X2, hX3, ?_⟩
        simp [frB, frX, frF, laid, Qu.cells]
  · have he : k = q.rs.length := by omega
    subst he
    rw [Nat.sub_self] at hres
    have hres' : RES = (o, false) := hres.symm
    subst hres'
    simp [-getElem?_pos, -List.getElem?_map, frH, frV, frE, frB, laid, frF, Qu.cells]
    refine ⟨[], [.par 0, .par 1, .par 2, .par 3], ?_⟩
    simp
    rw [← hR]
    refine ⟨rfl, X, hX, ?_⟩
    simp [frB, frX, frF, laid, Qu.cells]
end Go.Proofs.Ytohhjnpiiackjaa
/-! Contracts of layer 10 (queue): Reason. -/
namespace Go.Proofs.Ytohhjnpiiackjaa
open Go.RowKit
set_option maxRecDepth 10000
set_option linter.unusedSimpArgs false
attribute [local simp] AS.exp expG Box.ren AV.map AV.mapL outsOk noRet Site.isRet Box.allS AV.allS AV.allSL retB dropL AS.adds renL outG outOk lentBx inG fnOf lookA List.findIdx?_cons
attribute [local simp] Box.purge Site.isLoc
attribute [local simp] retFz frzL AS.frz AV.frz AV.frzL Box.frz AS.tidy AS.frzC
theorem from_c (q : Qu) (hq : q.ok) (u : Nat) (hu : u ≤ 40) : ∀ m, FromC q u m true
  | 0 => from_0 q hq u hu
  | m + 1 => from_t q hq u m (from_c q hq u hu m)
theorem fromN_c (q : Qu) (hq : q.ok) (u : Nat) (hu : u ≤ 40) (m : Nat) : FromC q u (m + 1) false := from_f q hq u m (from_c q hq u hu m)
/-- The hour before the end. -/
def Qu.untilM (F : Nat) (q : Qu) : Int := match q.layP F with
  | none => 40
  | some p => (p.length : Int) - 1
def manyL (q : Qu) (u : Nat) : Nat → Nat → Option (List Int) → Option (List Int)
  | 0, _, o => o
  | f + 1, k, o => if (fromM q u k [] 0 o).2 = true then (fromM q u k [] 0 o).1 else manyL q u f (k + 1) (fromM q u k [] 0 o).1
def Qu.reasM (F : Nat) (q : Qu) : List Int := (manyL q (q.untilM F).toNat q.rs.length 1 none).getD []
def Qu.reasP (F : Nat) (q : Qu) : PV := if q.check ≠ 0 then .tup [intsP [], .int .i64 q.check] else if q.untilM F < 0 then .tup [intsP [], .int .i64 7] else .tup [intsP (q.reasM F), .int .i64 0]
theorem reas_wk {m : Mem} {v : Value} {o : Option (List Int)} {a : PV} (h : RdP m v (.tup [oP o, a])) : RdP m v (.tup [intsP (o.getD []), a]) := by
  refine tup_wk ?_ ?_ h
  · rfl
  intro j c c' d h1 h2 hd
  match j with
  | 0 =>
    simp at h1 h2; subst h1 h2
    cases o with
    | none => exact emp_lst hd
    | some l => exact hd
  | 1 => simp at h1 h2; subst h1 h2; exact hd
  | j + 2 => simp at h1
def reasS (q : Qu) (u : Nat) (k : Nat) (o : Option (List Int)) : AS := ⟨[(1, .ptr (.loc 1 0) 0), (8, .ptr (.loc 8 0) 0), (9, .ptr (.loc 9 0) 0), (10, .pv (.int .i64 k))],
  [(.loc 9 0, .cells [.fn 66 [] [.ptr (.loc 8 0) 0, .ptr (.loc 1 0) 0, .ptr (.loc 5 0) 0, .ptr (.loc 9 0) 0]]), (.loc 8 0, .cells [.pv (oP o)]), (.loc 5 0, .cells [.pv (.int .i64 u)]), (.loc 1 0, .cells q.cells)]⟩
set_option maxHeartbeats 8000000 in
theorem reason_c {F : Nat} (hF : 407 < F) (q : Qu) (h1 : q.ms.length ≤ 1000000) (h2 : q.rs.length ≤ 1000000) (h3 : ∀ l ∈ q.ms, l.length ≤ 1000000) : Gives Try.prog 31 [q.pv] (q.reasP F) := by
  refine CallsA.weak2 ?_
  obtain ⟨OUT, hOUT⟩ : ∃ z, z = q.reasP F := ⟨_, rfl⟩
  rw [← hOUT]
  refine calls_of_awpF [] mixed L31_ok (Nat.le_of_ble_eq_true rfl) ?_
  generalize hR : (fun (r : AV) (B : List (Site × Box)) => ∃ x, r = .pv x ∧ B = [] ∧ ∀ m v, RdP m v x → RdP m v OUT) = R
  simp [-getElem?_pos, L31, Qu.pv]
  refine call_gives (k := 0) (fs := []) (xs := [q.pv]) (cs := []) rfl rfl (check_c q h1 h2 h3) rfl ?_
  by_cases hc : q.check = 0
  · have hq := Qu.ok_of hc
    have hqr := hq.r
    have hlay := lay_c hF q hq
    have hO : OUT = if q.untilM F < 0 then .tup [intsP [], .int .i64 7] else .tup [intsP (q.reasM F), .int .i64 0] := by rw [hOUT]; unfold Qu.reasP; rw [if_neg (by simpa using hc)]
    have hPW : ∀ p, q.layP F = some p → PW q p := fun p hp => layM_PW hq _ _ _ PW.nil (units_lt (q := q)) p hp
    clear hOUT
    obtain ⟨LAY, hLAY⟩ : ∃ z, z = q.layP F := ⟨_, rfl⟩
    unfold Qu.reasM Qu.untilM at hO
    rw [← hLAY] at hlay hO hPW
    clear hLAY
    simp [-getElem?_pos, hc]
    refine call_lent (as' := [.pv q.pv]) (B := []) (fs := []) (cs := []) 17 [] ?_ rfl rfl rfl ?_ ?_ hlay ?_
    · rfl
    · rfl
    · rfl
    intro x B hx
    cases LAY with
    | none =>
      obtain ⟨rfl, rfl⟩ := hx
      refine ⟨rfl, by simp, ?_⟩
      obtain ⟨u, hu⟩ : ∃ u : Nat, (u : Int) = 40 := ⟨40, rfl⟩
      have hu40 : u ≤ 40 := by omega
      obtain ⟨RES, hRES⟩ : ∃ z, z = manyL q u q.rs.length 1 none := ⟨_, rfl⟩
      replace hO : OUT = .tup [intsP (RES.getD []), .int .i64 0] := by
        rw [hO, hRES]
        have : (40 : Int).toNat = u := by omega
        simp only [this]
        rfl
      simp [-getElem?_pos]
      refine awp_loopS (fun n τ => ∃ (k : Nat) (o : Option (List Int)), 1 ≤ k ∧ k ≤ q.rs.length + 1 ∧ n = q.rs.length + 1 - k ∧ manyL q u (q.rs.length + 1 - k) k o = RES ∧ τ = reasS q u k o)
        ⟨q.rs.length, reasS q u 1 none, Sub.mk (by simp [reasS]) (by simp [reasS, Qu.cells, oP, ← hu]), 1, none, Nat.le_refl _, by omega, by omega, hRES.symm, rfl⟩ ?_
      clear hRES
      rintro J hJ n τ ⟨k, o, hk1, hk, rfl, hres, rfl⟩
      by_cases hlt : k ≤ q.rs.length
      · obtain ⟨m, rfl⟩ : ∃ m, k = m + 1 := ⟨k - 1, by omega⟩
        have hw : IntKind.i64.wrap ((m : Int) + 1 + 1) = (m : Int) + 1 + 1 := wrap64 (by omega)
        have hmeas : q.rs.length + 1 - (m + 1 + 1) < q.rs.length + 1 - (m + 1) := by omega
        have hfr := fromN_c q hq u hu40 m [] [] 0 o (by simp; omega) (by simp) rfl (fun h => by cases h) (fun _ => ⟨rfl, Nat.succ_pos _⟩) (Nat.zero_le _)
        have hsub : q.rs.length + 1 - (m + 1) = (q.rs.length + 1 - (m + 1 + 1)) + 1 := by omega
        have hlt2 : (m : Int) + 1 ≤ q.rs.length := by omega
        rw [hsub, manyL] at hres
        obtain ⟨S, hS⟩ : ∃ S, S = fromM q u (m + 1) [] 0 o := ⟨_, rfl⟩
        rw [← hS] at hres hfr
        have hnext : S.2 = false → J (q.rs.length + 1 - (m + 1 + 1)) (reasS q u (m + 1 + 1) S.1) := fun h2 => hJ _ _ ⟨m + 1 + 1, S.1, by omega, by omega, rfl, by rw [if_neg (by rw [h2]; simp)] at hres; exact hres, rfl⟩
        have hstop : S.2 = true → S.1 = RES := fun h2 => by rw [if_pos h2] at hres; exact hres
        clear hJ hres hS
        simp [-getElem?_pos, reasS, Qu.cells, hlt2]
        refine call_lent (fs := []) (cs := [.ptr (.loc 8 0) 0, .ptr (.loc 1 0) 0, .ptr (.loc 5 0) 0, .ptr (.loc 9 0) 0]) 39 [.loc 8 0, .loc 1 0, .loc 5 0, .loc 9 0] ?_ rfl rfl ?_ ?_ ?_ hfr ?_
        · rfl
        · simp [frB, frX, frF, laid, Qu.cells]
        · rfl
        · simp [frA, Qu.needs, Qu.hrs]
        rintro r0 B0 ⟨rfl, X2, hX2, rfl⟩
        refine ⟨rfl, by simp [frB, frX, frF, laid, Qu.cells], ?_⟩
        cases hS2 : S.2
        · have hround := hnext hS2
          simp [-getElem?_pos, -List.getElem?_map, frB, frX, frF, laid, Qu.cells, hw]
          refine ⟨q.rs.length + 1 - (m + 1 + 1), _, by omega, Sub.mk ?_ ?_, hround⟩
          · simp [reasS]
          · simp [reasS, Qu.cells]
        · have hst := hstop hS2
          simp [-getElem?_pos, -List.getElem?_map, frB, frX, frF, laid, Qu.cells, hst]
          rw [← hR]
          refine ⟨_, rfl, rfl, fun m v h => ?_⟩
          rw [hO]
          exact reas_wk h
      · have he : k = q.rs.length + 1 := by omega
        subst he
        rw [Nat.sub_self] at hres
        have hres' : o = RES := hres
        subst hres'
        have hlt2 : ¬ ((q.rs.length : Int) + 1 ≤ q.rs.length) := by omega
        simp [-getElem?_pos, -List.getElem?_map, reasS, Qu.cells, hlt2]
        rw [← hR]
        refine ⟨_, rfl, rfl, fun m v h => ?_⟩
        rw [hO]
        exact reas_wk h
    | some p =>
      obtain ⟨rfl, rfl⟩ := hx
      refine ⟨rfl, by simp, ?_⟩
      have hpw := hPW p rfl
      have hpl := hpw.l
      have hqm := hq.m
      by_cases h0 : p.length = 0
      · have hw : IntKind.i64.wrap ((0 : Int) - 1) = -1 := wrap64 (by omega)
        have hpn : (plP p).length = 0 := by simp [plP, h0]
        simp [-getElem?_pos, h0, hpn, hw]
        rw [← hR]
        refine ⟨_, rfl, rfl, fun m v h => ?_⟩
        rw [hO]
        simp [h0]
        exact reas_wk (o := none) h
      obtain ⟨u, hu⟩ : ∃ u : Nat, (u : Int) = (p.length : Int) - 1 := ⟨p.length - 1, by omega⟩
      have hu40 : u ≤ 40 := by omega
      have hp0 : ¬ ((p.length : Int) - 1 < 0) := by omega
      obtain ⟨RES, hRES⟩ : ∃ z, z = manyL q u q.rs.length 1 none := ⟨_, rfl⟩
      replace hO : OUT = .tup [intsP (RES.getD []), .int .i64 0] := by
        rw [hO, hRES]
        have : ((p.length : Int) - 1).toNat = u := by omega
        simp only [this, if_neg hp0]
      have hw : IntKind.i64.wrap ((p.length : Int) - 1) = u := by rw [hu]; exact wrap64 (by omega)
      have hpn : (plP p).length = p.length := by simp [plP]
      simp [-getElem?_pos, hw, hpn]
      refine awp_loopS (fun n τ => ∃ (k : Nat) (o : Option (List Int)), 1 ≤ k ∧ k ≤ q.rs.length + 1 ∧ n = q.rs.length + 1 - k ∧ manyL q u (q.rs.length + 1 - k) k o = RES ∧ τ = reasS q u k o)
        ⟨q.rs.length, reasS q u 1 none, Sub.mk (by simp [reasS]) (by simp [reasS, Qu.cells, oP, hu]), 1, none, Nat.le_refl _, by omega, by omega, hRES.symm, rfl⟩ ?_
      clear hRES
      rintro J hJ n τ ⟨k, o, hk1, hk, rfl, hres, rfl⟩
      by_cases hlt : k ≤ q.rs.length
      · obtain ⟨m, rfl⟩ : ∃ m, k = m + 1 := ⟨k - 1, by omega⟩
        have hw : IntKind.i64.wrap ((m : Int) + 1 + 1) = (m : Int) + 1 + 1 := wrap64 (by omega)
        have hmeas : q.rs.length + 1 - (m + 1 + 1) < q.rs.length + 1 - (m + 1) := by omega
        have hfr := fromN_c q hq u hu40 m [] [] 0 o (by simp; omega) (by simp) rfl (fun h => by cases h) (fun _ => ⟨rfl, Nat.succ_pos _⟩) (Nat.zero_le _)
        have hsub : q.rs.length + 1 - (m + 1) = (q.rs.length + 1 - (m + 1 + 1)) + 1 := by omega
        have hlt2 : (m : Int) + 1 ≤ q.rs.length := by omega
        rw [hsub, manyL] at hres
        obtain ⟨S, hS⟩ : ∃ S, S = fromM q u (m + 1) [] 0 o := ⟨_, rfl⟩
        rw [← hS] at hres hfr
        have hnext : S.2 = false → J (q.rs.length + 1 - (m + 1 + 1)) (reasS q u (m + 1 + 1) S.1) := fun h2 => hJ _ _ ⟨m + 1 + 1, S.1, by omega, by omega, rfl, by rw [if_neg (by rw [h2]; simp)] at hres; exact hres, rfl⟩
        have hstop : S.2 = true → S.1 = RES := fun h2 => by rw [if_pos h2] at hres; exact hres
        clear hJ hres hS
        simp [-getElem?_pos, reasS, Qu.cells, hlt2]
        refine call_lent (fs := []) (cs := [.ptr (.loc 8 0) 0, .ptr (.loc 1 0) 0, .ptr (.loc 5 0) 0, .ptr (.loc 9 0) 0]) 39 [.loc 8 0, .loc 1 0, .loc 5 0, .loc 9 0] ?_ rfl rfl ?_ ?_ ?_ hfr ?_
        · rfl
        · simp [frB, frX, frF, laid, Qu.cells]
        · rfl
        · simp [frA, Qu.needs, Qu.hrs]
        rintro r0 B0 ⟨rfl, X2, hX2, rfl⟩
        refine ⟨rfl, by simp [frB, frX, frF, laid, Qu.cells], ?_⟩
        cases hS2 : S.2
        · have hround := hnext hS2
          simp [-getElem?_pos, -List.getElem?_map, frB, frX, frF, laid, Qu.cells, hw]
          refine ⟨q.rs.length + 1 - (m + 1 + 1), _, by omega, Sub.mk ?_ ?_, hround⟩
          · simp [reasS]
          · simp [reasS, Qu.cells]
        · have hst := hstop hS2
          simp [-getElem?_pos, -List.getElem?_map, frB, frX, frF, laid, Qu.cells, hst]
          rw [← hR]
          refine ⟨_, rfl, rfl, fun m v h => ?_⟩
          rw [hO]
          exact reas_wk h
      · have he : k = q.rs.length + 1 := by omega
        subst he
        rw [Nat.sub_self] at hres
        have hres' : o = RES := hres
        subst hres'
        have hlt2 : ¬ ((q.rs.length : Int) + 1 ≤ q.rs.length) := by omega
        simp [-getElem?_pos, -List.getElem?_map, reasS, Qu.cells, hlt2]
        rw [← hR]
        refine ⟨_, rfl, rfl, fun m v h => ?_⟩
        rw [hO]
        exact reas_wk h
  · have hO : OUT = .tup [intsP [], .int .i64 q.check] := by rw [hOUT]; unfold Qu.reasP; rw [if_pos (by simpa using hc)]
    simp [-getElem?_pos, hc]
    rw [← hR]
    refine ⟨_, rfl, rfl, fun m v h => ?_⟩
    rw [hO]
    exact reas_wk (o := none) h
end Go.Proofs.Ytohhjnpiiackjaa
/-! Layer 10 (queue): the example, and that it wakes. -/
namespace Go.Proofs.Ytohhjnpiiackjaa
open Go.RowKit
set_option maxRecDepth 10000
set_option linter.unusedSimpArgs false
attribute [local simp] AS.exp expG Box.ren AV.map AV.mapL outsOk noRet Site.isRet Box.allS AV.allS AV.allSL retB dropL AS.adds renL outG outOk lentBx inG fnOf lookA List.findIdx?_cons
attribute [local simp] Box.purge Site.isLoc
attribute [local simp] retFz frzL AS.frz AV.frz AV.frzL Box.frz AS.tidy AS.frzC
def hallQ : Qu := ⟨[[⟨2, 3⟩], []], [⟨3, 0, [true, false]⟩, ⟨4, 0, [true, true]⟩, ⟨2, 1, [false, true]⟩]⟩
def nightL : List (List Int) := [[0, 1], [0, 1], [-1, 2], [-1, 2], [0, 1], [1, -1]]
theorem night_c : Gives Try.prog 45 [] (planP nightL) := by
  refine calls_of_awpF [.loc 1 0, .loc 2 0, .loc 3 0, .loc 4 0, .loc 5 0, .loc 6 0, .loc 7 0] mixed L45_ok (Nat.le_of_ble_eq_true rfl) ?_
  simp [-getElem?_pos, L45]
  rfl
theorem lst_cells {m : Mem} {v : Value} {nn : Bool} {n : Nat} {cs : List PV} (h : RdP m v (.lst nn n cs)) (j : Nat) (c : PV) (hc : cs[j]? = some c) : c.cells.length = n := by
  cases h with
  | lst a cap nn n xs ds h0 h1 h2 h3 h4 h5 h6 h7 => exact (h6 j c hc).2.1
theorem hall_wk {m : Mem} {v : Value} {a b : PV} (h : RdP m v (.agg [.lst false 1 [a, .emp (some true)], b])) : RdP m v (.agg [.lst false 1 [a, rgsP []], b]) := by
  refine agg_wk (cs := [.lst false 1 [a, .emp (some true)], b]) rfl ?_ h
  intro j c c' d h1 h2 hd
  match j with
  | 0 =>
    simp at h1 h2; subst h1 h2
    refine lst_wk (cs := [a, .emp (some true)]) rfl ?_ ?_ hd
    · intro j c hc
      match j with
      | 0 => simp at hc; subst hc; exact (lst_cells hd 0 _ rfl)
      | 1 => simp at hc; subst hc; rfl
      | j + 2 => simp at hc
    · intro j c c' k d x x' h1 h2 h3 h4 hd
      match j with
      | 0 => simp at h1 h2; subst h1 h2; rw [h3] at h4; cases h4; exact hd
      | 1 =>
        simp at h1 h2; subst h1 h2
        match k with
        | 0 => simp [PV.cells, rgsP] at h3 h4; subst h3 h4; exact emp_lst hd
        | k + 1 => simp [PV.cells] at h3
      | j + 2 => simp at h1
  | 1 => simp at h1 h2; subst h1 h2; exact hd
  | j + 2 => simp at h1
set_option maxHeartbeats 4000000 in
theorem hall_c : Gives Try.prog 44 [] hallQ.pv := by
  refine CallsA.weak2 ?_
  refine calls_of_awpF [.loc 2 0, .loc 3 0, .loc 4 0, .loc 6 0, .loc 8 0, .loc 10 0] mixed L44_ok (Nat.le_of_ble_eq_true rfl) ?_
  simp [-getElem?_pos, L44]
  rintro m v h
  exact hall_wk (a := .lst false 2 [.agg [.int .i64 2, .int .i64 3]]) (b := .lst false 3 [.agg [.int .i64 3, .int .i64 0, .lst false 1 [.bool true, .bool false]], .agg [.int .i64 4, .int .i64 0, .lst false 1 [.bool true, .bool true]], .agg [.int .i64 2, .int .i64 1, .lst false 1 [.bool false, .bool true]]]) (by simpa using h)
end Go.Proofs.Ytohhjnpiiackjaa
/-! Layer 10 (queue): it wakes. -/
namespace Go.Proofs.Ytohhjnpiiackjaa
open Go.RowKit
set_option maxRecDepth 10000
set_option linter.unusedSimpArgs false
attribute [local simp] AS.exp expG Box.ren AV.map AV.mapL outsOk noRet Site.isRet Box.allS AV.allS AV.allSL retB dropL AS.adds renL outG outOk lentBx inG fnOf lookA List.findIdx?_cons
attribute [local simp] Box.purge Site.isLoc
attribute [local simp] retFz frzL AS.frz AV.frz AV.frzL Box.frz AS.tidy AS.frzC
theorem hall_check : hallQ.check = 0 := by decide +kernel
theorem hall_room : hallQ.roomP [0, 1, 2] 2 = .tup [.int .i64 4, .int .i64 0] := by
  have h : hallQ.roomErr [0, 1, 2] 2 = 0 ∧ hallQ.roomM [0, 1, 2] 2 = 4 := by decide +kernel
  unfold Qu.roomP; rw [h.1]; simp [h.2]
def hallP : List (List Int) := ((hallQ.layP 408).getD [])
theorem hall_lay : hallQ.layP 408 = some hallP ∧ hallP.length = 6 := by decide +kernel
theorem hall_early : hallQ.earlP 408 = .tup [planP (hallQ.cutP hallP), .int .i64 6, .int .i64 0] := by
  unfold Qu.earlP; rw [if_neg (by simp [hall_check]), hall_lay.1]; simp [hall_lay.2]
theorem hall_reasM : hallQ.reasM 408 = [0, 1, 2] := by decide +kernel
theorem hall_reason : hallQ.reasP 408 = .tup [intsP [0, 1, 2], .int .i64 0] := by
  have h : ¬ hallQ.untilM 408 < 0 := by decide +kernel
  unfold Qu.reasP; rw [if_neg (by simp [hall_check]), if_neg h, hall_reasM]
theorem hall_right : hallQ.right nightL = true := by decide +kernel
theorem hall_loss : ([⟨1, 2⟩] : List Ls).all hallQ.lossB = true := by decide +kernel
deriving instance DecidableEq for Rq
theorem hall_rest : (hallQ.rest nightL 3 [⟨1, 2⟩]).pv = .agg [.lst false 1 (hallQ.ms.map rgsP), .lst false 3 [.agg [.int .i64 1, .int .i64 3, onP [true, false]], .agg [.int .i64 2, .int .i64 3, onP [true, true]], .agg [.int .i64 2, .int .i64 3, onP [false, true]]]] := by
  have h : (hallQ.rest nightL 3 [⟨1, 2⟩]).rs = [⟨1, 3, [true, false]⟩, ⟨2, 3, [true, true]⟩, ⟨2, 3, [false, true]⟩] := by decide +kernel
  unfold Qu.pv; rw [h]; rfl
theorem hall_proves : hallQ.proves nightL 6 = true := by decide +kernel
set_option maxHeartbeats 16000000 in
theorem wakes_c : Gives Try.prog 17 [] (.bool true) := by
  have hs : hallQ.small := ⟨by decide, by decide, by decide, by decide⟩
  have hok := Qu.ok_of hall_check
  have h1 : hallQ.ms.length ≤ 1000000 := by decide
  have h2 : hallQ.rs.length ≤ 1000000 := by decide
  have h3 : ∀ l ∈ hallQ.ms, l.length ≤ 1000000 := by decide
  have hroom := Room_c hallQ hs [0, 1, 2] (by decide) 2
  rw [hall_room] at hroom
  have hear := earliest_c (F := 408) (by decide) hallQ h1 h2 h3
  rw [hall_early] at hear
  have hrea := reason_c (F := 408) (by decide) hallQ h1 h2 h3
  rw [hall_reason] at hrea
  have hres := restR_c hallQ hok hall_check nightL hall_right 3 (by decide) [⟨1, 2⟩] (by decide) hall_loss
  rw [hall_rest] at hres
  have hprv := proves_c hallQ h1 h2 h3 nightL (by decide) (by decide) 6
  rw [hall_proves] at hprv
  have hint := ints_c [0, 1, 2] [0, 1, 2] (by decide)
  rw [show decide (([0, 1, 2] : List Int) = [0, 1, 2]) = true by decide] at hint
  have hhal := hall_c
  have hnig := night_c
  obtain ⟨E, hE⟩ : ∃ z, z = planP (hallQ.cutP hallP) := ⟨_, rfl⟩
  rw [← hE] at hear
  obtain ⟨H, hH⟩ : ∃ z, z = hallQ.pv := ⟨_, rfl⟩
  rw [← hH] at hhal hroom hear hrea hres hprv
  obtain ⟨N, hN⟩ : ∃ z, z = planP nightL := ⟨_, rfl⟩
  rw [← hN] at hnig hres hprv
  clear hs hok h1 h2 h3 hE hH hN
  refine calls_of_awpS mixed L17_ok (Nat.le_of_ble_eq_true rfl) ?_
  simp [-getElem?_pos, L17]
  refine .inl (call_pv [] (fs := []) (xs := []) (cs := []) rfl rfl hhal ?_)
  simp [-getElem?_pos, frzsL]
  refine .inl (call_pv [.loc 12 0] (fs := []) (xs := [H, intsP [0, 1, 2], .int .i64 2]) (cs := []) rfl ?_ hroom ?_)
  · simp [frzsL, intsP, intP]
  simp [-getElem?_pos, frzsL]
  refine .inl (call_pv [] (fs := []) (xs := []) (cs := []) rfl rfl hhal ?_)
  simp [-getElem?_pos, frzsL]
  refine .inl (call_pv [] (fs := []) (xs := [H]) (cs := []) rfl rfl hear ?_)
  simp [-getElem?_pos, frzsL]
  refine .inl (call_pv [] (fs := []) (xs := []) (cs := []) rfl rfl hhal ?_)
  simp [-getElem?_pos, frzsL]
  refine .inl (call_pv [] (fs := []) (xs := [H]) (cs := []) rfl rfl hrea ?_)
  simp [-getElem?_pos, frzsL]
  refine .inl (call_pv [] (fs := []) (xs := []) (cs := []) rfl rfl hhal ?_)
  simp [-getElem?_pos, frzsL]
  refine .inl (call_pv [] (fs := []) (xs := []) (cs := []) rfl rfl hnig ?_)
  simp [-getElem?_pos, frzsL]
  refine .inl (call_pv [.loc 31 0] (fs := []) (xs := [H, N, .int .i64 (3 : Nat), lossP [⟨1, 2⟩]]) (cs := []) rfl ?_ hres ?_)
  · simp [frzsL, lossP, Ls.pv]
  simp [-getElem?_pos, frzsL]
  refine .inl (call_pv [.loc 55 0] (fs := []) (xs := [intsP [0, 1, 2], intsP [0, 1, 2]]) (cs := []) rfl ?_ hint ?_)
  · simp [frzsL, intsP, intP]
  simp [-getElem?_pos, frzsL]
  refine .inl (call_pv [] (fs := []) (xs := []) (cs := []) rfl rfl hhal ?_)
  simp [-getElem?_pos, frzsL]
  refine .inl (call_pv [] (fs := []) (xs := []) (cs := []) rfl rfl hnig ?_)
  simp [-getElem?_pos, frzsL]
  refine .inl (call_pv [] (fs := []) (xs := [H, N, .int .i64 6]) (cs := []) rfl rfl hprv ?_)
  simp [-getElem?_pos, frzsL]
end Go.Proofs.Ytohhjnpiiackjaa
/-! Facts of the program that every statement asks; lists among the arguments, read as plain values. -/
namespace Go.Proofs.Ytohhjnpiiackjaa
open Go.RowKit Go.ChangeShapes Go.WideShapes Go.Deep
theorem own : ownKnob Try.prog.godebug = none := by kernel_rfl
theorem laidP : laidOutB Try.prog = true := by kernel_rfl
theorem rowedP : mapsRowed Try.prog = true := by kernel_rfl
theorem fullP : ((List.range Try.prog.types.size).all fun t => match Try.prog.underlying t with | some (.slice e) => decide (0 < Try.prog.cellsOf e) | _ => true) = true := by kernel_rfl
set_option maxRecDepth 100000
section
variable {H : Type} {enc : TypeId × Value → H} {W : World} {sp : Nat → Bool} {held : Bool} {r : Reach} {base : Nat}
end
end Go.Proofs.Ytohhjnpiiackjaa
