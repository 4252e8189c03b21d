/- Contracts of layer 4's functions (stair): small ones. (Several texts in one.) -/
import Derived.Test.YtaffbiibcfeigaaGreatCodeB
import Derived.Test.YtaffbiibcfeigaaGreatBaseD
set_option linter.unusedVariables false
set_option linter.unusedSimpArgs false
/-! Contracts of layer 4's functions (stair): small ones. -/
namespace Go.Proofs.YtaffbiibcfeigaaGreat
open Go.RowKit
attribute [local simp] Box.purge Site.isLoc
set_option maxRecDepth 10000
set_option linter.unusedSimpArgs false
theorem within_c (n lo hi : Int) : Gives Tryz.prog 129 [.int .i64 n, .int .i64 lo, .int .i64 hi] (.bool (decide (lo ≤ n) && decide (n ≤ hi))) := by
  refine calls_of_awpS mixed L129_ok (Nat.le_of_ble_eq_true rfl) ?_
  by_cases h : lo ≤ n
  all_goals simp [h, L129]
theorem place_c (levels start : Int) : Gives Tryz.prog 126 [.int .i64 levels, .int .i64 start] (.bool (decide (1 ≤ levels) && decide (levels ≤ 8) && (decide (0 ≤ start) && decide (start ≤ levels - 1)))) := by
  refine calls_of_awpS mixed L126_ok (Nat.le_of_ble_eq_true rfl) ?_
  simp [L126]
  refine call_gives (k := 0) rfl rfl (within_c levels 1 8) rfl ?_
  cases hb : decide (1 ≤ levels) && decide (levels ≤ 8)
  · simp [hb]
  · have hb' : 1 ≤ levels ∧ levels ≤ 8 := by simpa using hb
    have hw : IntKind.i64.wrap (levels - 1) = levels - 1 := wrap64 (by omega)
    simp [hb, hw]
    refine call_gives (k := 0) rfl rfl (within_c start 0 (levels - 1)) rfl ?_
    simp [hb]
/-- A run; a staircase. -/
structure Rn where
  level : Int
  res : Int
structure St where
  levels : Int
  start : Int
  runs : List Rn
def Rn.pv (r : Rn) : PV := .agg [.int .i64 r.level, .int .u8 r.res]
def St.pv (s : St) : PV := .agg [.int .i64 s.levels, .int .i64 s.start, .lst false 2 (s.runs.map Rn.pv)]
def St.fit (s : St) : Prop := -9223372036854775808 ≤ s.levels ∧ s.levels ≤ 9223372036854775807
theorem run_c (s : St) (r : Rn) (hl : -9223372036854775807 ≤ s.levels ∧ s.levels ≤ 9223372036854775807) : Gives Tryz.prog 237 [s.pv, r.pv] (.bool (decide (-1 ≤ r.level) && decide (r.level ≤ s.levels - 1) && decide (r.res ≤ 3))) := by
  refine calls_of_awpS mixed L237_ok (Nat.le_of_ble_eq_true rfl) ?_
  have hw : IntKind.i64.wrap (s.levels - 1) = s.levels - 1 := wrap64 (by omega)
  simp [L237, St.pv, Rn.pv, hw]
  refine call_gives (k := 0) rfl rfl (within_c r.level (-1) (s.levels - 1)) rfl ?_
  cases hb : decide (-1 ≤ r.level) && decide (r.level ≤ s.levels - 1)
  all_goals simp [hb]
/-! ### Lists -/
theorem find_at {l : List PV} {q : PV → Bool} {k : Nat} {x : PV} (hx : l[k]? = some x) (hb : q x = true) (hinv : ∀ (j : Nat) (y : PV), j < k → l[j]? = some y → q y = false) : l.findIdx? q = some k := by
  obtain ⟨hlt, e⟩ := List.getElem?_eq_some_iff.1 hx
  rw [List.findIdx?_eq_some_iff_getElem]
  refine ⟨hlt, by rw [e]; exact hb, fun j hj => ?_⟩
  have := hinv j l[j] hj (List.getElem?_eq_getElem (by omega))
  simp [this]
theorem find_none {l : List PV} {q : PV → Bool} (hinv : ∀ (j : Nat) (y : PV), j < l.length → l[j]? = some y → q y = false) : l.findIdx? q = none := by
  rw [List.findIdx?_eq_none_iff]
  intro x hx
  obtain ⟨j, hj⟩ := List.mem_iff_getElem?.1 hx
  exact hinv j x (List.getElem?_eq_some_iff.1 hj).1 hj
theorem indexRun_c (l : List PV) (g : FuncId) (fs cs : List PV) (q : PV → Bool) (hq : ∀ x ∈ l, Gives Tryz.prog g (fs ++ [x] ++ cs) (.bool (q x))) (hl : l.length ≤ 1000000) (hc : ∀ x ∈ l, x.cells.length = 2 ∧ ∃ cs, x = .agg cs) :
    Gives Tryz.prog 269 [.lst false 2 l, .fn g fs cs] (.int .i64 (match l.findIdx? q with | some i => i | none => -1)) := by
  refine calls_of_awpS mixed L269_ok (Nat.le_of_ble_eq_true rfl) ?_
  simp [L269]
  refine awp_loopS (fun n τ => ∃ k : Nat, k ≤ l.length ∧ n = l.length - k ∧ (∀ j x, j < k → l[j]? = some x → q x = false) ∧ τ = ⟨[(0, .pv (.lst false 2 l)), (1, .pv (.fn g fs cs)), (7, .pv (.int .i64 l.length)), (8, .pv (.int .i64 k))], []⟩)
    ⟨l.length, _, Sub.mk (by simp) (by simp), 0, by omega, rfl, (fun j x hj => by omega), rfl⟩ ?_
  rintro J hJ n τ ⟨k, hk, rfl, hinv, rfl⟩
  by_cases hlt : k < l.length
  · have hx : l[k]? = some l[k] := List.getElem?_eq_getElem hlt
    have hm := List.getElem_mem hlt
    generalize l[k] = x at hx hm
    obtain ⟨hc1, xs, rfl⟩ := hc x hm
    have hg := hq _ hm
    have hw : IntKind.i64.wrap ((k : Int) + 1) = ((k + 1 : Nat) : Int) := by rw [wrap64 (by omega)]; omega
    simp [PV.cells] at hc1
    have ht : List.take 2 xs = xs := List.take_of_length_le (by omega)
    simp [-getElem?_pos, hlt, hx, hc1, ht]
    refine call_gives (k := 0) rfl rfl hg rfl ?_
    cases hb : q (PV.agg xs)
    · simp [hw]
      exact ⟨_, _, (by omega : l.length - (k + 1) < l.length - k), Sub.mk (by simp) (by simp), hJ _ _ ⟨k + 1, by omega, rfl, fun j x hj hjx => by
        rcases Nat.lt_succ_iff_lt_or_eq.1 hj with h | h
        · exact hinv j x h hjx
        · subst h; rw [hx] at hjx; cases hjx; exact hb, rfl⟩⟩
    · simp [find_at hx hb hinv]
  · have he : k = l.length := by omega
    subst he
    simp [find_none hinv]
theorem anyRun_c (l : List PV) (g : FuncId) (fs cs : List PV) (q : PV → Bool) (hq : ∀ x ∈ l, Gives Tryz.prog g (fs ++ [x] ++ cs) (.bool (q x))) (hl : l.length ≤ 1000000) (hc : ∀ x ∈ l, x.cells.length = 2 ∧ ∃ cs, x = .agg cs) :
    Gives Tryz.prog 260 [.lst false 2 l, .fn g fs cs] (.bool (l.any q)) := by
  refine calls_of_awpS mixed L260_ok (Nat.le_of_ble_eq_true rfl) ?_
  simp [L260]
  refine call_gives (k := 0) rfl rfl (indexRun_c l g fs cs q hq hl hc) rfl ?_
  cases hf : l.findIdx? q with
  | none =>
    have : l.any q = false := by rw [List.any_eq_false]; intro x hx; simpa using List.findIdx?_eq_none_iff.1 hf x hx
    simp [this]
  | some i =>
    have : l.any q = true := by
      obtain ⟨hi, h1, _⟩ := List.findIdx?_eq_some_iff_getElem.1 hf
      exact List.any_eq_true.2 ⟨_, List.getElem_mem hi, h1⟩
    simp [this]
theorem allRun1_c (x : PV) (g : FuncId) (fs cs : List PV) (b : Bool) (hx : ∃ cs, x = .agg cs ∧ cs.length = 2) (hq : Gives Tryz.prog g (fs ++ [x] ++ cs) (.bool b)) :
    Gives Tryz.prog 261 [x, .ref [.fn g fs cs]] (.bool (!b)) := by
  obtain ⟨xs, rfl, hxs⟩ := hx
  match xs, hxs with
  | [a0, a1], _ =>
  refine calls_of_awpS mixed L261_ok (Nat.le_of_ble_eq_true rfl) ?_
  simp [L261]
  refine call_gives (k := 0) rfl rfl hq rfl ?_
  simp
theorem allRun_c (l : List PV) (g : FuncId) (fs cs : List PV) (q : PV → Bool) (hq : ∀ x ∈ l, Gives Tryz.prog g (fs ++ [x] ++ cs) (.bool (q x))) (hl : l.length ≤ 1000000) (hc : ∀ x ∈ l, ∃ cs, x = .agg cs ∧ cs.length = 2) :
    Gives Tryz.prog 236 [.lst false 2 l, .fn g fs cs] (.bool (l.all q)) := by
  refine calls_of_awpS mixed L236_ok (Nat.le_of_ble_eq_true rfl) ?_
  simp [L236]
  refine call_gives (k := 4) rfl rfl (anyRun_c l 261 [] [.ref [.fn g fs cs]] (fun x => !q x) (fun x hx => allRun1_c x g fs cs (q x) (hc x hx) (hq x hx)) hl (fun x hx => by obtain ⟨cs, rfl, h⟩ := hc x hx; exact ⟨h, cs, rfl⟩)) rfl ?_
  simp [List.not_any_eq_all_not]
end Go.Proofs.YtaffbiibcfeigaaGreat
/-! Contracts of layer 4's functions (stair): least, greatest, moves, may, CheckStairs. -/
namespace Go.Proofs.YtaffbiibcfeigaaGreat
open Go.RowKit
attribute [local simp] Box.purge Site.isLoc
set_option maxRecDepth 10000
set_option linter.unusedSimpArgs false
def intsP (l : List Int) : PV := .lst false 1 (l.map (PV.int .i64))
def foldMin (a : Int) (l : List Int) : Int := l.foldl (fun a b => if b < a then b else a) a
def foldMax (a : Int) (l : List Int) : Int := l.foldl (fun a b => if b > a then b else a) a
theorem take_fold {f : Int → Int → Int} {a : Int} {l : List Int} {k : Nat} {x : Int} (h : l[k]? = some x) : (l.take (k + 1)).foldl f a = f ((l.take k).foldl f a) x := by
  rw [List.take_add_one, h]
  simp
theorem min_c (a : Int) (l : List Int) (hl : l.length ≤ 1000000) : Gives Tryz.prog 100 [intsP (a :: l)] (.int .i64 (foldMin a l)) := by
  refine calls_of_awpS mixed L100_ok (Nat.le_of_ble_eq_true rfl) ?_
  have h0 : ¬ ((l.length : Int) + 1 < 1) := by omega
  simp [L100, intsP, h0]
  refine awp_loopS (fun n τ => ∃ k : Nat, k ≤ l.length ∧ n = l.length - k ∧ τ = ⟨[(0, .pv (intsP (a :: l))), (3, .pv (.int .i64 (foldMin a (l.take k)))), (4, .pv (.int .i64 (k + 1 : Nat)))], []⟩)
    ⟨l.length, _, Sub.mk (by simp [intsP, foldMin]) (by simp), 0, by omega, rfl, rfl⟩ ?_
  rintro J hJ n τ ⟨k, hk, rfl, rfl⟩
  by_cases hlt : k < l.length
  · have hx : l[k]? = some l[k] := List.getElem?_eq_getElem hlt
    generalize l[k] = x at hx
    have hw : IntKind.i64.wrap ((k : Int) + 1 + 1) = ((k + 1 + 1 : Nat) : Int) := by rw [wrap64 (by omega)]; omega
    have h1 : (k : Int) + 1 < (l.length : Int) + 1 := by omega
    have h2 : 0 ≤ (k : Int) + 1 := by omega
    have h3 : ((k : Int) + 1).toNat = k + 1 := by omega
    have h4 : foldMin a (l.take (k + 1)) = if x < foldMin a (l.take k) then x else foldMin a (l.take k) := take_fold hx
    simp [-getElem?_pos, intsP, h1, h2, h3, hx, hw]
    exact ⟨_, _, (by omega : l.length - (k + 1) < l.length - k), Sub.mk (by simp [intsP, h4]) (by simp), hJ _ _ ⟨k + 1, by omega, rfl, rfl⟩⟩
  · have he : k = l.length := by omega
    subst he
    simp [intsP]
theorem max_c (a : Int) (l : List Int) (hl : l.length ≤ 1000000) : Gives Tryz.prog 204 [intsP (a :: l)] (.int .i64 (foldMax a l)) := by
  refine calls_of_awpS mixed L204_ok (Nat.le_of_ble_eq_true rfl) ?_
  have h0 : ¬ ((l.length : Int) + 1 < 1) := by omega
  simp [L204, intsP, h0]
  refine awp_loopS (fun n τ => ∃ k : Nat, k ≤ l.length ∧ n = l.length - k ∧ τ = ⟨[(0, .pv (intsP (a :: l))), (3, .pv (.int .i64 (foldMax a (l.take k)))), (4, .pv (.int .i64 (k + 1 : Nat)))], []⟩)
    ⟨l.length, _, Sub.mk (by simp [intsP, foldMax]) (by simp), 0, by omega, rfl, rfl⟩ ?_
  rintro J hJ n τ ⟨k, hk, rfl, rfl⟩
  by_cases hlt : k < l.length
  · have hx : l[k]? = some l[k] := List.getElem?_eq_getElem hlt
    generalize l[k] = x at hx
    have hw : IntKind.i64.wrap ((k : Int) + 1 + 1) = ((k + 1 + 1 : Nat) : Int) := by rw [wrap64 (by omega)]; omega
    have h1 : (k : Int) + 1 < (l.length : Int) + 1 := by omega
    have h2 : 0 ≤ (k : Int) + 1 := by omega
    have h3 : ((k : Int) + 1).toNat = k + 1 := by omega
    have h4 : foldMax a (l.take (k + 1)) = if x > foldMax a (l.take k) then x else foldMax a (l.take k) := take_fold hx
    simp [-getElem?_pos, intsP, h1, h2, h3, hx, hw]
    exact ⟨_, _, (by omega : l.length - (k + 1) < l.length - k), Sub.mk (by simp [intsP, h4]) (by simp), hJ _ _ ⟨k + 1, by omega, rfl, rfl⟩⟩
  · have he : k = l.length := by omega
    subst he
    simp [intsP]
theorem least_c (a b : Int) : Gives Tryz.prog 235 [intsP [a, b]] (.int .i64 (min a b)) := by
  refine calls_of_awpS mixed L235_ok (Nat.le_of_ble_eq_true rfl) ?_
  simp [L235, intsP]
  refine call_gives (k := 0) rfl rfl (min_c a [b] (by simp)) rfl ?_
  simp [foldMin]
  omega
theorem greatest_c (a b : Int) : Gives Tryz.prog 234 [intsP [a, b]] (.int .i64 (max a b)) := by
  refine calls_of_awpS mixed L234_ok (Nat.le_of_ble_eq_true rfl) ?_
  simp [L234, intsP]
  refine call_gives (k := 0) rfl rfl (max_c a [b] (by simp)) rfl ?_
  simp [foldMax]
  omega
def St.next (s : St) (level : Int) : Int → Int
  | 0 => max 0 (level - 1)
  | 1 => min (s.levels - 1) (level + 1)
  | _ => level
theorem lower_c (s : St) (v : Int) (hv : -1000 ≤ v ∧ v ≤ 1000) : Gives Tryz.prog 187 [s.pv, .int .i64 v] (.int .i64 (s.next v 0)) := by
  refine calls_of_awpS mixed L187_ok (Nat.le_of_ble_eq_true rfl) ?_
  have hw : IntKind.i64.wrap (v - 1) = v - 1 := wrap64 (by omega)
  simp [L187, St.pv, hw]
  refine call_gives (k := 1) rfl rfl (greatest_c 0 (v - 1)) rfl ?_
  simp [St.next]
theorem higher_c (s : St) (v : Int) (hs : 0 ≤ s.levels ∧ s.levels ≤ 1000) (hv : -1000 ≤ v ∧ v ≤ 1000) : Gives Tryz.prog 188 [s.pv, .int .i64 v] (.int .i64 (s.next v 1)) := by
  refine calls_of_awpS mixed L188_ok (Nat.le_of_ble_eq_true rfl) ?_
  have hw : IntKind.i64.wrap (v + 1) = v + 1 := wrap64 (by omega)
  have hw2 : IntKind.i64.wrap (s.levels - 1) = s.levels - 1 := wrap64 (by omega)
  simp [L188, St.pv, hw, hw2]
  refine call_gives (k := 1) rfl rfl (least_c (s.levels - 1) (v + 1)) rfl ?_
  simp [St.next]
theorem stays_c (s : St) (v : Int) : Gives Tryz.prog 189 [s.pv, .int .i64 v] (.int .i64 (s.next v 2)) := by
  refine calls_of_awpS mixed L189_ok (Nat.le_of_ble_eq_true rfl) ?_
  simp [L189, St.pv, St.next]
def movesL : List PV := [.agg [.fn 187 [] []], .agg [.fn 188 [] []], .agg [.fn 189 [] []]]
theorem moves_c : CallsA Tryz.prog 130 [] [] (fun r B => r = .vec (.ret 0) 1 0 3 ∧ ∃ e, B = [(.ret 0, .arr e 1 movesL)]) := by
  refine calls_of_awpB [.loc 4 0] mixed L130_ok (Nat.le_of_ble_eq_true rfl) ?_
  simp [-getElem?_pos, L130, movesL, retB, outsOk, AS.exp, expG, Box.ren, AV.map, AV.mapL, noRet, Site.isRet, Box.allS, AV.allS, AV.allSL, List.findIdx?_cons]
def Rn.may (r : Rn) (level result : Int) : Bool := (decide (r.level = -1) || decide (r.level = level)) && (decide (r.res = 3) || decide (r.res = result))
theorem may_c (s : St) (i : Nat) (r : Rn) (hr : s.runs[i]? = some r) (level result : Int) : Gives Tryz.prog 191 [s.pv, .agg [.int .i64 i, .int .i64 level], .int .u8 result] (.bool (r.may level result)) := by
  refine calls_of_awpS mixed L191_ok (Nat.le_of_ble_eq_true rfl) ?_
  obtain ⟨lv, rs⟩ := r
  have main : ∀ (b1 b2 b3 b4 : Bool), decide (lv = -1) = b1 → decide (lv = level) = b2 → decide (rs = 3) = b3 → decide (rs = result) = b4 → awpS Tryz.prog L191.code (finQ (retF L191.res fun r B => r = .pv (.bool ((b1 || b2) && (b3 || b4))) ∧ B = [])) ⟨initT 0 ([s.pv, .agg [.int .i64 i, .int .i64 level], .int .u8 result].map .pv), []⟩ := by
    intro b1 b2 b3 b4 h1 h2 h3 h4
    simp only [L191]
    cases b1 <;> cases b2 <;> cases b3 <;> cases b4
    all_goals simp [-getElem?_pos, -decide_eq_true_eq, -decide_eq_false_iff_not, St.pv, Rn.pv, hr, h1, h2, h3, h4]
  exact main _ _ _ _ rfl rfl rfl rfl
end Go.Proofs.YtaffbiibcfeigaaGreat
/-! Contracts of layer 4's functions (stair): CheckStairs. -/
namespace Go.Proofs.YtaffbiibcfeigaaGreat
open Go.RowKit
attribute [local simp] Box.purge Site.isLoc
set_option maxRecDepth 10000
set_option linter.unusedSimpArgs false
def lostN (l : List Rn) : Nat := l.countP fun r => decide (r.res = 3)
def St.placed (s : St) : Bool := decide (1 ≤ s.levels) && decide (s.levels ≤ 8) && (decide (0 ≤ s.start) && decide (s.start ≤ s.levels - 1))
def St.isRun (s : St) (r : Rn) : Bool := decide (-1 ≤ r.level) && decide (r.level ≤ s.levels - 1) && decide (r.res ≤ 3)
def St.check (s : St) : Int := if 14 < s.runs.length ∨ 6 < lostN s.runs then 3 else if s.placed = true ∧ s.runs.all s.isRun = true then 0 else 1
theorem lost_take {l : List Rn} {k : Nat} {r : Rn} (h : l[k]? = some r) : lostN (l.take (k + 1)) = lostN (l.take k) + (if r.res = 3 then 1 else 0) := by
  unfold lostN
  rw [List.take_add_one, h]
  simp [List.countP_append, List.countP_cons]
theorem lost_le (l : List Rn) (k : Nat) : lostN (l.take k) ≤ k := by
  unfold lostN
  refine Nat.le_trans List.countP_le_length ?_
  rw [List.length_take]; omega
def runP (x : PV) : Rn := match x with
  | .agg [.int _ a, .int _ b] => ⟨a, b⟩
  | _ => ⟨0, 0⟩
theorem check_c (s : St) (hl : s.runs.length ≤ 1000000) : Gives Tryz.prog 190 [s.pv] (.int .i64 s.check) := by
  refine calls_of_awpS mixed L190_ok (Nat.le_of_ble_eq_true rfl) ?_
  simp [-getElem?_pos, L190, St.pv]
  refine awp_loopS (fun n τ => ∃ k : Nat, k ≤ s.runs.length ∧ n = s.runs.length - k ∧ τ = ⟨[(1, .ptr (.loc 1 0) 0), (3, .pv (.int .i64 (lostN (s.runs.take k)))), (7, .pv (.lst false 2 (s.runs.map Rn.pv))), (8, .pv (.int .i64 s.runs.length)), (9, .pv (.int .i64 k))],
      [(.loc 1 0, .cells [.pv (.int .i64 s.levels), .pv (.int .i64 s.start), .pv (.lst false 2 (s.runs.map Rn.pv))])]⟩)
    ⟨s.runs.length, _, Sub.mk (by simp [lostN]) (by simp), 0, by omega, rfl, rfl⟩ ?_
  rintro J hJ n τ ⟨k, hk, rfl, rfl⟩
  by_cases hlt : k < s.runs.length
  · have hx : s.runs[k]? = some s.runs[k] := List.getElem?_eq_getElem hlt
    generalize s.runs[k] = r at hx
    obtain ⟨lv, rs⟩ := r
    have hw : IntKind.i64.wrap ((k : Int) + 1) = ((k + 1 : Nat) : Int) := by rw [wrap64 (by omega)]; omega
    have hln := lost_le s.runs k
    have hw2 : IntKind.i64.wrap ((lostN (s.runs.take k) : Int) + 1) = ((lostN (s.runs.take k) + 1 : Nat) : Int) := by rw [wrap64 (by omega)]; omega
    have hls := lost_take hx
    cases hb : decide (rs = 3)
    · have hb' : ¬ rs = 3 := by simpa using hb
      simp only [hb', if_false, Nat.add_zero] at hls
      simp [-getElem?_pos, -decide_eq_true_eq, -decide_eq_false_iff_not, hlt, hx, Rn.pv, hb, hw]
      exact ⟨_, _, (by omega : s.runs.length - (k + 1) < s.runs.length - k), Sub.mk (by simp [hls]) (by simp), hJ _ _ ⟨k + 1, by omega, rfl, rfl⟩⟩
    · have hb' : rs = 3 := by simpa using hb
      simp only [hb', if_true] at hls
      simp [-getElem?_pos, -decide_eq_true_eq, -decide_eq_false_iff_not, hlt, hx, Rn.pv, hb, hw, hw2]
      exact ⟨_, _, (by omega : s.runs.length - (k + 1) < s.runs.length - k), Sub.mk (by simp [hls]) (by simp), hJ _ _ ⟨k + 1, by omega, rfl, rfl⟩⟩
  · have he : k = s.runs.length := by omega
    subst he
    rw [List.take_length]
    by_cases h1 : 14 < s.runs.length
    · have h1' : decide ((s.runs.length : Int) > 14) = true := by simp; omega
      simp [-getElem?_pos, -decide_eq_true_eq, -decide_eq_false_iff_not, h1', St.check, h1]
    · have h1' : decide ((s.runs.length : Int) > 14) = false := by simp; omega
      by_cases h2 : 6 < lostN s.runs
      · have h2' : decide ((lostN s.runs : Int) > 6) = true := by simp; omega
        simp [-getElem?_pos, -decide_eq_true_eq, -decide_eq_false_iff_not, h1', h2', St.check, h2]
      · have h2' : decide ((lostN s.runs : Int) > 6) = false := by simp; omega
        simp [-getElem?_pos, -decide_eq_true_eq, -decide_eq_false_iff_not, h1', h2']
        refine call_gives (k := 0) rfl rfl (place_c s.levels s.start) rfl ?_
        cases hp : decide (1 ≤ s.levels) && decide (s.levels ≤ 8) && (decide (0 ≤ s.start) && decide (s.start ≤ s.levels - 1))
        · simp [-getElem?_pos, St.check, h1, h2, St.placed, hp]
        · simp [-getElem?_pos]
          have hq : ∀ x ∈ s.runs.map Rn.pv, Gives Tryz.prog 237 ([s.pv] ++ [x] ++ []) (.bool (s.isRun (runP x))) := fun x hx => by
            obtain ⟨r, _, rfl⟩ := List.mem_map.1 hx
            have hb : 1 ≤ s.levels ∧ s.levels ≤ 8 := by simp at hp; omega
            exact run_c s r (by omega)
          refine call_gives (k := 0) rfl rfl (allRun_c (s.runs.map Rn.pv) 237 [s.pv] [] (fun x => s.isRun (runP x)) hq (by simpa using hl) (fun x hx => by
            obtain ⟨r, _, rfl⟩ := List.mem_map.1 hx
            exact ⟨_, rfl, rfl⟩)) rfl ?_
          have ha : (s.runs.map Rn.pv).all (fun x => s.isRun (runP x)) = s.runs.all s.isRun := by
            rw [List.all_map]; rfl
          rw [ha]
          have hpl : s.placed = true := hp
          cases hall : s.runs.all s.isRun
          · simp [-getElem?_pos, -List.all_eq_true, -List.all_eq_false, St.check, h1, h2, hpl, hall]
          · simp [-getElem?_pos, -List.all_eq_true, -List.all_eq_false, St.check, h1, h2, hpl, hall]
end Go.Proofs.YtaffbiibcfeigaaGreat
/-! Contracts of layer 4's functions (stair): can a history go on? -/
namespace Go.Proofs.YtaffbiibcfeigaaGreat
open Go.RowKit
attribute [local simp] Box.purge Site.isLoc
set_option maxRecDepth 10000
set_option linter.unusedSimpArgs false
/-- Can a history go on from these runs at a level? -/
def St.can (s : St) : List Rn → Int → Bool
  | [], _ => true
  | r :: rest, v => [0, 1, 2].any fun res => r.may v res && s.can rest (s.next v res)
/-- What is known. -/
abbrev Kn := List ((Nat × Int) × Bool)
def keyP (i : Nat) (v : Int) : PV := .agg [.int .i64 i, .int .i64 v]
def Kn.pv (M : Kn) : List (PV × PV) := M.map fun e => (keyP e.1.1 e.1.2, .bool e.2)
def Kn.get (M : Kn) (i : Nat) (v : Int) : Option Bool := match M with
  | [] => none
  | ((j, u), b) :: r => if (i = j ∧ v = u) then some b else Kn.get r i v
def Kn.put (M : Kn) (i : Nat) (v : Int) (b : Bool) : Kn := match M with
  | [] => [((i, v), b)]
  | ((j, u), b') :: r => if (i = j ∧ v = u) then ((i, v), b) :: r else ((j, u), b') :: Kn.put r i v b
theorem eqK_key (i j : Nat) (v u : Int) : eqK (keyP i v) (keyP j u) = decide (i = j ∧ v = u) := by
  simp only [eqK, keyP, PV.cells, eqL, eqC, Bool.and_true]
  rw [Bool.eq_iff_iff]
  simp
  intro _
  omega
theorem Kn.find : ∀ (M : Kn) (i : Nat) (v : Int), findV (keyP i v) M.pv = (M.get i v).map .bool
  | [], i, v => rfl
  | ((j, u), b) :: r, i, v => by
    show (match eqK (keyP i v) (keyP j u) with
      | true => some (PV.bool b)
      | false => findV (keyP i v) (Kn.pv r)) = _
    rw [eqK_key, Kn.find r i v]
    rw [show Kn.get (((j, u), b) :: r) i v = if (i = j ∧ v = u) then some b else Kn.get r i v from rfl]
    by_cases h : i = j ∧ v = u
    · simp [h]
    · simp [h]
theorem Kn.putP : ∀ (M : Kn) (i : Nat) (v : Int) (b : Bool), putK (keyP i v) (.bool b) M.pv = (M.put i v b).pv
  | [], i, v, b => rfl
  | ((j, u), b') :: r, i, v, b => by
    show (match eqK (keyP i v) (keyP j u) with
      | true => (keyP i v, PV.bool b) :: Kn.pv r
      | false => (keyP j u, PV.bool b') :: putK (keyP i v) (.bool b) (Kn.pv r)) = _
    rw [eqK_key, Kn.putP r i v b]
    rw [show Kn.put (((j, u), b') :: r) i v b = if (i = j ∧ v = u) then ((i, v), b) :: r else ((j, u), b') :: Kn.put r i v b from rfl]
    by_cases h : i = j ∧ v = u
    · simp [h, Kn.pv]
    · simp [h, Kn.pv]
theorem Kn.keys (M : Kn) : keysOk ⟨true, [.int .i64, .int .i64]⟩ M.pv = true := by
  unfold keysOk
  rw [List.all_eq_true]
  intro p hp
  obtain ⟨e, _, rfl⟩ := List.mem_map.1 hp
  rfl
def St.good (s : St) (M : Kn) : Prop := ∀ e ∈ M, e.2 = s.can (s.runs.drop e.1.1) e.1.2
theorem St.good_get {s : St} {M : Kn} (h : s.good M) {i : Nat} {v : Int} {b : Bool} (hg : M.get i v = some b) : b = s.can (s.runs.drop i) v := by
  induction M with
  | nil => cases hg
  | cons e r ih =>
    obtain ⟨⟨j, u⟩, b'⟩ := e
    unfold Kn.get at hg
    split at hg
    · rename_i c; obtain ⟨rfl, rfl⟩ := c
      cases hg
      exact h ((i, v), b) (by simp)
    · exact ih (fun e he => h e (by simp [he])) hg
theorem St.good_put {s : St} {M : Kn} (h : s.good M) (i : Nat) (v : Int) : s.good (M.put i v (s.can (s.runs.drop i) v)) := by
  induction M with
  | nil => intro e he; simp [Kn.put] at he; subst he; rfl
  | cons e r ih =>
    obtain ⟨⟨j, u⟩, b'⟩ := e
    unfold Kn.put
    have hr : s.good r := fun e he => h e (by simp [he])
    split
    · intro e he
      rcases List.mem_cons.1 he with rfl | he
      · rfl
      · exact hr e he
    · intro e he
      rcases List.mem_cons.1 he with rfl | he
      · exact h _ (by simp)
      · exact ih hr e he
/-- The boxes of the iterator. -/
def St.cells (s : St) : List AV := [.pv (.int .i64 s.levels), .pv (.int .i64 s.start), .pv (.lst false 2 (s.runs.map Rn.pv))]
def mayF (s : St) : AV := .pv (.fn 191 [s.pv] [])
def canF : AV := .fn 192 [] [.ptr (.par 0) 0, .ptr (.par 1) 0, .ptr (.par 3) 0, .ptr (.par 4) 0]
def canB (s : St) (M : Kn) : List (Site × Box) := [(.par 0, .cells s.cells), (.par 1, .cells [.mp (.par 2)]), (.par 2, .map M.pv), (.par 3, .cells [mayF s]), (.par 4, .cells [canF])]
def pars5 : List Site := [.par 0, .par 1, .par 2, .par 3, .par 4]
attribute [local simp] pars5 AS.exp expG Box.ren AV.map AV.mapL outsOk noRet Site.isRet Box.allS AV.allS AV.allSL retB St.cells mayF canF canB dropL AS.adds renL outG outOk lentBx inG fnOf lookA List.findIdx?_cons
theorem St.next_in {s : St} (hs : 1 ≤ s.levels ∧ s.levels ≤ 1000) {v : Int} (hv : 0 ≤ v ∧ v ≤ 1000) (k : Int) : 0 ≤ s.next v k ∧ s.next v k ≤ 1000 := by
  unfold St.next
  split <;> omega
/-- The state at the head of the loop over the results. -/
def canH (s : St) (i : Nat) (v : Int) (e : TypeId) (k : Nat) (M : Kn) : AS :=
  ⟨[(1, .ptr (.par 0) 0), (2, .ptr (.par 1) 0), (3, .ptr (.par 3) 0), (4, .ptr (.par 4) 0), (5, .ptr (.loc 5 0) 0), (7, .pv (.bool false)), (25, .vec (.loc 25 0) 1 0 3), (26, .pv (.int .i64 3)), (27, .pv (.int .i64 k))],
    [(.loc 25 0, .arr e 1 movesL), (.loc 5 0, .cells [.pv (.int .i64 i), .pv (.int .i64 v)])] ++ canB s M⟩
set_option maxHeartbeats 4000000 in
theorem can_c (s : St) (hs : 1 ≤ s.levels ∧ s.levels ≤ 1000) (hl : s.runs.length ≤ 100) : ∀ (n i : Nat) (v : Int) (M : Kn), i + n = s.runs.length → 0 ≤ v ∧ v ≤ 1000 → s.good M →
    CallsA Tryz.prog 192 [.pv (keyP i v), .ptr (.par 0) 0, .ptr (.par 1) 0, .ptr (.par 3) 0, .ptr (.par 4) 0] (canB s M)
      (fun r B' => r = .pv (.bool (s.can (s.runs.drop i) v)) ∧ ∃ M', s.good M' ∧ B' = canB s M') := by
  intro n
  induction n with
  | zero =>
    intro i v M hi hv hM
    have hi' : (i : Int) = s.runs.length := by omega
    have hd : s.runs.drop i = [] := List.drop_of_length_le (by omega)
    refine calls_of_awpB pars5 mixed L192_ok (Nat.le_of_ble_eq_true rfl) ?_
    simp [-getElem?_pos, L192, keyP, hi', hd, St.can]
    exact ⟨M, hM, rfl⟩
  | succ n ih =>
    intro i v M hi hv hM
    have hne : ¬ (i : Int) = s.runs.length := by omega
    have hlt : i < s.runs.length := by omega
    have hr : s.runs[i]? = some s.runs[i] := List.getElem?_eq_getElem hlt
    have hd : s.runs.drop i = s.runs[i] :: s.runs.drop (i + 1) := List.drop_eq_getElem_cons hlt
    generalize s.runs[i] = r at hr hd
    have hcan : s.can (s.runs.drop i) v = ([0, 1, 2].any fun res => r.may v res && s.can (s.runs.drop (i + 1)) (s.next v res)) := by rw [hd]; rfl
    have hf := Kn.find M i v
    simp only [keyP] at hf
    have hk := Kn.keys M
    refine calls_of_awpB pars5 mixed L192_ok (Nat.le_of_ble_eq_true rfl) ?_
    cases hg : M.get i v with
    | some b =>
      rw [hg] at hf
      simp only [Option.map_some] at hf
      have hb := St.good_get hM hg
      simp [-getElem?_pos, L192, keyP, hne, hf, hk, ← hb]
      exact ⟨M, hM, rfl⟩
    | none =>
      rw [hg] at hf
      simp only [Option.map_none] at hf
      simp [-getElem?_pos, L192, keyP, hne, hf, hk]
      refine call_lent (as' := []) (B := []) (fs := []) (cs := []) 25 [] ?_ rfl rfl rfl ?_ ?_ moves_c ?_
      · rfl
      · rfl
      · rfl
      rintro r0 B0 ⟨rfl, e, rfl⟩
      refine ⟨rfl, by simp, ?_⟩
      simp [-getElem?_pos]
      refine awp_loopS (fun n τ => ∃ (k : Nat) (M : Kn), k ≤ 3 ∧ n = 3 - k ∧ s.good M ∧ (∀ j : Nat, j < k → (r.may v j && s.can (s.runs.drop (i + 1)) (s.next v j)) = false) ∧ τ = canH s i v e k M)
        ⟨3, _, Sub.mk (by simp) (by simp), 0, M, by omega, rfl, hM, fun j hj => by omega, rfl⟩ ?_
      rintro J hJ n τ ⟨k, M', hk, rfl, hM', hno, rfl⟩
      by_cases hlt : k < 3
      · obtain ⟨g, hx, hgv⟩ : ∃ g, movesL[k]? = some (.agg [.fn g [] []]) ∧ Gives Tryz.prog g [s.pv, .int .i64 v] (.int .i64 (s.next v k)) := by
          have : k = 0 ∨ k = 1 ∨ k = 2 := by omega
          rcases this with rfl | rfl | rfl
          · exact ⟨_, rfl, lower_c s v (by omega)⟩
          · exact ⟨_, rfl, higher_c s v (by omega) (by omega)⟩
          · exact ⟨_, rfl, stays_c s v⟩
        have hw : IntKind.i64.wrap ((k : Int) + 1) = ((k + 1 : Nat) : Int) := by rw [wrap64 (by omega)]; omega
        have hw8 : IntKind.u8.wrap (k : Int) = k := by
          have : k = 0 ∨ k = 1 ∨ k = 2 := by omega
          rcases this with rfl | rfl | rfl <;> decide
        have hwi : IntKind.i64.wrap ((i : Int) + 1) = ((i + 1 : Nat) : Int) := by rw [wrap64 (by omega)]; omega
        have hb3 : k.blt 3 = true := by rw [Nat.blt_eq]; omega
        have hlt' : decide ((k : Int) < 3) = true := by simp; omega
        simp [-getElem?_pos, -decide_eq_true_eq, -decide_eq_false_iff_not, canH, canB, hlt', hb3, hx, hw8]
        refine call_give (k := 2) rfl rfl (may_c s i r hr v k) rfl ?_
        cases hm : r.may v k
        · simp [-getElem?_pos, -decide_eq_true_eq, -decide_eq_false_iff_not, hw]
          refine ⟨_, _, (by omega : 3 - (k + 1) < 3 - k), Sub.mk (by simp [canH]) (by simp [canH]), hJ _ _ ⟨k + 1, M', by omega, rfl, hM', ?_, rfl⟩⟩
          intro j hj
          by_cases hjk : j = k
          · subst hjk; rw [hm]; rfl
          · exact hno j (by omega)
        · simp [-getElem?_pos, -decide_eq_true_eq, -decide_eq_false_iff_not, hwi]
          refine call_give (k := 2) rfl rfl hgv rfl ?_
          simp [-getElem?_pos, -decide_eq_true_eq, -decide_eq_false_iff_not]
          have hvn := St.next_in hs hv k
          refine call_lent (as' := [.pv (keyP (i + 1) (s.next v k)), .ptr (.par 0) 0, .ptr (.par 1) 0, .ptr (.par 3) 0, .ptr (.par 4) 0]) (B := canB s M') (fs := []) (cs := [.ptr (.par 0) 0, .ptr (.par 1) 0, .ptr (.par 3) 0, .ptr (.par 4) 0]) 49 pars5 ?_ rfl rfl ?_ ?_ ?_ (ih (i + 1) (s.next v k) M' (by omega) hvn hM') ?_
          · rfl
          · rfl
          · rfl
          · rfl
          rintro r0 B0 ⟨rfl, M3, hM3, rfl⟩
          refine ⟨rfl, by simp [canB], ?_⟩
          have hmk : (r.may v k && s.can (s.runs.drop (i + 1)) (s.next v k)) = s.can (s.runs.drop (i + 1)) (s.next v k) := by rw [hm]; rfl
          cases hcn : s.can (s.runs.drop (i + 1)) (s.next v k)
          · have hmk := hmk.trans hcn
            simp [-getElem?_pos, -decide_eq_true_eq, -decide_eq_false_iff_not, canB, hw]
            refine ⟨_, _, (by omega : 3 - (k + 1) < 3 - k), Sub.mk (by simp [canH]) (by simp [canH, canB]), hJ _ _ ⟨k + 1, M3, by omega, rfl, hM3, ?_, rfl⟩⟩
            intro j hj
            by_cases hjk : j = k
            · subst hjk; exact hmk
            · exact hno j (by omega)
          · have hmk := hmk.trans hcn
            have hk3 := Kn.keys M3
            have hp := Kn.putP M3 i v true
            simp only [keyP] at hp
            have hf3 : s.can (s.runs.drop i) v = true := by
              rw [hcan, List.any_eq_true]
              have : k = 0 ∨ k = 1 ∨ k = 2 := by omega
              exact ⟨k, by rcases this with rfl | rfl | rfl <;> simp, hmk⟩
            have hM4 := St.good_put hM3 i v
            rw [hf3] at hM4
            simp [-getElem?_pos, -decide_eq_true_eq, -decide_eq_false_iff_not, canB, hk3, hp, hf3]
            exact ⟨_, hM4, rfl⟩
      · have he : k = 3 := by omega
        subst he
        have hk' := Kn.keys M'
        have hp := Kn.putP M' i v false
        simp only [keyP] at hp
        have hf3 : s.can (s.runs.drop i) v = false := by
          have h0 : (r.may v 0 && s.can (s.runs.drop (i + 1)) (s.next v 0)) = false := hno 0 (by omega)
          have h1 : (r.may v 1 && s.can (s.runs.drop (i + 1)) (s.next v 1)) = false := hno 1 (by omega)
          have h2 : (r.may v 2 && s.can (s.runs.drop (i + 1)) (s.next v 2)) = false := hno 2 (by omega)
          rw [hcan]
          simp only [List.any_cons, List.any_nil, h0, h1, h2]; rfl
        have hM'' := St.good_put hM' i v
        rw [hf3] at hM''
        simp [-getElem?_pos, canH, canB, hk', hp, hf3]
        exact ⟨_, hM'', rfl⟩
end Go.Proofs.YtaffbiibcfeigaaGreat
/-! Contracts of layer 4's functions (stair): the histories, one after the other, for any loop. -/
namespace Go.Proofs.YtaffbiibcfeigaaGreat
open Go.RowKit
set_option maxRecDepth 10000
set_option linter.unusedSimpArgs false
/-- A loop over what an iterator hands out: its boxes by its state; a round: the next state, goes it on? -/
structure Cons (P : Program) where
  m : Nat
  S : Type
  X : S → List Box
  step : S → PV → S × Bool
  good : PV → Prop
  live : S → Prop
  m0 : 0 < m
  len : ∀ s, (X s).length = m
  cl : ∀ s, closedB m (X s)
  yields : ∀ s x, live s → good x → YieldsA P 0 [.pv x] (laid 0 (X s)) (fun r B => r = .pv (.bool (step s x).2) ∧ B = laid 0 (X (step s x).1))
  goes : ∀ s x, live s → good x → (step s x).2 = true → live (step s x).1
def Cons.run {P : Program} (C : Cons P) : C.S → List PV → C.S × Bool
  | s, [] => (s, true)
  | s, x :: r => match (C.step s x).2 with
    | true => C.run (C.step s x).1 r
    | false => ((C.step s x).1, false)
theorem Cons.run_app {P : Program} {C : Cons P} : ∀ (a b : List PV) (s : C.S), C.run s (a ++ b) = match (C.run s a).2 with
    | true => C.run (C.run s a).1 b
    | false => C.run s a
  | [], b, s => rfl
  | x :: a, b, s => by
    rw [List.cons_append, Cons.run, Cons.run]
    split
    · exact Cons.run_app a b _
    · rfl
theorem Cons.run_live {P : Program} {C : Cons P} : ∀ (a : List PV) (s : C.S), C.live s → (∀ x ∈ a, C.good x) → (C.run s a).2 = true → C.live (C.run s a).1
  | [], s, h, _, _ => h
  | x :: a, s, h, hg, hr => by
    rw [Cons.run] at hr ⊢
    split
    · rename_i h2
      rw [h2] at hr
      exact Cons.run_live a _ (C.goes s x h (hg x (by simp)) h2) (fun y hy => hg y (by simp [hy])) hr
    · rename_i h2
      rw [h2] at hr
      cases hr
theorem sees_skipC {P : Program} {C : Cons P} {c : C.S} {tm : List (Nat × AV)} {p : Site × Box} {r : List (Site × Box)} (hp : p.1.lt C.m = false) (h : sees ⟨tm, r⟩ (C.X c)) : sees ⟨tm, p :: r⟩ (C.X c) := sees_skip (by rw [C.len]; exact hp) h
def u8V (n : Int) : PV := .int .u8 n
def i64V (n : Int) : PV := .int .i64 n
/-- A history. -/
def hV (s : St) (d l : List Int) : PV := .agg ([.int .i64 s.levels, .int .i64 s.start, .lst false 2 (s.runs.map Rn.pv)] ++ (d.map u8V ++ l.map i64V))
def hA (s : St) (d l : List Int) : List AV := [.pv (.int .i64 s.levels), .pv (.int .i64 s.start), .pv (.lst false 2 (s.runs.map Rn.pv))] ++ (d.map u8V ++ l.map i64V).map .pv
/-- How a history can go on: results, levels. -/
def St.paths (s : St) : List Rn → Int → List (List Int × List Int)
  | [], _ => [([], [])]
  | r :: rest, v => [0, 1, 2].flatMap fun k => if r.may v k then (s.paths rest (s.next v k)).map fun p => (k :: p.1, v :: p.2) else []
def zeros (n : Nat) : List Int := List.replicate n 0
def St.items (s : St) (ds ls : List Int) (rest : List Rn) (v : Int) : List PV := (s.paths rest v).map fun p => hV s (ds ++ p.1 ++ zeros (14 - s.runs.length)) (ls ++ p.2 ++ zeros (14 - s.runs.length))
theorem St.paths_can (s : St) : ∀ (rest : List Rn) (v : Int), s.can rest v = false → s.paths rest v = []
  | [], v, h => by cases h
  | r :: rest, v, h => by
    unfold St.can at h
    unfold St.paths
    rw [List.flatMap_eq_nil_iff]
    intro k hk
    have h2 := List.any_eq_false.1 h k hk
    cases hm : r.may v k with
    | false => rfl
    | true =>
      rw [hm] at h2
      simp only [Bool.true_and, Bool.not_eq_true] at h2
      rw [St.paths_can s rest _ h2]; rfl
def canF' (m : Nat) : AV := .fn 192 [] [.ptr (.par m) 0, .ptr (.par (m + 1)) 0, .ptr (.par (m + 3)) 0, .ptr (.par (m + 4)) 0]
def furF (m : Nat) : AV := .fn 194 [] [.ptr (.par m) 0, .ptr (.par (m + 5)) 0, .ptr (.par (m + 6)) 0, .ptr (.par (m + 3)) 0, .ptr (.par (m + 4)) 0, .ptr (.par (m + 7)) 0]
def ownF (s : St) (M : Kn) (m : Nat) (d l : List Int) : List Box :=
  [.cells s.cells, .cells [.mp (.par (m + 2))], .map M.pv, .cells [mayF s], .cells [canF' m], .cells [.yld (.par 0)], .cells (hA s d l), .cells [furF m]]
def ownL (s : St) (M : Kn) (m : Nat) (d l : List Int) : List (Site × Box) :=
  [(.par m, .cells s.cells), (.par (m + 1), .cells [.mp (.par (m + 2))]), (.par (m + 2), .map M.pv), (.par (m + 3), .cells [mayF s]), (.par (m + 4), .cells [canF' m]), (.par (m + 5), .cells [.yld (.par 0)]), (.par (m + 6), .cells (hA s d l)), (.par (m + 7), .cells [furF m])]
theorem laid_own {C : Cons Tryz.prog} {c : C.S} {s : St} {M : Kn} {d l : List Int} : laid 0 (C.X c ++ ownF s M C.m d l) = laid 0 (C.X c) ++ ownL s M C.m d l := by
  rw [laid_app, C.len]
  simp [ownF, ownL, laid]
theorem unpvs_map : ∀ l : List PV, unpvs (l.map .pv) = some l
  | [] => rfl
  | a :: r => by simp [unpvs, unpvs_map r]
theorem hA_purge {s : St} {d l : List Int} {k : Nat} : (hA s d l).map (AV.purge k) = hA s d l := by
  have : ∀ a ∈ hA s d l, AV.purge k a = a := fun a ha => by
    unfold hA at ha
    rcases List.mem_append.1 ha with h | h
    · simp at h; rcases h with rfl | rfl | rfl <;> rfl
    · obtain ⟨x, _, rfl⟩ := List.mem_map.1 h; rfl
  rw [List.map_congr_left this, List.map_id']
theorem laid_purgeC {C : Cons Tryz.prog} {c : C.S} {k : Nat} : ((laid 0 (C.X c)).filter fun p => !p.1.isLoc k).map (fun p => (p.1, p.2.purge k)) = laid 0 (C.X c) := laid_purge (C.cl c)
theorem laid_outC {C : Cons Tryz.prog} {c : C.S} : (laid 0 (C.X c)).filter (fun p => !p.1.lt C.m) = [] := laid_out (by rw [C.len]; omega)
theorem laid_outC8 {C : Cons Tryz.prog} {c : C.S} {n : Nat} : (laid 0 (C.X c)).filter (fun p => !p.1.lt (C.m + n)) = [] := laid_out (by rw [C.len]; omega)
theorem lt_ownN {m k n : Nat} : Site.lt (m + n) (.par (m + k)) = decide (k < n) := by simp [Site.lt]
theorem lt_ownN0 {m n : Nat} : Site.lt (m + n) (.par m) = decide (0 < n) := by simp [Site.lt]
theorem hA_len {s : St} {d l : List Int} (hd : d.length = 14) (hl : l.length = 14) : (hA s d l).length = 31 := by simp [hA, hd, hl]
theorem hA_unpvs {s : St} {d l : List Int} : unpvs (hA s d l) = some ([.int .i64 s.levels, .int .i64 s.start, .lst false 2 (s.runs.map Rn.pv)] ++ (d.map u8V ++ l.map i64V)) := by
  have : hA s d l = (([.int .i64 s.levels, .int .i64 s.start, .lst false 2 (s.runs.map Rn.pv)] ++ (d.map u8V ++ l.map i64V)) : List PV).map .pv := by simp [hA]
  rw [this, unpvs_map]
theorem hA_closed {s : St} {d l : List Int} {q : Site → Bool} : AV.allSL q (hA s d l) = true := by
  have : ∀ L : List PV, AV.allSL q (L.map .pv) = true := fun L => by
    induction L with
    | nil => rfl
    | cons a r ih => simp [AV.allSL, AV.allS, ih]
  unfold hA
  simp [AV.allSL, AV.allS, this, -List.map_append, -List.map_map]
theorem closed_own {C : Cons Tryz.prog} {c : C.S} {s : St} {M : Kn} {d l : List Int} : closedB (C.m + 8) (C.X c ++ ownF s M C.m d l) := by
  refine closed_app (C.cl c) ?_
  intro b hb
  unfold ownF at hb
  simp only [List.mem_cons, List.not_mem_nil, or_false] at hb
  have h0 := C.m0
  rcases hb with rfl | rfl | rfl | rfl | rfl | rfl | rfl | rfl <;> simp [Box.allS, AV.allSL, AV.allS, St.cells, mayF, canF', furF, Site.lt, hA_closed] <;> omega
structure Junk (s : St) (d l : List Int) : Prop where
  d14 : d.length = 14
  l14 : l.length = 14
  dz : d.drop s.runs.length = zeros (14 - s.runs.length)
  lz : l.drop s.runs.length = zeros (14 - s.runs.length)
/-- What further leaves. -/
def furPost (C : Cons Tryz.prog) (s : St) (i : Nat) (d l : List Int) (x : C.S × Bool) : AV → List (Site × Box) → Prop := fun r B' =>
  r = .pv (.bool x.2) ∧ ∃ M' d' l', s.good M' ∧ Junk s d' l' ∧ d'.take i = d.take i ∧ l'.take i = l.take i ∧ B' = laid 0 (C.X x.1 ++ ownF s M' C.m d' l')
/-- The state at the head of the loop over the results. -/
def furH (C : Cons Tryz.prog) (s : St) (i : Nat) (v : Int) (e : TypeId) (k : Nat) (M : Kn) (d l : List Int) (c : C.S) : AS :=
  ⟨[(1, .ptr (.par C.m) 0), (3, .ptr (.par (C.m + 6)) 0), (4, .ptr (.par (C.m + 3)) 0), (5, .ptr (.par (C.m + 4)) 0), (6, .ptr (.par (C.m + 7)) 0), (7, .ptr (.loc 7 0) 0), (8, .pv (.bool false)), (21, .vec (.loc 21 0) 1 0 3), (22, .pv (.int .i64 3)), (23, .pv (.int .i64 k))],
    [(.loc 21 0, .arr e 1 movesL), (.loc 7 0, .cells [.pv (.int .i64 i), .pv (.int .i64 v)])] ++ (laid 0 (C.X c) ++ ownL s M C.m d l)⟩
/-- .. when the next place is reckoned. -/
def furM (C : Cons Tryz.prog) (s : St) (i : Nat) (v : Int) (e : TypeId) (k : Nat) (u : Int) (M : Kn) (d l : List Int) (c : C.S) : AS :=
  ⟨[(1, .ptr (.par C.m) 0), (3, .ptr (.par (C.m + 6)) 0), (4, .ptr (.par (C.m + 3)) 0), (5, .ptr (.par (C.m + 4)) 0), (6, .ptr (.par (C.m + 7)) 0), (7, .ptr (.loc 7 0) 0), (8, .pv (.bool false)), (9, .pv (.int .i64 k)), (11, .ptr (.loc 11 0) 0), (21, .vec (.loc 21 0) 1 0 3), (22, .pv (.int .i64 3)), (23, .pv (.int .i64 k)), (37, .pv (.agg [.int .i64 (i + 1), .int .i64 u]))],
    [(.loc 11 0, .cells [.pv (.int .i64 0), .pv (.int .i64 0)]), (.loc 21 0, .arr e 1 movesL), (.loc 7 0, .cells [.pv (.int .i64 i), .pv (.int .i64 v)])] ++ (laid 0 (C.X c) ++ ownL s M C.m d l)⟩
/-- .. when the result is written. -/
def furN (C : Cons Tryz.prog) (s : St) (i : Nat) (v : Int) (e : TypeId) (k : Nat) (u : Int) (M : Kn) (d l : List Int) (c : C.S) : AS :=
  ⟨[(1, .ptr (.par C.m) 0), (3, .ptr (.par (C.m + 6)) 0), (4, .ptr (.par (C.m + 3)) 0), (5, .ptr (.par (C.m + 4)) 0), (6, .ptr (.par (C.m + 7)) 0), (7, .ptr (.loc 7 0) 0), (8, .pv (.bool false)), (11, .ptr (.loc 11 0) 0), (21, .vec (.loc 21 0) 1 0 3), (22, .pv (.int .i64 3)), (23, .pv (.int .i64 k)), (53, .pv (.int .i64 i)), (57, .pv (.int .i64 v)), (60, .ptr (.par (C.m + 6)) 17)],
    [(.loc 11 0, .cells [.pv (.int .i64 (i + 1)), .pv (.int .i64 u)]), (.loc 21 0, .arr e 1 movesL), (.loc 7 0, .cells [.pv (.int .i64 i), .pv (.int .i64 v)])] ++ (laid 0 (C.X c) ++ ownL s M C.m d l)⟩
theorem splice_u8 {s : St} {d l : List Int} {i : Nat} {k : Int} (hi : i < d.length) : splice (hA s d l) (3 + i) [.pv (.int .u8 k)] = hA s (d.set i k) l := by
  refine List.ext_getElem? (fun j => ?_)
  unfold splice hA
  rw [List.append_assoc]
  by_cases h1 : j < 3 + i
  · rw [List.getElem?_append_left (by simp; omega), List.getElem?_take_of_lt h1]
    by_cases h2 : j < 3
    · rw [List.getElem?_append_left (by simpa using h2), List.getElem?_append_left (by simpa using h2)]
    · rw [List.getElem?_append_right (by simp; omega), List.getElem?_append_right (by simp; omega)]
      simp only [List.length_cons, List.length_nil, Nat.zero_add, List.getElem?_map]
      rw [List.getElem?_append_left (by simp; omega), List.getElem?_append_left (by simp; omega), List.getElem?_map, List.getElem?_map, List.getElem?_set_ne (by omega)]
  · rw [List.getElem?_append_right (by simp; omega)]
    rw [show ([AV.pv (.int .i64 s.levels), .pv (.int .i64 s.start), .pv (.lst false 2 (s.runs.map Rn.pv))] ++ ((d.set i k).map u8V ++ l.map i64V).map .pv : List AV)[j]? = (((d.set i k).map u8V ++ l.map i64V).map .pv : List AV)[j - 3]? from List.getElem?_append_right (by simp; omega)]
    have hlen : (List.take (3 + i) ([AV.pv (.int .i64 s.levels), .pv (.int .i64 s.start), .pv (.lst false 2 (s.runs.map Rn.pv))] ++ (d.map u8V ++ l.map i64V).map .pv : List AV)).length = 3 + i := by simp; omega
    rw [hlen]
    by_cases h2 : j = 3 + i
    · subst h2
      simp only [Nat.sub_self, List.cons_append, List.nil_append, List.getElem?_cons_zero, Nat.add_sub_cancel_left, List.getElem?_map]
      rw [List.getElem?_append_left (by simp; omega), List.getElem?_map, List.getElem?_set_self hi]
      rfl
    · obtain ⟨t, rfl⟩ : ∃ t, j = 3 + i + 1 + t := ⟨j - (3 + i + 1), by omega⟩
      rw [show 3 + i + 1 + t - (3 + i) = t + 1 by omega, List.cons_append, List.nil_append, List.getElem?_cons_succ, List.getElem?_drop]
      rw [List.getElem?_append_right (by simp; omega)]
      simp only [List.length_cons, List.length_nil, Nat.zero_add, List.getElem?_map]
      rw [show 3 + i + 1 + t - 3 = i + 1 + t by omega]
      by_cases h3 : i + 1 + t < d.length
      · rw [List.getElem?_append_left (by simpa using h3), List.getElem?_append_left (by simpa using h3), List.getElem?_map, List.getElem?_map, List.getElem?_set_ne (by omega)]
      · rw [List.getElem?_append_right (by simp; omega), List.getElem?_append_right (by simp; omega)]
        simp
theorem splice_i64 {s : St} {d l : List Int} {i : Nat} {v : Int} (hd : d.length = 14) (hi : i < l.length) : splice (hA s d l) (17 + i) [.pv (.int .i64 v)] = hA s d (l.set i v) := by
  have e : ∀ l : List Int, hA s d l = ([.pv (.int .i64 s.levels), .pv (.int .i64 s.start), .pv (.lst false 2 (s.runs.map Rn.pv))] ++ (d.map u8V).map .pv) ++ (l.map i64V).map .pv := fun l => by unfold hA; simp
  rw [e, e]
  have hP : ([AV.pv (.int .i64 s.levels), .pv (.int .i64 s.start), .pv (.lst false 2 (s.runs.map Rn.pv))] ++ (d.map u8V).map .pv : List AV).length = 17 := by simp [hd]
  generalize ([AV.pv (.int .i64 s.levels), .pv (.int .i64 s.start), .pv (.lst false 2 (s.runs.map Rn.pv))] ++ (d.map u8V).map .pv : List AV) = P at hP
  unfold splice
  rw [show 17 + i = P.length + i by omega, List.take_length_add_append, show P.length + i + [AV.pv (.int .i64 v)].length = P.length + (i + 1) by simp; omega, List.drop_length_add_append, List.append_assoc, List.append_assoc]
  congr 1
  rw [List.map_map, List.map_map, List.map_set, ← List.map_take, ← List.map_drop]
  rw [List.set_eq_take_append_cons_drop, List.length_map, if_pos hi, List.map_take, List.map_drop]
  rfl
/-- What comes of a result. -/
def St.itemsK (s : St) (ds ls : List Int) (r : Rn) (rest : List Rn) (v : Int) (k : Int) : List PV := if r.may v k then s.items (ds ++ [k]) (ls ++ [v]) rest (s.next v k) else []
theorem St.items_cons (s : St) (ds ls : List Int) (r : Rn) (rest : List Rn) (v : Int) : s.items ds ls (r :: rest) v = s.itemsK ds ls r rest v 0 ++ (s.itemsK ds ls r rest v 1 ++ s.itemsK ds ls r rest v 2) := by
  have h : ∀ k : Int, (if r.may v k = true then (s.paths rest (s.next v k)).map (fun p => (k :: p.1, v :: p.2)) else []).map (fun p => hV s (ds ++ p.1 ++ zeros (14 - s.runs.length)) (ls ++ p.2 ++ zeros (14 - s.runs.length))) = s.itemsK ds ls r rest v k := fun k => by
    unfold St.itemsK
    cases r.may v k with
    | false => rfl
    | true => simp [St.items, List.map_map]
  unfold St.items St.paths
  simp only [List.flatMap_cons, List.flatMap_nil, List.append_nil, List.map_append, h]
def own5 (m : Nat) : List Site := [.par m, .par (m + 1), .par (m + 2), .par (m + 3), .par (m + 4)]
theorem own5_nodup {m : Nat} : nodupB (own5 m) = true := by simp [own5, nodupB, memF_eq]
theorem inG_own5 {m : Nat} : inG (own5 m) (.par m) = .par 0 ∧ inG (own5 m) (.par (m + 1)) = .par 1 ∧ inG (own5 m) (.par (m + 2)) = .par 2 ∧ inG (own5 m) (.par (m + 3)) = .par 3 ∧ inG (own5 m) (.par (m + 4)) = .par 4 := by
  simp [inG, own5, List.findIdx?_cons]
theorem outG_own5 {m d : Nat} : outG (own5 m) d (.par 0) = .par m ∧ outG (own5 m) d (.par 1) = .par (m + 1) ∧ outG (own5 m) d (.par 2) = .par (m + 2) ∧ outG (own5 m) d (.par 3) = .par (m + 3) ∧ outG (own5 m) d (.par 4) = .par (m + 4) := ⟨rfl, rfl, rfl, rfl, rfl⟩
theorem con_own5 {m : Nat} : (own5 m).contains (.par m) = true ∧ (own5 m).contains (.par (m + 1)) = true ∧ (own5 m).contains (.par (m + 2)) = true ∧ (own5 m).contains (.par (m + 3)) = true ∧ (own5 m).contains (.par (m + 4)) = true := by simp [own5]
theorem dropL_own5 {m : Nat} {σ : AS} : dropL (own5 m) σ = ((((σ.drop (.par m)).drop (.par (m + 1))).drop (.par (m + 2))).drop (.par (m + 3))).drop (.par (m + 4)) := rfl
theorem lentBx_own5 {s : St} {M : Kn} {σ : AS} {m : Nat} (h : seesO σ m [.cells s.cells, .cells [.mp (.par (m + 2))], .map M.pv, .cells [mayF s], .cells [canF' m]]) : lentBx σ (own5 m) 0 (own5 m) = some (canB s M) := by
  obtain ⟨h0, h1, h2, h3, h4, _⟩ := h
  simp only [Nat.add_assoc, Nat.reduceAdd] at h2 h3 h4
  obtain ⟨i0, i1, i2, i3, i4⟩ := @inG_own5 m
  obtain ⟨c0, c1, c2, c3, c4⟩ := @con_own5 m
  show lentBx σ (own5 m) 0 [.par m, .par (m + 1), .par (m + 2), .par (m + 3), .par (m + 4)] = _
  simp only [lentBx, h0, h1, h2, h3, h4, Box.allS, AV.allSL, AV.allS, St.cells, mayF, canF', c0, c1, c2, c3, c4, Bool.and_self, Bool.true_and, if_true, Box.ren, AV.mapL, AV.map, i0, i1, i2, i3, i4, canB, canF]
theorem laid_dropC {C : Cons Tryz.prog} {c : C.S} {k : Nat} : (laid 0 (C.X c)).filter (fun p => !decide (p.1 = .par (C.m + k))) = laid 0 (C.X c) := by
  rw [List.filter_eq_self]
  intro p hp
  obtain ⟨j, h1, h2⟩ := laid_mem _ _ p hp
  have := (List.getElem?_eq_some_iff.1 h1).1
  rw [C.len] at this
  rw [h2]
  simp
  omega
theorem laid_dropC0 {C : Cons Tryz.prog} {c : C.S} : (laid 0 (C.X c)).filter (fun p => !decide (p.1 = .par C.m)) = laid 0 (C.X c) := laid_dropC (k := 0)
attribute [local simp] isLoc_loc isLoc_par isLoc_ret purge_cells purge_map purge_arr purge_loop hA_purge laid_purgeC
attribute [local simp] AV.map AV.mapL noRet Site.isRet Box.allS AV.allS AV.allSL St.cells mayF ownL canF' furF look_loc AS.adds lt_own lt_own0 lt_loc beq_own beq_own'
set_option maxHeartbeats 4000000 in
theorem further_c (C : Cons Tryz.prog) (s : St) (hs : 1 ≤ s.levels ∧ s.levels ≤ 1000) (hl : s.runs.length ≤ 14) : ∀ (n i : Nat) (v : Int) (M : Kn) (d l : List Int) (c : C.S), i + n = s.runs.length → 0 ≤ v ∧ v ≤ 1000 → s.good M → Junk s d l → C.live c → (∀ x ∈ s.items (d.take i) (l.take i) (s.runs.drop i) v, C.good x) →
    CallsA Tryz.prog 194 [.pv (keyP i v), .ptr (.par C.m) 0, .ptr (.par (C.m + 5)) 0, .ptr (.par (C.m + 6)) 0, .ptr (.par (C.m + 3)) 0, .ptr (.par (C.m + 4)) 0, .ptr (.par (C.m + 7)) 0] (laid 0 (C.X c ++ ownF s M C.m d l))
      (furPost C s i d l (C.run c (s.items (d.take i) (l.take i) (s.runs.drop i) v))) := by
  intro n
  induction n with
  | zero =>
    intro i v M d l c hi hv hM hJ hc hg
    obtain ⟨hd, hl1, hdz, hlz⟩ := hJ
    have hi' : (i : Int) = s.runs.length := by omega
    have hie : i = s.runs.length := by omega
    have hdr : s.runs.drop i = [] := List.drop_of_length_le (by omega)
    have hX := C.len c
    have hlo : ∀ (k : Nat) (r : List (Site × Box)), (laid 0 (C.X c) ++ r).lookup (.par (C.m + k)) = r.lookup (.par (C.m + k)) := fun k r => look_own hX
    have hlo0 : ∀ (r : List (Site × Box)), (laid 0 (C.X c) ++ r).lookup (.par C.m) = r.lookup (.par C.m) := fun r => look_own0 hX
    have hit : s.items (d.take i) (l.take i) (s.runs.drop i) v = [hV s d l] := by
      rw [hdr]
      simp only [St.items, St.paths, List.map_cons, List.map_nil, List.append_nil]
      rw [hie]
      congr 2
      · rw [← hdz, List.take_append_drop]
      · rw [← hlz, List.take_append_drop]
    have hA31 : Nat.ble 31 (hA s d l).length = true := by rw [hA_len hd hl1]; rfl
    have hAt : List.take 31 (hA s d l) = hA s d l := List.take_of_length_le (by rw [hA_len hd hl1]; omega)
    refine calls_of_awpB (parsN (C.m + 8)) mixed L194_ok (Nat.le_of_ble_eq_true rfl) ?_
    rw [laid_own]
    simp [-getElem?_pos, L194, keyP, hi', hlo, hlo0, -List.append_eq, -List.append_assoc, hA31, hAt, hA_unpvs]
    refine yield_pars 20 C.m (C.X c) rfl C.m0 (C.len c) ?_ (C.cl c) rfl (C.yields c (hV s d l) hc (hg _ (by rw [hit]; simp))) ?_
    · refine sees_skip rfl sees_laid
    rintro r B ⟨rfl, rfl⟩
    refine ⟨C.X (C.step c (hV s d l)).1, rfl, C.len _, C.cl _, rfl, ?_⟩
    have hlo : ∀ (k : Nat) (r : List (Site × Box)), (laid 0 (C.X (C.step c (hV s d l)).1) ++ r).lookup (.par (C.m + k)) = r.lookup (.par (C.m + k)) := fun k r => look_own (C.len _)
    have hlo0 : ∀ (r : List (Site × Box)), (laid 0 (C.X (C.step c (hV s d l)).1) ++ r).lookup (.par C.m) = r.lookup (.par C.m) := fun r => look_own0 (C.len _)
    simp [-getElem?_pos, hlo, hlo0, -List.append_eq, -List.append_assoc, laid_outC]
    refine retB_pars (L := C.X (C.step c (hV s d l)).1 ++ ownF s M C.m d l) rfl rfl (by simp [C.len, ownF]) ?_ closed_own ?_
    · exact sees_app (C.len _) sees_laid (by simp [seesO, ownF, hlo, hlo0, Nat.add_assoc])
    · rw [hit]
      have hr : C.run c [hV s d l] = C.step c (hV s d l) := by
        rw [Cons.run]
        split
        · rename_i h; rw [Cons.run]; exact Prod.ext rfl h.symm
        · rename_i h; exact Prod.ext rfl h.symm
      rw [hr]
      exact ⟨rfl, M, d, l, hM, ⟨hd, hl1, hdz, hlz⟩, rfl, rfl, rfl⟩
  | succ n ih =>
    intro i v M d l c hi hv hM hJ hc hg
    have hne : ¬ (i : Int) = s.runs.length := by omega
    have hlt : i < s.runs.length := by omega
    have hr : s.runs[i]? = some s.runs[i] := List.getElem?_eq_getElem hlt
    have hdr : s.runs.drop i = s.runs[i] :: s.runs.drop (i + 1) := List.drop_eq_getElem_cons hlt
    generalize s.runs[i] = r at hr hdr
    have hX := C.len c
    have hlo : ∀ (c : C.S) (k : Nat) (r : List (Site × Box)), (laid 0 (C.X c) ++ r).lookup (.par (C.m + k)) = r.lookup (.par (C.m + k)) := fun c k r => look_own (C.len c)
    have hlo0 : ∀ (c : C.S) (r : List (Site × Box)), (laid 0 (C.X c) ++ r).lookup (.par C.m) = r.lookup (.par C.m) := fun c r => look_own0 (C.len c)
    refine calls_of_awpB (parsN (C.m + 8)) mixed L194_ok (Nat.le_of_ble_eq_true rfl) ?_
    rw [laid_own]
    have hTot : s.items (d.take i) (l.take i) (s.runs.drop i) v = (List.range 3).flatMap fun (j : Nat) => s.itemsK (d.take i) (l.take i) r (s.runs.drop (i + 1)) v (j : Int) := by
      rw [hdr, St.items_cons]
      simp [List.range_succ]
    rw [hTot] at hg ⊢
    generalize hR : furPost C s i d l (C.run c ((List.range 3).flatMap fun (j : Nat) => s.itemsK (d.take i) (l.take i) r (s.runs.drop (i + 1)) v (j : Int))) = R
    simp [-getElem?_pos, L194, keyP, hne, hlo, hlo0, -List.append_eq, -List.append_assoc]
    refine call_lent (as' := []) (B := []) (fs := []) (cs := []) 21 [] ?_ rfl rfl rfl ?_ ?_ moves_c ?_
    · rfl
    · rfl
    · rfl
    rintro r0 B0 ⟨rfl, e, rfl⟩
    refine ⟨rfl, by simp [outOk], ?_⟩
    simp [-getElem?_pos, hlo, hlo0, -List.append_eq, -List.append_assoc, dropL, renL, outG, Box.ren]
    refine awp_loopS (fun n τ => ∃ (k : Nat) (M : Kn) (d' l' : List Int) (c' : C.S), k ≤ 3 ∧ n = 3 - k ∧ s.good M ∧ Junk s d' l' ∧ d'.take i = d.take i ∧ l'.take i = l.take i ∧ C.live c' ∧
        C.run c ((List.range k).flatMap fun (j : Nat) => s.itemsK (d.take i) (l.take i) r (s.runs.drop (i + 1)) v (j : Int)) = (c', true) ∧ τ = furH C s i v e k M d' l' c')
      ⟨3, _, Sub.mk (by simp) ?_, 0, M, d, l, c, by omega, rfl, hM, hJ, rfl, rfl, hc, rfl, rfl⟩ ?_
    · refine subB_app ?_ (subB_app (subB_sees (sees_skip rfl (sees_skip rfl sees_laid))) ?_)
      · simp
      · simp [hlo, hlo0]
    rintro J hJl n τ ⟨k, M', d', l', c', hk, rfl, hM', hJ', hd', hl', hc', hrun, rfl⟩
    by_cases hlt : k < 3
    · obtain ⟨g, hx, hgv⟩ : ∃ g, movesL[k]? = some (.agg [.fn g [] []]) ∧ Gives Tryz.prog g [s.pv, .int .i64 v] (.int .i64 (s.next v k)) := by
        have : k = 0 ∨ k = 1 ∨ k = 2 := by omega
        rcases this with rfl | rfl | rfl
        · exact ⟨_, rfl, lower_c s v (by omega)⟩
        · exact ⟨_, rfl, higher_c s v (by omega) (by omega)⟩
        · exact ⟨_, rfl, stays_c s v⟩
      have hw : IntKind.i64.wrap ((k : Int) + 1) = ((k + 1 : Nat) : Int) := by rw [wrap64 (by omega)]; omega
      have hw8 : IntKind.u8.wrap (k : Int) = k := by
        have : k = 0 ∨ k = 1 ∨ k = 2 := by omega
        rcases this with rfl | rfl | rfl <;> decide
      have hwi : IntKind.i64.wrap ((i : Int) + 1) = (i : Int) + 1 := wrap64 (by omega)
      have hb3 : k.blt 3 = true := by rw [Nat.blt_eq]; omega
      have hlt' : decide ((k : Int) < 3) = true := by simp; omega
      simp [-getElem?_pos, -decide_eq_true_eq, -decide_eq_false_iff_not, furH, hlt', hb3, hx, hw8, hwi, hlo, hlo0, -List.append_eq, -List.append_assoc]
      refine ltS_seq (furM C s i v e k (s.next v k) M' d' l' c') ?_ ?_
      · have hsub : ∀ {σ : AS}, subB [(.loc 11 0, .cells [.pv (.int .i64 0), .pv (.int .i64 0)]), (.loc 21 0, .arr e 1 movesL), (.loc 7 0, .cells [.pv (.int .i64 i), .pv (.int .i64 v)])] σ → sees σ (C.X c') → subB (ownL s M' C.m d' l') σ → subT (furM C s i v e k (s.next v k) M' d' l' c').tm σ → Sub (furM C s i v e k (s.next v k) M' d' l' c') σ := fun h1 h2 h3 h4 => Sub.mk h4 (subB_app h1 (subB_app (subB_sees h2) h3))
        have hgv1 := hgv
        simp [-getElem?_pos, ltS_alt, ltS_no, -List.append_eq, -List.append_assoc]
        refine ⟨?_, ?_⟩
        · refine call_give (k := 2) rfl rfl hgv rfl ?_
          simp [-getElem?_pos, ltS_alt, ltS_no, -List.append_eq, -List.append_assoc, hlo, hlo0]
          refine hsub ?_ ?_ ?_ ?_
          · simp
          · repeat (first | exact sees_laid | refine sees_skipC (by first | exact lt_own0 | exact lt_own | rfl) ?_)
          · simp [hlo, hlo0]
          · simp [furM]
        · refine call_give (k := 2) rfl rfl hgv rfl ?_
          simp [-getElem?_pos, ltS_alt, ltS_no, -List.append_eq, -List.append_assoc, hlo, hlo0]
          refine hsub ?_ ?_ ?_ ?_
          · simp
          · repeat (first | exact sees_laid | refine sees_skipC (by first | exact lt_own0 | exact lt_own | rfl) ?_)
          · simp [hlo, hlo0]
          · simp [furM]
      · simp [-getElem?_pos, ltS_alt, ltS_no, furM, hlo, hlo0, hw8, -List.append_eq, -List.append_assoc]
        refine call_gives (k := 2) (fs := [s.pv]) (xs := [.agg [.int .i64 i, .int .i64 v], .int .u8 k]) (cs := []) (y := .bool (r.may v k)) rfl ?_ (may_c s i r hr v k) rfl ?_
        · rfl
        have hskip : s.itemsK (d.take i) (l.take i) r (s.runs.drop (i + 1)) v k = [] → ∀ (M2 : Kn), s.good M2 → J (3 - (k + 1)) (furH C s i v e (k + 1) M2 d' l' c') := fun h0 M2 hM2 =>
          hJl _ _ ⟨k + 1, M2, d', l', c', by omega, rfl, hM2, hJ', hd', hl', hc', by
            rw [List.range_succ, List.flatMap_append, List.flatMap_cons, List.flatMap_nil, h0, List.append_nil, List.append_nil]; exact hrun, rfl⟩
        cases hm : r.may v k
        · simp [-getElem?_pos, -decide_eq_true_eq, -decide_eq_false_iff_not, hw, -List.append_eq, -List.append_assoc]
          refine ⟨_, _, (by omega : 3 - (k + 1) < 3 - k), Sub.mk (by simp [furH]) ?_, hskip (by simp [St.itemsK, hm]) M' hM'⟩
          refine subB_app ?_ (subB_app (subB_sees (by repeat (first | exact sees_laid | refine sees_skipC (by first | exact lt_own0 | exact lt_own | rfl) ?_))) ?_)
          · simp
          · simp [hlo, hlo0]
        · simp [-getElem?_pos, -decide_eq_true_eq, -decide_eq_false_iff_not, hw, hlo, hlo0, -List.append_eq, -List.append_assoc]
          have hvn := St.next_in hs hv k
          obtain ⟨i0, i1, i2, i3, i4⟩ := @inG_own5 C.m
          obtain ⟨o0, o1, o2, o3, o4⟩ := @outG_own5 C.m 47
          refine call_lent (as' := [.pv (keyP (i + 1) (s.next v k)), .ptr (.par 0) 0, .ptr (.par 1) 0, .ptr (.par 3) 0, .ptr (.par 4) 0]) (B := canB s M') (fs := []) (cs := [.ptr (.par C.m) 0, .ptr (.par (C.m + 1)) 0, .ptr (.par (C.m + 3)) 0, .ptr (.par (C.m + 4)) 0]) 47 (own5 C.m) ?_ own5_nodup rfl ?_ ?_ ?_ (can_c s hs (by omega) n (i + 1) (s.next v k) M' (by omega) hvn hM') ?_
          · rfl
          · exact lentBx_own5 (by simp [seesO, hlo, hlo0, Nat.add_assoc])
          · obtain ⟨c0, c1, c2, c3, c4⟩ := @con_own5 C.m
            simp [-List.elem_eq_contains, -List.contains_eq_mem, c0, c1, c2, c3, c4]
          · simp [i0, i1, i2, i3, i4, keyP]
          rintro r0 B0 ⟨rfl, M3, hM3, rfl⟩
          refine ⟨rfl, ?_, ?_⟩
          · simp [canB, outOk, own5, canF]
          · cases hcn : s.can (s.runs.drop (i + 1)) (s.next v k)
            · simp [-getElem?_pos, -decide_eq_true_eq, -decide_eq_false_iff_not, hw, hlo, hlo0, -List.append_eq, -List.append_assoc, canB, canF, renL, Box.ren, o0, o1, o2, o3, o4, dropL_own5, laid_dropC, laid_dropC0]
              refine ⟨_, _, (by omega : 3 - (k + 1) < 3 - k), Sub.mk (by simp [furH]) ?_, hskip ?_ M3 hM3⟩
              · refine subB_app ?_ (subB_app (subB_sees (by repeat (first | exact sees_laid | refine sees_skipC (by first | exact lt_own0 | exact lt_own | rfl) ?_))) ?_)
                · simp
                · simp [hlo, hlo0]
              · unfold St.itemsK St.items
                rw [St.paths_can s _ _ hcn]; simp
            · have hi14 : i < 14 := by omega
              have hb14 : i.blt 14 = true := by rw [Nat.blt_eq]; omega
              have hble1 : Nat.ble (3 + i + 1) (hA s d' l').length = true := by rw [hA_len hJ'.d14 hJ'.l14, Nat.ble_eq]; omega
              have hsp1 : splice (hA s d' l') (3 + i) [.pv (.int .u8 k)] = hA s (d'.set i k) l' := splice_u8 (by rw [hJ'.d14]; omega)
              simp [-getElem?_pos, -decide_eq_true_eq, -decide_eq_false_iff_not, hw, hlo, hlo0, -List.append_eq, -List.append_assoc, canB, canF, renL, Box.ren, o0, o1, o2, o3, o4, dropL_own5, laid_dropC, laid_dropC0, hb14, hw8, -splice]
              refine ltS_seq (furN C s i v e k (s.next v k) M3 (d'.set i k) l' c') ?_ ?_
              · have hsub : ∀ {σ : AS}, subB [(.loc 11 0, .cells [.pv (.int .i64 (i + 1)), .pv (.int .i64 (s.next v k))]), (.loc 21 0, .arr e 1 movesL), (.loc 7 0, .cells [.pv (.int .i64 i), .pv (.int .i64 v)])] σ → sees σ (C.X c') → subB (ownL s M3 C.m (d'.set i k) l') σ → subT (furN C s i v e k (s.next v k) M3 (d'.set i k) l' c').tm σ → Sub (furN C s i v e k (s.next v k) M3 (d'.set i k) l' c') σ := fun h1 h2 h3 h4 => Sub.mk h4 (subB_app h1 (subB_app (subB_sees h2) h3))
                simp [-getElem?_pos, ltS_alt, ltS_no, -List.append_eq, -List.append_assoc, hlo, hlo0, hble1, hsp1, -splice]
                repeat' (with_reducible refine And.intro ?_ ?_)
                all_goals
                  refine hsub ?_ ?_ ?_ ?_
                  · simp
                  · repeat (first | exact sees_laid | refine sees_skipC (by first | exact lt_own0 | exact lt_own | rfl) ?_)
                  · simp [hlo, hlo0]
                  · simp [furN]
              · have hJ2 : Junk s (d'.set i k) l' := ⟨by simp [hJ'.d14], hJ'.l14, by rw [List.drop_set_of_lt (by omega)]; exact hJ'.dz, hJ'.lz⟩
                have hJ3 : Junk s (d'.set i k) (l'.set i v) := ⟨hJ2.d14, by simp [hJ'.l14], hJ2.dz, by rw [List.drop_set_of_lt (by omega)]; exact hJ'.lz⟩
                have hble2 : Nat.ble (17 + i + 1) (hA s (d'.set i k) l').length = true := by rw [hA_len hJ2.d14 hJ2.l14, Nat.ble_eq]; omega
                have hsp2 : splice (hA s (d'.set i k) l') (17 + i) [.pv (.int .i64 v)] = hA s (d'.set i k) (l'.set i v) := splice_i64 hJ2.d14 (by rw [hJ2.l14]; omega)
                simp [-getElem?_pos, ltS_alt, ltS_no, -List.append_eq, -List.append_assoc, hlo, hlo0, hble2, hsp2, hb14, -splice, furN]
                have ht1 : (d'.set i (k : Int)).take (i + 1) = d.take i ++ [(k : Int)] := by
                  rw [List.take_add_one, List.take_set_of_le (Nat.le_refl i), List.getElem?_set_self (by rw [hJ'.d14]; omega), hd']; rfl
                have ht2 : (l'.set i v).take (i + 1) = l.take i ++ [v] := by
                  rw [List.take_add_one, List.take_set_of_le (Nat.le_refl i), List.getElem?_set_self (by rw [hJ'.l14]; omega), hl']; rfl
                have hfk : s.itemsK (d.take i) (l.take i) r (s.runs.drop (i + 1)) v (k : Int) = s.items ((d'.set i (k : Int)).take (i + 1)) ((l'.set i v).take (i + 1)) (s.runs.drop (i + 1)) (s.next v k) := by
                  rw [ht1, ht2]; unfold St.itemsK; rw [hm]; rfl
                obtain ⟨rest, hrest⟩ : ∃ rest, ((List.range 3).flatMap fun (j : Nat) => s.itemsK (d.take i) (l.take i) r (s.runs.drop (i + 1)) v (j : Int)) = ((List.range k).flatMap fun (j : Nat) => s.itemsK (d.take i) (l.take i) r (s.runs.drop (i + 1)) v (j : Int)) ++ (s.itemsK (d.take i) (l.take i) r (s.runs.drop (i + 1)) v (k : Int) ++ rest) := by
                  have : k = 0 ∨ k = 1 ∨ k = 2 := by omega
                  rcases this with rfl | rfl | rfl
                  · exact ⟨s.itemsK (d.take i) (l.take i) r (s.runs.drop (i + 1)) v 1 ++ s.itemsK (d.take i) (l.take i) r (s.runs.drop (i + 1)) v 2, by simp [List.range_succ]⟩
                  · exact ⟨s.itemsK (d.take i) (l.take i) r (s.runs.drop (i + 1)) v 2, by simp [List.range_succ]⟩
                  · exact ⟨[], by simp [List.range_succ]⟩
                have hcall := ih (i + 1) (s.next v k) M3 (d'.set i k) (l'.set i v) c' (by omega) hvn hM3 hJ3 hc' (fun x hx => hg x (by rw [hrest, hfk]; simp [hx]))
                rw [← hfk] at hcall
                refine call_pars 64 (C.m + 8) (C.X c' ++ ownF s M3 C.m (d'.set i k) (l'.set i v)) (fs := []) (cs := [.ptr (.par C.m) 0, .ptr (.par (C.m + 5)) 0, .ptr (.par (C.m + 6)) 0, .ptr (.par (C.m + 3)) 0, .ptr (.par (C.m + 4)) 0, .ptr (.par (C.m + 7)) 0]) ?_ (by simp [C.len, ownF]) ?_ closed_own ?_ hcall ?_
                · rfl
                · refine sees_app (C.len _) (by repeat (first | exact sees_laid | refine sees_skipC (by first | exact lt_own0 | exact lt_own | rfl) ?_)) ?_
                  simp [seesO, ownF, hlo, hlo0, Nat.add_assoc]
                · simp [Site.lt]
                rintro r0 B0 ⟨rfl, M4, d4, l4, hM4, hJ4, hd4, hl4, rfl⟩
                refine ⟨_, rfl, by simp [C.len, ownF], closed_own, rfl, ?_⟩
                obtain ⟨c4, b4⟩ : ∃ c4, c4 = C.run c' (s.itemsK (d.take i) (l.take i) r (s.runs.drop (i + 1)) v k) := ⟨_, rfl⟩
                have hd4' : d4.take i = d.take i := by
                  have := congrArg (List.take i) hd4
                  rw [List.take_take, List.take_take, Nat.min_eq_left (by omega), List.take_set_of_le (Nat.le_refl i), hd'] at this
                  exact this
                have hl4' : l4.take i = l.take i := by
                  have := congrArg (List.take i) hl4
                  rw [List.take_take, List.take_take, Nat.min_eq_left (by omega), List.take_set_of_le (Nat.le_refl i), hl'] at this
                  exact this
                have hgk : ∀ x ∈ s.itemsK (d.take i) (l.take i) r (s.runs.drop (i + 1)) v k, C.good x := fun x hx => hg x (by rw [hrest]; simp [hx])
                have hlive := Cons.run_live (C := C) _ c' hc' hgk
                rw [← b4] at hlive ⊢
                obtain ⟨c5, t5⟩ := c4
                rw [laid_own]
                cases t5 with
                | false =>
                  simp [-getElem?_pos, -decide_eq_true_eq, -decide_eq_false_iff_not, hw, hlo, hlo0, -List.append_eq, laid_outC8, lt_ownN, lt_ownN0, -List.filter_filter]
                  refine retB_pars (L := C.X c5 ++ ownF s M4 C.m d4 l4) rfl rfl (by simp [C.len, ownF]) ?_ closed_own ?_
                  · refine sees_app (C.len _) (by repeat (first | exact sees_laid | refine sees_skipC (by first | exact lt_own0 | exact lt_own | rfl) ?_)) ?_
                    simp [seesO, ownF, hlo, hlo0, Nat.add_assoc]
                  · have hx : C.run c ((List.range 3).flatMap fun (j : Nat) => s.itemsK (d.take i) (l.take i) r (s.runs.drop (i + 1)) v (j : Int)) = (c5, false) := by
                      rw [hrest, Cons.run_app, hrun]
                      dsimp only
                      rw [Cons.run_app, ← b4]
                    rw [← hR, hx]
                    exact ⟨rfl, M4, d4, l4, hM4, hJ4, hd4', hl4', rfl⟩
                | true =>
                  simp [-getElem?_pos, -decide_eq_true_eq, -decide_eq_false_iff_not, hw, hlo, hlo0, -List.append_eq, laid_outC8, lt_ownN, lt_ownN0, -List.filter_filter]
                  refine ⟨_, furH C s i v e (k + 1) M4 d4 l4 c5, (by omega : 3 - (k + 1) < 3 - k), Sub.mk (by simp [furH]) ?_, hJl _ _ ⟨k + 1, M4, d4, l4, c5, by omega, rfl, hM4, hJ4, hd4', hl4', hlive rfl, ?_, rfl⟩⟩
                  · refine subB_app ?_ (subB_app (subB_sees (by repeat (first | exact sees_laid | refine sees_skipC (by first | exact lt_own0 | exact lt_own | rfl) ?_))) ?_)
                    · simp
                    · simp [hlo, hlo0]
                  · rw [List.range_succ, List.flatMap_append, List.flatMap_cons, List.flatMap_nil, List.append_nil, Cons.run_app, hrun]
                    exact b4.symm
    · have he : k = 3 := by omega
      subst he
      simp [-getElem?_pos, furH, hlo, hlo0, -List.append_eq, -List.append_assoc]
      refine retB_pars (L := C.X c' ++ ownF s M' C.m d' l') rfl rfl (by simp [C.len, ownF]) ?_ closed_own ?_
      · refine sees_app (C.len _) (by repeat (first | exact sees_laid | refine sees_skipC (by first | exact lt_own0 | exact lt_own | rfl) ?_)) ?_
        simp [seesO, ownF, hlo, hlo0, Nat.add_assoc]
      · rw [← hR, hrun]
        exact ⟨rfl, M', d', l', hM', hJ', hd', hl', rfl⟩
end Go.Proofs.YtaffbiibcfeigaaGreat
/-! Contracts of layer 4's functions (stair): the iterator of the histories. -/
namespace Go.Proofs.YtaffbiibcfeigaaGreat
open Go.RowKit
set_option maxRecDepth 10000
set_option linter.unusedSimpArgs false
def own5B (s : St) (M : Kn) (m : Nat) : List Box := [.cells s.cells, .cells [.mp (.par (m + 2))], .map M.pv, .cells [mayF s], .cells [canF' m]]
theorem closed_own5 {C : Cons Tryz.prog} {c : C.S} {s : St} {M : Kn} : closedB (C.m + 5) (C.X c ++ own5B s M C.m) := by
  refine closed_app (C.cl c) ?_
  intro b hb
  unfold own5B at hb
  simp only [List.mem_cons, List.not_mem_nil, or_false] at hb
  have h0 := C.m0
  rcases hb with rfl | rfl | rfl | rfl | rfl <;> simp [Box.allS, AV.allSL, AV.allS, St.cells, mayF, canF', Site.lt]
def iterPost (C : Cons Tryz.prog) (s : St) (x : C.S) : AV → List (Site × Box) → Prop := fun r B' => r = .pv (.tup []) ∧ ∃ M', s.good M' ∧ B' = laid 0 (C.X x ++ own5B s M' C.m)
attribute [local simp] isLoc_loc isLoc_par isLoc_ret purge_cells purge_map purge_arr purge_loop hA_purge laid_purgeC
attribute [local simp] AV.map AV.mapL noRet Site.isRet Box.allS AV.allS AV.allSL St.cells mayF ownL canF' furF look_loc AS.adds lt_own lt_own0 lt_loc beq_own beq_own'
def zs14 : List Int := List.replicate 14 0
set_option maxHeartbeats 4000000 in
theorem iter_c (C : Cons Tryz.prog) (s : St) (hs : 1 ≤ s.levels ∧ s.levels ≤ 1000) (hst : 0 ≤ s.start ∧ s.start ≤ 1000) (hl : s.runs.length ≤ 14) (M : Kn) (c : C.S) (hM : s.good M) (hc : C.live c) (hg : ∀ x ∈ s.items [] [] s.runs s.start, C.good x) :
    CallsA Tryz.prog 193 [.yld (.par 0), .ptr (.par C.m) 0, .ptr (.par (C.m + 3)) 0, .ptr (.par (C.m + 4)) 0] (laid 0 (C.X c ++ own5B s M C.m)) (iterPost C s (C.run c (s.items [] [] s.runs s.start)).1) := by
  have hlo : ∀ (c : C.S) (k : Nat) (r : List (Site × Box)), (laid 0 (C.X c) ++ r).lookup (.par (C.m + k)) = r.lookup (.par (C.m + k)) := fun c k r => look_own (C.len c)
  have hlo0 : ∀ (c : C.S) (r : List (Site × Box)), (laid 0 (C.X c) ++ r).lookup (.par C.m) = r.lookup (.par C.m) := fun c r => look_own0 (C.len c)
  refine calls_of_awpB (parsN (C.m + 5)) mixed L193_ok (Nat.le_of_ble_eq_true rfl) ?_
  generalize hR : iterPost C s (C.run c (s.items [] [] s.runs s.start)).1 = R
  have hlaid : ∀ (c : C.S) (M : Kn), laid 0 (C.X c ++ own5B s M C.m) = laid 0 (C.X c) ++ [(.par C.m, .cells s.cells), (.par (C.m + 1), .cells [.mp (.par (C.m + 2))]), (.par (C.m + 2), .map M.pv), (.par (C.m + 3), .cells [mayF s]), (.par (C.m + 4), .cells [canF' C.m])] := fun c M => by
    rw [laid_app, C.len]
    simp [own5B, laid]
  rw [hlaid]
  have hJ : Junk s zs14 zs14 := ⟨rfl, rfl, by simp only [zs14, zeros, List.drop_replicate], by simp only [zs14, zeros, List.drop_replicate]⟩
  have hfc := further_c C s hs hl s.runs.length 0 s.start M zs14 zs14 c (by omega) hst hM hJ hc (by simpa using hg)
  simp only [List.take_zero, List.drop_zero] at hfc
  simp [-getElem?_pos, L193, hlo, hlo0, -List.append_eq, -List.append_assoc]
  have hfc' : CallsA Tryz.prog 194 [.pv (keyP 0 s.start), .ptr (.par C.m) 0, .ptr (.par (C.m + 5)) 0, .ptr (.par (C.m + 6)) 0, .ptr (.par (C.m + 3)) 0, .ptr (.par (C.m + 4)) 0, .ptr (.par (C.m + 7)) 0]
      (laid 0 ((C.X c ++ own5B s M C.m) ++ [.cells [.yld (.par 0)], .cells (hA s zs14 zs14), .cells [furF C.m]])) (furPost C s 0 zs14 zs14 (C.run c (s.items [] [] s.runs s.start))) := by
    rw [List.append_assoc]; exact hfc
  refine call_loc 14 (C.m + 5) [.loc 4 0, .loc 5 0, .loc 6 0] (C.X c ++ own5B s M C.m) [.cells [.yld (.par 0)], .cells (hA s zs14 zs14), .cells [.fn 194 [] [.ptr (.par C.m) 0, .ptr (.loc 4 0) 0, .ptr (.loc 5 0) 0, .ptr (.par (C.m + 3)) 0, .ptr (.par (C.m + 4)) 0, .ptr (.loc 6 0) 0]]]
    (fs := []) (cs := [.ptr (.par C.m) 0, .ptr (.loc 4 0) 0, .ptr (.loc 5 0) 0, .ptr (.par (C.m + 3)) 0, .ptr (.par (C.m + 4)) 0, .ptr (.loc 6 0) 0]) ?_ (by simp [C.len, own5B]) ?_ closed_own5 rfl rfl rfl ?_ ?_ ?_ ?_ hfc' ?_
  · rfl
  · refine sees_app (C.len _) (by repeat (first | exact sees_laid | refine sees_skipC (by first | exact lt_own0 | exact lt_own | rfl) ?_)) ?_
    simp [seesO, own5B, hlo, hlo0, Nat.add_assoc]
  · simp [seesL, lt_ownN, lt_ownN0, hA_closed]
    exact ⟨by simp [Site.lt], rfl⟩
  · simp [inG_lt, inG_loc, lt_ownN, lt_ownN0, Box.ren, List.findIdx?_cons, Nat.add_assoc]
    exact ⟨inG_lt (by simp [Site.lt]), AV.mapL_fix (q := fun _ => false) (fun s h => by cases h) _ hA_closed⟩
  · simp [lt_ownN, lt_ownN0]
  · simp [inG_lt, inG_loc, lt_ownN, lt_ownN0, List.findIdx?_cons, Nat.add_assoc, keyP]
  · rintro r B' ⟨rfl, M', d', l', hM', hJ', _, _, rfl⟩
    refine ⟨C.X (C.run c (s.items [] [] s.runs s.start)).1 ++ own5B s M' C.m, [.cells [.yld (.par 0)], .cells (hA s d' l'), .cells [furF C.m]], by rw [List.append_assoc]; rfl, by simp [C.len, own5B], closed_own5, rfl, ?_, rfl, ?_⟩
    · intro b hb
      simp only [List.mem_cons, List.not_mem_nil, or_false] at hb
      rcases hb with rfl | rfl | rfl <;> simp [Box.allS, AV.allSL, AV.allS, furF, Site.lt, hA_closed] <;> omega
    · rw [hlaid]
      simp [-getElem?_pos, hlo, hlo0, -List.append_eq]
      refine retB_pars (L := C.X (C.run c (s.items [] [] s.runs s.start)).1 ++ own5B s M' C.m) rfl rfl (by simp [C.len, own5B]) ?_ closed_own5 ?_
      · refine sees_app (C.len _) (by repeat (first | exact sees_laid | refine sees_skipC (by first | exact lt_own0 | exact lt_own | rfl) ?_)) ?_
        simp [seesO, own5B, hlo, hlo0, Nat.add_assoc]
      · rw [← hR]
        exact ⟨rfl, M', hM', rfl⟩
end Go.Proofs.YtaffbiibcfeigaaGreat
/-! Contracts of layer 4's functions (stair): histories; possible, Histories. -/
namespace Go.Proofs.YtaffbiibcfeigaaGreat
open Go.RowKit
attribute [local simp] Box.purge Site.isLoc
set_option maxRecDepth 10000
set_option linter.unusedSimpArgs false
def hisF : AV := .fn 193 [] [.ptr (.ret 0) 0, .ptr (.ret 3) 0, .ptr (.ret 4) 0]
def hisB (s : St) : List (Site × Box) := [(.ret 0, .cells s.cells), (.ret 1, .cells [.mp (.ret 2)]), (.ret 2, .map []), (.ret 3, .cells [mayF s]), (.ret 4, .cells [.fn 192 [] [.ptr (.ret 0) 0, .ptr (.ret 1) 0, .ptr (.ret 3) 0, .ptr (.ret 4) 0]])]
attribute [local simp] AS.exp expG Box.ren AV.map AV.mapL outsOk noRet Site.isRet Box.allS AV.allS AV.allSL retB St.cells mayF dropL AS.adds renL outG outOk lentBx inG fnOf lookA List.findIdx?_cons
theorem histories_c (s : St) : CallsA Tryz.prog 133 [.pv s.pv] [] (fun r B => r = hisF ∧ B = hisB s) := by
  refine calls_of_awpB [.loc 1 0, .loc 4 0, .loc 8 0, .loc 3 0, .loc 5 0] mixed L133_ok (Nat.le_of_ble_eq_true rfl) ?_
  simp [-getElem?_pos, L133, St.pv]
  exact ⟨rfl, rfl⟩
end Go.Proofs.YtaffbiibcfeigaaGreat
/-! Contracts of layer 4's functions (stair): possible. -/
namespace Go.Proofs.YtaffbiibcfeigaaGreat
open Go.RowKit
set_option maxRecDepth 10000
set_option linter.unusedSimpArgs false
theorem cok45 : COk Tryz.prog (tyOf tys) L132.code := litF_ok L132_ok L132_tab
noncomputable def posX (stopped : Bool) : List Box := [.loop (rcode Tryz.prog 132 0) [11] 12 [(2, .ptr (.par 1) 0)] (match stopped with
  | true => some .ret
  | false => none), .cells [.pv (.int .i64 0)]]
attribute [local simp] AS.exp expG Box.ren AV.map AV.mapL outsOk noRet Site.isRet Box.allS AV.allS AV.allSL retB St.cells mayF dropL AS.adds renL outG outOk lentBx inG fnOf lookA List.findIdx?_cons
section
attribute [local simp] Box.purge Site.isLoc
noncomputable def posC : Cons Tryz.prog where
  m := 2
  S := Bool
  X := posX
  step _ _ := (true, false)
  good _ := True
  live c := c = false
  m0 := by omega
  len _ := rfl
  cl c := by
    intro b hb
    simp [posX] at hb
    rcases hb with rfl | rfl <;> rfl
  goes _ _ _ _ h := by cases h
  yields c x hc _ := by
    subst hc
    have hcok : COk Tryz.prog (tyOf tys) (.rng 12 (.t 10) (rcode Tryz.prog 132 0) Y132_0a Y132_0b [11]) := cok45.2.2.1.2
    refine yields_of_awpS mixed hcok.1 hcok.2.1 rfl rfl (by simp) rfl ?_
    simp [-getElem?_pos, Y132_0a, Y132_0b, posX, laid, putL]
    exact ⟨[], [.par 1], rfl, rfl, by simp [frzL], rfl, rfl⟩
end
theorem goodNil (s : St) : s.good [] := fun e he => by cases he
/-- Is a staircase possible? -/
def St.possible (s : St) : Int := if s.check = 0 then (if s.items [] [] s.runs s.start = [] then 9 else 0) else s.check
attribute [local simp] isLoc_loc isLoc_par isLoc_ret purge_cells purge_map purge_arr purge_loop
theorem St.check0 {s : St} (h : s.check = 0) : (1 ≤ s.levels ∧ s.levels ≤ 8) ∧ (0 ≤ s.start ∧ s.start ≤ s.levels - 1) ∧ s.runs.length ≤ 14 ∧ s.runs.all s.isRun = true := by
  unfold St.check at h
  split at h
  · cases h
  · rename_i h1
    split at h
    · rename_i h2
      have h3 := h2.1
      simp [St.placed] at h3
      exact ⟨h3.1, h3.2, by omega, h2.2⟩
    · cases h
set_option maxHeartbeats 4000000 in
theorem possible_c (s : St) (hl : s.runs.length ≤ 1000000) : Gives Tryz.prog 132 [s.pv] (.int .i64 s.possible) := by
  refine calls_of_awpS mixed L132_ok (Nat.le_of_ble_eq_true rfl) ?_
  simp [-getElem?_pos, L132, St.pv]
  refine call_gives (k := 0) rfl rfl (check_c s hl) rfl ?_
  cases hc : decide (s.check = 0)
  · have hc' : ¬ s.check = 0 := by simpa using hc
    simp [-getElem?_pos, hc', St.possible]
  · have hc' : s.check = 0 := by simpa using hc
    simp [-getElem?_pos, hc']
    refine call_lent (as' := [.pv s.pv]) (B := []) (fs := []) (cs := []) 10 [] ?_ rfl rfl rfl ?_ ?_ (histories_c s) ?_
    · rfl
    · rfl
    · rfl
    rintro r0 B0 ⟨rfl, rfl⟩
    refine ⟨rfl, by simp [hisB], ?_⟩
    simp [-getElem?_pos, hisF, hisB]
    obtain ⟨q1, q2, q3, _⟩ := St.check0 hc'
    have hit := iter_c posC s (by omega) (by omega) q3 [] false (goodNil s) rfl (fun x _ => trivial)
    refine rng_lent [.loc 12 0, .loc 2 0, .loc 10 0, .loc 10 1, .loc 10 2, .loc 10 3, .loc 10 4] [(2, .ptr (.loc 2 0) 0)] (gf := 193) (fs := []) (cs := [.ptr (.loc 10 0) 0, .ptr (.loc 10 3) 0, .ptr (.loc 10 4) 0]) ?_ ?_ rfl rfl ?_ ?_ ?_ hit ?_
    · rfl
    · simp
    · rfl
    · rfl
    · rfl
    rintro r B' ⟨rfl, M', hM', rfl⟩
    refine ⟨rfl, ?_, ?_⟩
    · have h7 := closed_own5 (C := posC) (c := (posC.run false (s.items [] [] s.runs s.start)).1) (s := s) (M := M')
      exact fun p hp => laid_ok (n := 7) (L := posC.X (posC.run false (s.items [] [] s.runs s.start)).1 ++ own5B s M' posC.m) (by simp [posC, posX, own5B]) h7 p hp
    · cases hp : s.items [] [] s.runs s.start with
      | nil =>
        refine ⟨_, _, _, _, _, rfl, ?_⟩
        simp [-getElem?_pos, posC, posX, Cons.run, own5B, laid, jumpQ, hp, hc', St.possible]
      | cons x r =>
        refine ⟨_, _, _, _, _, rfl, ?_⟩
        simp [-getElem?_pos, posC, posX, Cons.run, own5B, laid, jumpQ, hp, hc', St.possible]
end Go.Proofs.YtaffbiibcfeigaaGreat
/-! Contracts of layer 4's functions (stair): Histories. -/
namespace Go.Proofs.YtaffbiibcfeigaaGreat
open Go.RowKit
attribute [local simp] Box.purge Site.isLoc
set_option maxRecDepth 10000
set_option linter.unusedSimpArgs false
attribute [local simp] AS.exp expG Box.ren AV.map AV.mapL outsOk noRet Site.isRet Box.allS AV.allS AV.allSL retB St.cells mayF dropL AS.adds renL outG outOk lentBx inG fnOf lookA List.findIdx?_cons
theorem St.possible0 {s : St} (h : s.possible = 0) : s.check = 0 := by
  unfold St.possible at h
  split at h
  · assumption
  · exact h
end Go.Proofs.YtaffbiibcfeigaaGreat
/-! Contracts of layer 4's functions (stair): the middle of a history. -/
namespace Go.Proofs.YtaffbiibcfeigaaGreat
open Go.RowKit
attribute [local simp] Box.purge Site.isLoc
set_option maxRecDepth 10000
set_option linter.unusedSimpArgs false
structure Mid where
  a0 : Int
  a1 : Int
  a2 : Int
  b0 : Int
  b1 : Int
  b2 : Int
def Mid.add (M : Mid) (d l : Int) : Mid := if d = 0 then { M with a0 := M.a0 + 1, b0 := M.b0 + (2 * l + -1) } else if d = 1 then { M with a1 := M.a1 + 1, b1 := M.b1 + (2 * l + 1) } else { M with a2 := M.a2 + 1, b2 := M.b2 + (2 * l + -1) }
def Mid.z : Mid := ⟨0, 0, 0, 0, 0, 0⟩
def Mid.res (M : Mid) : PV :=
  let by' := if M.a1 < M.a0 then M.a1 else M.a0
  let n := 500 * (if M.a1 < M.a0 then M.b1 else M.b0)
  if by' = 0 then .tup [.int .i64 0, .bool false] else if n < 0 then .tup [.int .i64 (-(Int.tdiv (by' - 1 - n) by')), .bool true] else .tup [.int .i64 (Int.tdiv n by'), .bool true]
def Mid.cells (M : Mid) (m0 : Nat) : List (Site × Box) := [(.loc 4 0, .cells [.pv (.int .i64 M.a0), .pv (.int .i64 M.a1), .pv (.int .i64 M.a2)]), (.loc 5 0, .cells [.pv (.int .i64 M.b0), .pv (.int .i64 M.b1), .pv (.int .i64 M.b2)])]
theorem hA_d {s : St} {d l : List Int} {k : Nat} {x : Int} (h : d[k]? = some x) : (hA s d l)[3 + k]? = some (.pv (.int .u8 x)) := by
  have hk := (List.getElem?_eq_some_iff.1 h).1
  unfold hA
  rw [List.getElem?_append_right (by simp), List.getElem?_map]
  simp only [List.length_cons, List.length_nil, Nat.zero_add, Nat.add_sub_cancel_left]
  rw [List.getElem?_append_left (by simpa using hk), List.getElem?_map, h]; rfl
theorem hA_l {s : St} {d l : List Int} {k : Nat} {y : Int} (hd : d.length = 14) (h : l[k]? = some y) : (hA s d l)[17 + k]? = some (.pv (.int .i64 y)) := by
  unfold hA
  rw [List.getElem?_append_right (by simp; omega), List.getElem?_map]
  simp only [List.length_cons, List.length_nil, Nat.zero_add]
  rw [List.getElem?_append_right (by simp; omega), List.length_map, hd, show 17 + k - 3 - 14 = k by omega, List.getElem?_map, h]; rfl
end Go.Proofs.YtaffbiibcfeigaaGreat
/-! Contracts of layer 4's functions (stair): Middle. -/
namespace Go.Proofs.YtaffbiibcfeigaaGreat
open Go.RowKit
attribute [local simp] Box.purge Site.isLoc
set_option maxRecDepth 10000
set_option linter.unusedSimpArgs false
def unI : PV → Int
  | .int _ n => n
  | _ => 0
def dsOf (x : PV) : List Int := ((x.cells.drop 3).take 14).map unI
def lsOf (x : PV) : List Int := (x.cells.drop 17).map unI
theorem dsOf_hV {s : St} {d l : List Int} (hd : d.length = 14) : dsOf (hV s d l) = d := by
  unfold dsOf hV
  simp only [PV.cells, List.cons_append, List.nil_append, List.drop_succ_cons, List.drop_zero]
  rw [show (14 : Nat) = (d.map u8V).length by simp [hd], List.take_left, List.map_map]
  exact List.map_id' d
theorem lsOf_hV {s : St} {d l : List Int} (hd : d.length = 14) : lsOf (hV s d l) = l := by
  unfold lsOf hV
  simp only [PV.cells, List.cons_append, List.nil_append, List.drop_succ_cons]
  rw [show (14 : Nat) = (d.map u8V).length by simp [hd], List.drop_left, List.map_map]
  exact List.map_id' l
structure St.item (s : St) (x : PV) : Prop where
  ex : ∃ d l, x = hV s d l ∧ Junk s d l ∧ (∀ y ∈ d.take s.runs.length, 0 ≤ y ∧ y ≤ 2) ∧ ∀ y ∈ l, 0 ≤ y ∧ y ≤ 1000
structure MidS where
  lo : Int
  hi : Int
  found : Bool
def MidS.step (c : MidS) : Option Int → MidS
  | none => c
  | some n => match c.found with
    | false => ⟨n, n, true⟩
    | true => ⟨min c.lo n, max c.hi n, true⟩
attribute [local simp] AS.exp expG Box.ren AV.map AV.mapL outsOk noRet Site.isRet Box.allS AV.allS AV.allSL retB St.cells mayF dropL AS.adds renL outG outOk lentBx inG fnOf lookA List.findIdx?_cons
end Go.Proofs.YtaffbiibcfeigaaGreat
/-! Contracts of layer 4's functions (stair): what the histories are; Middle. -/
namespace Go.Proofs.YtaffbiibcfeigaaGreat
open Go.RowKit
set_option maxRecDepth 10000
set_option linter.unusedSimpArgs false
theorem St.paths_ok {s : St} (hs : 1 ≤ s.levels ∧ s.levels ≤ 1000) : ∀ (rest : List Rn) (v : Int) (p : List Int × List Int), 0 ≤ v ∧ v ≤ 1000 → p ∈ s.paths rest v →
    p.1.length = rest.length ∧ p.2.length = rest.length ∧ (∀ y ∈ p.1, 0 ≤ y ∧ y ≤ 2) ∧ ∀ y ∈ p.2, 0 ≤ y ∧ y ≤ 1000
  | [], v, p, _, h => by
    simp [St.paths] at h
    subst h
    exact ⟨rfl, rfl, fun y hy => by simp at hy, fun y hy => by simp at hy⟩
  | r :: rest, v, p, hv, h => by
    unfold St.paths at h
    obtain ⟨k, hk, h⟩ := List.mem_flatMap.1 h
    split at h
    · obtain ⟨q, hq, rfl⟩ := List.mem_map.1 h
      obtain ⟨h1, h2, h3, h4⟩ := St.paths_ok hs rest (s.next v k) q (St.next_in hs hv k) hq
      have hk' : 0 ≤ k ∧ k ≤ 2 := by simp at hk; omega
      refine ⟨by simp [h1], by simp [h2], fun y hy => ?_, fun y hy => ?_⟩
      · rcases List.mem_cons.1 hy with rfl | hy
        · exact hk'
        · exact h3 y hy
      · rcases List.mem_cons.1 hy with rfl | hy
        · exact hv
        · exact h4 y hy
    · cases h
/-- All histories: results, levels. -/
def St.all (s : St) : List (List Int × List Int) := s.paths s.runs s.start
def St.pad (s : St) (l : List Int) : List Int := l ++ zeros (14 - s.runs.length)
theorem St.items_all (s : St) : s.items [] [] s.runs s.start = s.all.map fun p => hV s (s.pad p.1) (s.pad p.2) := by
  simp [St.items, St.all, St.pad]
theorem St.pad_junk {s : St} (hl : s.runs.length ≤ 14) {a b : List Int} (ha : a.length = s.runs.length) (hb : b.length = s.runs.length) : Junk s (s.pad a) (s.pad b) := by
  refine ⟨?_, ?_, ?_, ?_⟩
  · simp [St.pad, zeros, ha]; omega
  · simp [St.pad, zeros, hb]; omega
  · rw [St.pad, ← ha, List.drop_left]
  · rw [St.pad, ← hb, List.drop_left]
theorem St.pad_take {s : St} {a : List Int} (ha : a.length = s.runs.length) : (s.pad a).take s.runs.length = a := by
  rw [St.pad, ← ha, List.take_left]
theorem St.pad_mem {s : St} {a : List Int} (h : ∀ y ∈ a, 0 ≤ y ∧ y ≤ 1000) : ∀ y ∈ s.pad a, 0 ≤ y ∧ y ≤ 1000 := fun y hy => by
  rcases List.mem_append.1 hy with hy | hy
  · exact h y hy
  · rw [List.eq_of_mem_replicate hy]; omega
theorem St.all_ok {s : St} (h : s.check = 0) {p : List Int × List Int} (hp : p ∈ s.all) : p.1.length = s.runs.length ∧ p.2.length = s.runs.length ∧ (∀ y ∈ p.1, 0 ≤ y ∧ y ≤ 2) ∧ ∀ y ∈ p.2, 0 ≤ y ∧ y ≤ 1000 := by
  obtain ⟨q1, q2, q3, _⟩ := St.check0 h
  exact St.paths_ok (by omega) s.runs s.start p (by omega) hp
theorem St.item_of {s : St} (h : s.check = 0) {p : List Int × List Int} (hp : p ∈ s.all) : s.item (hV s (s.pad p.1) (s.pad p.2)) := by
  obtain ⟨h1, h2, h3, h4⟩ := St.all_ok h hp
  obtain ⟨_, _, q3, _⟩ := St.check0 h
  exact ⟨_, _, rfl, St.pad_junk q3 h1 h2, by rw [St.pad_take h1]; exact h3, St.pad_mem h4⟩
def rangeP (r : Int × Int) : PV := .agg [.int .i64 r.1, .int .i64 r.2]
attribute [local simp] AS.exp expG Box.ren AV.map AV.mapL outsOk noRet Site.isRet Box.allS AV.allS AV.allSL retB St.cells mayF dropL AS.adds renL outG outOk lentBx inG fnOf lookA List.findIdx?_cons
attribute [local simp] isLoc_loc isLoc_par isLoc_ret purge_cells purge_map purge_arr purge_loop
end Go.Proofs.YtaffbiibcfeigaaGreat
