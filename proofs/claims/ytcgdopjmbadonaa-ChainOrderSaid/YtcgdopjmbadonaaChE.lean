/- Contracts of layer 2 (chain): two chains compared. (Several texts in one.) -/
import Derived.Test.YtcgdopjmbadonaaChD
import Derived.Test.YtcgdopjmbadonaaChA
import Derived.Test.YtcgdopjmbadonaaChC
set_option linter.unusedVariables false
set_option linter.unusedSimpArgs false
/-! Contracts of layer 2 (chain): two chains compared. -/
namespace Go.Proofs.Ytcgdopjmbadonaa
open Go.RowKit
attribute [local simp] Box.purge Site.isLoc
set_option maxRecDepth 10000
set_option linter.unusedSimpArgs false
theorem nan_c (x : Int) : Gives Try.prog 114 [.int .i64 x] (.bool false) := by
  refine calls_of_awpS mixed L114_ok (Nat.le_of_ble_eq_true rfl) ?_
  simp [-getElem?_pos, L114]
def cmpI (x y : Int) : Int := if x < y then -1 else if y < x then 1 else 0
theorem cmp_c (x y : Int) : Gives Try.prog 104 [.int .i64 x, .int .i64 y] (.int .i64 (cmpI x y)) := by
  refine calls_of_awpS mixed L104_ok (Nat.le_of_ble_eq_true rfl) ?_
  simp [-getElem?_pos, L104]
  refine call_gives (k := 0) (fs := []) (xs := [.int .i64 x]) (cs := []) rfl rfl (nan_c x) rfl ?_
  simp [-getElem?_pos]
  refine call_gives (k := 0) (fs := []) (xs := [.int .i64 y]) (cs := []) rfl rfl (nan_c y) rfl ?_
  simp [-getElem?_pos]
  unfold cmpI
  by_cases h1 : x < y
  · simp [-getElem?_pos, h1]
  · by_cases h2 : y < x
    · simp [-getElem?_pos, h1, h2]
    · simp [-getElem?_pos, h1, h2]
/-- Lists, place by place. -/
def cmpL : List Int → List Int → Int
  | [], [] => 0
  | [], _ :: _ => -1
  | _ :: _, [] => 1
  | a :: r, b :: t => if cmpI a b = 0 then cmpL r t else cmpI a b
theorem cmpL_drop {a b : List Int} {k : Nat} {x y : Int} (h1 : a[k]? = some x) (h2 : b[k]? = some y) : cmpL (a.drop k) (b.drop k) = if cmpI x y = 0 then cmpL (a.drop (k + 1)) (b.drop (k + 1)) else cmpI x y := by
  obtain ⟨q1, e1⟩ := List.getElem?_eq_some_iff.1 h1
  obtain ⟨q2, e2⟩ := List.getElem?_eq_some_iff.1 h2
  rw [List.drop_eq_getElem_cons q1, List.drop_eq_getElem_cons q2, e1, e2]; rfl
theorem compare_c (a b : List Int) (ha : a.length ≤ 2000) (hb : b.length ≤ 2000) : Gives Try.prog 92 [.lst false 1 (a.map intP), .lst false 1 (b.map intP)] (.int .i64 (cmpL a b)) := by
  refine calls_of_awpS mixed L92_ok (Nat.le_of_ble_eq_true rfl) ?_
  simp [-getElem?_pos, L92]
  refine awp_loopS (fun n τ => ∃ k : Nat, k ≤ a.length ∧ k ≤ b.length ∧ n = a.length - k ∧ cmpL a b = cmpL (a.drop k) (b.drop k) ∧ τ = ⟨[(0, .pv (.lst false 1 (a.map intP))), (1, .pv (.lst false 1 (b.map intP))), (9, .pv (.lst false 1 (a.map intP))), (10, .pv (.int .i64 a.length)), (11, .pv (.int .i64 k))], []⟩)
    ⟨a.length, ⟨[(0, .pv (.lst false 1 (a.map intP))), (1, .pv (.lst false 1 (b.map intP))), (9, .pv (.lst false 1 (a.map intP))), (10, .pv (.int .i64 a.length)), (11, .pv (.int .i64 0))], []⟩, Sub.mk (by simp) (by simp), 0, Nat.zero_le _, Nat.zero_le _, rfl, rfl, rfl⟩ ?_
  rintro J hJ n τ ⟨k, hk, hk2, rfl, hinv, rfl⟩
  rw [hinv]
  by_cases hlt : k < a.length
  · obtain ⟨x, hx⟩ : ∃ x, a[k]? = some x := ⟨a[k], List.getElem?_eq_getElem hlt⟩
    have hgx : (a.map intP)[k]? = some (.int .i64 x) := by rw [List.getElem?_map, hx]; rfl
    have hw := wrapK (k := k) (by omega)
    have hmeas : a.length - (k + 1) < a.length - k := by omega
    have hlt' : decide ((k : Int) < (a.length : Int)) = true := by simp; omega
    by_cases hlt2 : k < b.length
    · obtain ⟨y, hy⟩ : ∃ y, b[k]? = some y := ⟨b[k], List.getElem?_eq_getElem hlt2⟩
      have hgy : (b.map intP)[k]? = some (.int .i64 y) := by rw [List.getElem?_map, hy]; rfl
      have hge : ¬ b.length ≤ k := by omega
      have hdr := cmpL_drop hx hy
      have hcc := cmp_c x y
      have hround := fun h : cmpI x y = 0 => hJ _ _ ⟨k + 1, hlt, hlt2, rfl, by rw [hinv, hdr, if_pos h], rfl⟩
      rw [hdr]
      generalize cmpI x y = c at *
      simp [-getElem?_pos, -List.getElem?_map, -decide_eq_true_eq, -decide_eq_false_iff_not, hlt, hlt', hgx, hge, hlt2, hgy]
      refine call_gives (k := 0) (fs := []) (xs := [.int .i64 x, .int .i64 y]) (cs := []) rfl rfl hcc rfl ?_
      cases hc : decide (c = 0)
      · have hc' : ¬ c = 0 := by simpa using hc
        simp [-getElem?_pos, -List.getElem?_map, hc']
      · have hc' : c = 0 := by simpa using hc
        have hround := hround hc'
        simp [-getElem?_pos, -List.getElem?_map, hc', hw]
        exact ⟨_, _, hmeas, Sub.mk (by simp) (by simp), hround⟩
    · have hkb : k = b.length := by omega
      have hge : b.length ≤ k := by omega
      have hv : cmpL (a.drop k) (b.drop k) = 1 := by
        rw [hkb, List.drop_length, List.drop_eq_getElem_cons (by omega)]; rfl
      rw [hv]
      simp [-getElem?_pos, -List.getElem?_map, -decide_eq_true_eq, -decide_eq_false_iff_not, hlt, hlt', hgx, hge]
  · have he : k = a.length := by omega
    subst he
    clear hJ
    rw [List.drop_length]
    by_cases hl : a.length < b.length
    · have hd : decide ((a.length : Int) < (b.length : Int)) = true := by simp; omega
      have hv : cmpL [] (b.drop a.length) = -1 := by rw [List.drop_eq_getElem_cons hl]; rfl
      rw [hv]
      simp [-getElem?_pos, -List.getElem?_map, -decide_eq_true_eq, -decide_eq_false_iff_not, hd, hl]
    · have hd : decide ((a.length : Int) < (b.length : Int)) = false := by simp; omega
      have hv : cmpL [] (b.drop a.length) = 0 := by rw [List.drop_eq_nil_of_le (by omega)]; rfl
      rw [hv]
      simp [-getElem?_pos, -List.getElem?_map, -decide_eq_true_eq, -decide_eq_false_iff_not, hd, hl]
end Go.Proofs.Ytcgdopjmbadonaa
/-! Contracts of layer 2 (chain): before. -/
namespace Go.Proofs.Ytcgdopjmbadonaa
open Go.RowKit
attribute [local simp] Box.purge Site.isLoc
set_option maxRecDepth 10000
set_option linter.unusedSimpArgs false
def befV (a b : List Int) : Int := if (a.length : Int) - b.length = 0 then cmpL a b else (a.length : Int) - b.length
theorem cmpL_lt : ∀ a b : List Int, a.length = b.length → decide (cmpL a b < 0) = lexB a b
  | [], [], _ => rfl
  | [], _ :: _, h => by cases h
  | _ :: _, [], h => by cases h
  | a :: r, b :: t, h => by
    have ih := cmpL_lt r t (by simpa using h)
    show decide ((if cmpI a b = 0 then cmpL r t else cmpI a b) < 0) = (decide (a < b) || (decide (a = b) && lexB r t))
    unfold cmpI
    by_cases h1 : a < b
    · rw [if_pos h1]; simp [h1]
    · rw [if_neg h1]
      by_cases h2 : b < a
      · rw [if_pos h2]
        have : ¬ a = b := by omega
        simp [h1, this]
      · have e : a = b := by omega
        rw [if_neg h2, if_pos rfl, ih]
        simp [e]
theorem befV_lt (a b : List Int) : decide (befV a b < 0) = ltC a b := by
  unfold befV ltC
  by_cases h : a.length = b.length
  · rw [if_pos (by omega), cmpL_lt a b h]
    simp [h]
  · rw [if_neg (by omega), Bool.eq_iff_iff]
    simp [h]
    omega
theorem or_c (x y : Int) : Gives Try.prog 91 [.lst false 1 [.int .i64 x, .int .i64 y]] (.int .i64 (if x = 0 then y else x)) := by
  refine calls_of_awpS mixed L91_ok (Nat.le_of_ble_eq_true rfl) ?_
  simp [-getElem?_pos, L91]
  have S : Nat → AS := fun k => ⟨[(3, .pv (.int .i64 0)), (6, .pv (.lst false 1 [.int .i64 x, .int .i64 y])), (7, .pv (.int .i64 2)), (8, .pv (.int .i64 k))], []⟩
  refine awp_loopS (fun n τ => (n = 2 ∧ τ = ⟨[(3, .pv (.int .i64 0)), (6, .pv (.lst false 1 [.int .i64 x, .int .i64 y])), (7, .pv (.int .i64 2)), (8, .pv (.int .i64 0))], []⟩) ∨ (n = 1 ∧ x = 0 ∧ τ = ⟨[(3, .pv (.int .i64 0)), (6, .pv (.lst false 1 [.int .i64 x, .int .i64 y])), (7, .pv (.int .i64 2)), (8, .pv (.int .i64 1))], []⟩) ∨ (n = 0 ∧ x = 0 ∧ y = 0 ∧ τ = ⟨[(3, .pv (.int .i64 0)), (6, .pv (.lst false 1 [.int .i64 x, .int .i64 y])), (7, .pv (.int .i64 2)), (8, .pv (.int .i64 2))], []⟩)) ⟨2, _, Sub.mk (by simp) (by simp), .inl ⟨rfl, rfl⟩⟩ ?_
  have w1 : IntKind.i64.wrap 1 = 1 := rfl
  have w2 : IntKind.i64.wrap 2 = 2 := rfl
  rintro J hJ n τ (⟨rfl, rfl⟩ | ⟨rfl, hx, rfl⟩ | ⟨rfl, hx, hy, rfl⟩)
  · by_cases h : x = 0
    · have hround := hJ _ _ (.inr (.inl ⟨rfl, h, rfl⟩))
      clear hJ
      subst h
      simp [-getElem?_pos, w1]
      exact ⟨_, _, (by omega : 1 < 2), Sub.mk (by simp) (by simp), hround⟩
    · simp [-getElem?_pos, h]
  · subst hx
    by_cases h : y = 0
    · have hround := hJ _ _ (.inr (.inr ⟨rfl, rfl, h, rfl⟩))
      clear hJ
      subst h
      simp [-getElem?_pos, w2]
      exact ⟨_, _, (by omega : 0 < 1), Sub.mk (by simp) (by simp), hround⟩
    · simp [-getElem?_pos, h]
  · subst hx hy
    simp [-getElem?_pos]
theorem before_c (a b : List Int) (ha : a.length ≤ 2000) (hb : b.length ≤ 2000) : Gives Try.prog 67 [.lst false 1 (a.map intP), .lst false 1 (b.map intP)] (.int .i64 (befV a b)) := by
  have hc := compare_c a b ha hb
  have hw : IntKind.i64.wrap ((a.length : Int) - (b.length : Int)) = (a.length : Int) - b.length := wrap64 (by omega)
  have ho := or_c ((a.length : Int) - b.length) (cmpL a b)
  refine calls_of_awpS mixed L67_ok (Nat.le_of_ble_eq_true rfl) ?_
  simp [-getElem?_pos, L67, hw]
  refine call_gives (k := 0) (fs := []) (xs := [.lst false 1 (a.map intP), .lst false 1 (b.map intP)]) (cs := []) rfl rfl hc rfl ?_
  simp [-getElem?_pos]
  refine call_gives (k := 1) (fs := []) (xs := [.lst false 1 [.int .i64 ((a.length : Int) - b.length), .int .i64 (cmpL a b)]]) (cs := []) rfl rfl ho rfl ?_
  simp [-getElem?_pos, befV]
end Go.Proofs.Ytcgdopjmbadonaa
/-! Contracts of layer 2 (chain): the rounds of Best. -/
namespace Go.Proofs.Ytcgdopjmbadonaa
open Go.RowKit
set_option maxRecDepth 10000
set_option linter.unusedSimpArgs false
attribute [local irreducible] Bk.held Bk.nums Bk.span Bk.chains
theorem chU_len {b : Bk} {held : List Int} : ∀ (k : Nat) (n : Int), ∀ l ∈ b.chU held k n, l.length ≤ k
  | 0, n, l, h => by cases h
  | k + 1, n, l, h => by
    rw [chU_succ] at h
    split at h
    · split at h
      · simp at h; subst h; simp
      · obtain ⟨m, _, hm⟩ := List.mem_flatMap.1 h
        obtain ⟨l', hl', rfl⟩ := List.mem_map.1 hm
        have := chU_len k m l' hl'
        rw [List.length_append]; simp; exact this
    · have := chU_len k n l h; omega
/-- The best chain that ends with a number. -/
def Bk.endL (b : Bk) (n : Int) : List Int := (b.endC (b.held []) n).getD []
theorem endL_len {b : Bk} {n : Int} : (b.endL n).length ≤ 1000 := by
  unfold Bk.endL
  cases h : b.endC (b.held []) n with
  | none => simp
  | some l =>
    unfold Bk.endC at h
    have := (minC_some h).1
    unfold Bk.chains at this
    exact chU_len 1000 n l this
theorem endL_some {b : Bk} (hb : b.ok) {n : Int} (h : (b.held []).contains n = true) : b.endC (b.held []) n = some (b.endL n) ∧ b.endL n ≠ [] := by
  have hx := List.contains_iff_mem.1 h
  have hn := nums_bd hb n (heldIn hb hx)
  obtain ⟨nn, rfl⟩ : ∃ nn : Nat, n = nn := ⟨n.toNat, by omega⟩
  unfold Bk.endL
  cases he : b.endC (b.held []) (nn : Int) with
  | none =>
    unfold Bk.endC at he
    rw [minC_nil] at he
    exact absurd he (chains_some hb nn hx)
  | some l =>
    refine ⟨rfl, fun e => ?_⟩
    unfold Bk.endC at he
    have := (minC_some he).1
    unfold Bk.chains at this
    obtain ⟨l', hl'⟩ := chU_last 1000 _ l this
    have e' : l = [] := e
    rw [e'] at hl'
    simp at hl'
/-- The ends that are known. -/
structure EMap (b : Bk) (below : Int) (em : List (PV × PV)) : Prop where
  k : keysOk kI em = true
  f : ∀ m : Int, m < below → (findV (.int .i64 m) em).getD (.emp (some true)) = if (b.held []).contains m = true then .lst false 1 ((b.endL m).map intP) else .emp (some true)
attribute [local simp] AS.exp expG Box.ren AV.map AV.mapL outsOk noRet Site.isRet Box.allS AV.allS AV.allSL retB dropL AS.adds renL outG outOk lentBx inG fnOf lookA List.findIdx?_cons
attribute [local simp] Box.purge Site.isLoc
attribute [local simp] badZ_has badZ_all badZ_purge badZ_map badZ_frz
theorem best1_c (H : Int → Bool) (hs : List (PV × PV)) (hH : HMap H hs) (c : Ct) : CallsA Try.prog 65 [.pv c.pv, .ptr (.par 0) 0] (laid 0 (hdB hs 0)) (fun r B => r = .pv (.bool (H c.num)) ∧ B = laid 0 (hdB hs 0)) := by
  have hf := hH.f c.num
  have hk := hH.k
  refine calls_of_awpB [.par 0, .par 1] mixed L65_ok (Nat.le_of_ble_eq_true rfl) ?_
  simp [-getElem?_pos, L65, hdB, laid, Ct.pv, hf, hk]
theorem cloneN_c : Gives Try.prog 54 [.emp (some true)] (.emp (some true)) := by
  refine calls_of_awpS mixed L54_ok (Nat.le_of_ble_eq_true rfl) ?_
  simp [-getElem?_pos, L54, nilOf]
end Go.Proofs.Ytcgdopjmbadonaa
/-! Contracts of layer 2 (chain): the first rounds of Best. -/
namespace Go.Proofs.Ytcgdopjmbadonaa
open Go.RowKit
set_option maxRecDepth 10000
set_option linter.unusedSimpArgs false
attribute [local irreducible] Bk.held Bk.nums Bk.span Bk.endL
theorem cok38 : COk Try.prog (tyOf tys) L38.code := litF_ok L38_ok L38_tab
def bestP : Option (List Int) → PV
  | none => .emp (some true)
  | some l => .lst false 1 (l.map intP)
noncomputable def beX (b : Bk) (es hs em : List (PV × PV)) (n : Int) (s : Option (List Int)) : List Box := [.loop (rcode Try.prog 38 0) [72] 136 [(11, .ptr (.par 2) 0), (12, .ptr (.par 5) 0), (14, .ptr (.par 7) 0), (16, .ptr (.par 1) 0)] none,
  .cells [.pv (bestP s)], .cells [.fn 65 [] [.ptr (.par 3) 0]], .cells [.mp (.par 4)], .map hs, .cells [.mp (.par 6)], .map em, .cells [.pv (.int .i64 n)], capB (.par 9), .cells (wkC b (.par 10) (badZ [])), .map es]
def beStep (b : Bk) (n : Int) (s : Option (List Int)) (c : Ct) : Option (List Int) := match (b.held []).contains c.num with
  | true => stepC s (b.endL c.num ++ [n])
  | false => s
def beLive (s : Option (List Int)) : Prop := ∀ l, s = some l → l ≠ [] ∧ l.length ≤ 1001
attribute [local simp] AS.exp expG Box.ren AV.map AV.mapL outsOk noRet Site.isRet Box.allS AV.allS AV.allSL retB dropL AS.adds renL outG outOk lentBx inG fnOf lookA List.findIdx?_cons
attribute [local simp] Box.purge Site.isLoc
attribute [local simp] badZ_has badZ_all badZ_purge badZ_map badZ_frz
noncomputable def beY (b : Bk) (es hs em : List (PV × PV)) (n : Int) (s : Option (List Int)) (y : Ct) (a : AV) (B : List (Site × Box)) : AS := ⟨[(11, .ptr (.par 2) 0), (12, .ptr (.par 5) 0), (14, .ptr (.par 7) 0), (16, .ptr (.par 1) 0), (17, .ptr (.loc 17 0) 0), (77, a), (79, .vec (.loc 79 0) 1 0 1)],
  (laid 0 (beX b es hs em n s)).drop 1 ++ ((.loc 17 0, .cells [.pv (.int .i64 y.num), .pv (.int .i64 y.it), .pv (.int .i64 y.src), .pv (.int .i64 y.day), .pv (.int .i64 y.valid), .pv (.int .i64 y.diff.lo), .pv (.int .i64 y.diff.hi)]) :: (.loc 79 0, .arr 3 1 [.int .i64 n]) :: B)⟩
section
set_option maxHeartbeats 16000000 in
noncomputable def beC (b : Bk) (hb : b.ok) (es hs em : List (PV × PV)) (hH : HMap (fun n => (b.held []).contains n) hs) (n : Int) (hE : EMap b n em) : Cons Try.prog where
  m := 11
  S := Option (List Int)
  X := beX b es hs em n
  step s x := (beStep b n s (ctOf x), true)
  good x := ∃ c : Ct, c.num < n ∧ x = c.pv
  live := beLive
  m0 := by omega
  len _ := rfl
  cl c := by
    intro bx hb
    simp only [beX, List.mem_cons, List.not_mem_nil, or_false] at hb
    rcases hb with rfl | rfl | rfl | rfl | rfl | rfl | rfl | rfl | rfl | rfl | rfl
    all_goals first | rfl | simp [wkC, Site.lt, badZ_all]
  goes s x hs hx _ := by
    obtain ⟨y, hy, rfl⟩ := hx
    rw [ctOf_pv]
    have hl := endL_len (b := b) (n := y.num)
    intro l hl'
    unfold beStep at hl'
    split at hl'
    · unfold stepC at hl'
      split at hl'
      · cases hl'
        exact ⟨by simp, by rw [List.length_append]; simp; omega⟩
      · split at hl'
        · cases hl'
          exact ⟨by simp, by rw [List.length_append]; simp; omega⟩
        · exact hs l hl'
    · exact hs l hl'
  yields s x hc hx := by
    obtain ⟨y, hy, rfl⟩ := hx
    rw [ctOf_pv]
    have hcok : COk Try.prog (tyOf tys) (.rng 136 (.t 71) (rcode Try.prog 38 0) Y38_0a Y38_0b [72]) := cok38.2.2.2.2.2.1.2.2.2.1.2.2.2.2.1.2
    have hf := hE.f y.num hy
    have hk := hE.k
    have hcall := best1_c _ hs hH y
    have hlen := endL_len (b := b) (n := y.num)
    have hnn := fun h : (b.held []).contains y.num = true => (endL_some hb h).2
    have hstep : beStep b n s y = match (b.held []).contains y.num with
      | true => stepC s (b.endL y.num ++ [n])
      | false => s := rfl
    rw [hstep]
    clear hstep
    generalize b.endL y.num = E at *
    generalize hcv : (b.held []).contains y.num = v at *
    refine yields_of_awpS mixed hcok.1 hcok.2.1 rfl rfl (by simp) rfl ?_
    cases v
    · rw [if_neg (by simp)] at hf
      simp [-getElem?_pos, -List.getElem?_map, Y38_0a, Y38_0b, beX, laid, putL, Ct.pv, capB, wkC, hk, hf]
      refine ltS_seq (beY b es hs em n s y (.pv (.emp (some true))) []) ?_ ?_
      · simp [-getElem?_pos, -List.getElem?_map, ltS_alt, ltS_no]
        refine ⟨?_, ?_⟩
        all_goals
          refine call_pv [] (fs := []) (xs := [.emp (some true)]) (cs := []) rfl rfl cloneN_c ?_
          simp [-getElem?_pos, -List.getElem?_map, frzsL, ltS_alt, ltS_no]
          refine Sub.mk ?_ ?_
          · simp [beY]
          · simp [beY, beX, laid, capB, wkC]
      · simp [-getElem?_pos, -List.getElem?_map, ltS_alt, ltS_no, beY, beX, laid, capB, wkC, nble, nblt]
        refine call_lent (as' := [.pv y.pv, .ptr (.par 0) 0]) (B := laid 0 (hdB hs 0)) (fs := []) (cs := [.ptr (.par 3) 0]) 83 [.par 3, .par 4] ?_ rfl rfl ?_ ?_ ?_ hcall ?_
        · rfl
        · simp [laid, hdB]
        · rfl
        · rfl
        rintro r0 B0 ⟨rfl, rfl⟩
        refine ⟨rfl, by simp [laid, hdB], ?_⟩
        simp [-getElem?_pos, -List.getElem?_map, laid, hdB, -retB]
        exact ⟨[], [.par 1, .par 2, .par 3, .par 4, .par 5, .par 6, .par 7, .par 8, .par 9, .par 10], rfl, rfl, by simp [frzL], rfl, by simp [frzL, wkC]⟩
    · rw [if_pos rfl] at hf
      simp [-getElem?_pos, -List.getElem?_map, Y38_0a, Y38_0b, beX, laid, putL, Ct.pv, capB, wkC, hk, hf]
      refine ltS_seq (beY b es hs em n s y (.vec (.loc 77 0) 1 0 E.length) [(.loc 77 0, .arr 3 1 (E.map intP))]) ?_ ?_
      · simp [-getElem?_pos, -List.getElem?_map, ltS_alt, ltS_no]
        refine ⟨?_, ?_⟩
        all_goals
          refine call_vec [] (fs := []) (xs := [.lst false 1 (E.map intP)]) (cs := []) rfl rfl (clone_c E (hnn rfl) (by omega)) ?_
          simp [-getElem?_pos, -List.getElem?_map, frzsL, ltS_alt, ltS_no]
          refine Sub.mk ?_ ?_
          · simp [beY]
          · simp [beY, beX, laid, capB, wkC]
      · have hE6 : E.length ≤ 999999 := by omega
        have hE7 : (E.map intP).take E.length = E.map intP := List.take_of_length_le (by simp)
        have hE8 : (E.map intP ++ [PV.int .i64 n]).take (E.length + 1) = E.map intP ++ [PV.int .i64 n] := List.take_of_length_le (by simp)
        simp [-getElem?_pos, -List.getElem?_map, ltS_alt, ltS_no, beY, beX, laid, capB, wkC, nble, nblt, hE6, hE7]
        refine call_lent (as' := [.pv y.pv, .ptr (.par 0) 0]) (B := laid 0 (hdB hs 0)) (fs := []) (cs := [.ptr (.par 3) 0]) 83 [.par 3, .par 4] ?_ rfl rfl ?_ ?_ ?_ hcall ?_
        · rfl
        · simp [laid, hdB]
        · rfl
        · rfl
        rintro r0 B0 ⟨rfl, rfl⟩
        refine ⟨rfl, by simp [laid, hdB], ?_⟩
        cases s with
        | none =>
          simp [-getElem?_pos, -List.getElem?_map, laid, hdB, bestP, nilOf, -retB]
          exact ⟨[.loc 80 0], [.par 1, .par 2, .par 3, .par 4, .par 5, .par 6, .par 7, .par 8, .par 9, .par 10], rfl, rfl, by simp [frzL, AS.frz, AV.frz, AV.frzL, Box.frz, AS.tidy, AS.frzC, fnA, unpvs, hE8], rfl, by simp [frzL, AS.frz, AV.frz, AV.frzL, Box.frz, AS.tidy, AS.frzC, fnA, unpvs, hE8, wkC, stepC, intP]⟩
        | some l =>
          obtain ⟨hl0, hl1⟩ := hc l rfl
          have hnil : nilOf .sl (.pv (.lst false 1 (l.map intP))) = some false := by
            cases l with
            | nil => exact absurd rfl hl0
            | cons a r => rfl
          have hbf := before_c (E ++ [n]) l (by rw [List.length_append]; simp; omega) (by omega)
          have hlt := befV_lt (E ++ [n]) l
          have hst : stepC (some l) (E ++ [n]) = if ltC (E ++ [n]) l = true then some (E ++ [n]) else some l := rfl
          rw [hst]
          simp [-getElem?_pos, -List.getElem?_map, laid, hdB, bestP, hnil, -retB]
          refine call_gives (k := 0) (fs := []) (xs := [.lst false 1 ((E ++ [n]).map intP), .lst false 1 (l.map intP)]) (cs := []) rfl (by simp [snapW, AV.snap, AV.snap0, intP, hE7]; try exact hE8) hbf rfl ?_
          cases hd : ltC (E ++ [n]) l
          · rw [hd] at hlt
            simp [-getElem?_pos, -List.getElem?_map, -decide_eq_true_eq, -decide_eq_false_iff_not, hlt, -retB]
            exact ⟨[], [.par 1, .par 2, .par 3, .par 4, .par 5, .par 6, .par 7, .par 8, .par 9, .par 10], rfl, rfl, by simp [frzL], rfl, by simp [frzL, wkC, intP]⟩
          · rw [hd] at hlt
            simp [-getElem?_pos, -List.getElem?_map, -decide_eq_true_eq, -decide_eq_false_iff_not, hlt, -retB]
            exact ⟨[.loc 80 0], [.par 1, .par 2, .par 3, .par 4, .par 5, .par 6, .par 7, .par 8, .par 9, .par 10], rfl, rfl, by simp [frzL, AS.frz, AV.frz, AV.frzL, Box.frz, AS.tidy, AS.frzC, fnA, unpvs, hE8], rfl, by simp [frzL, AS.frz, AV.frz, AV.frzL, Box.frz, AS.tidy, AS.frzC, fnA, unpvs, hE8, wkC, intP]⟩
end
end Go.Proofs.Ytcgdopjmbadonaa
/-! Contracts of layer 2 (chain): the last rounds of Best. -/
namespace Go.Proofs.Ytcgdopjmbadonaa
open Go.RowKit
set_option maxRecDepth 10000
set_option linter.unusedSimpArgs false
attribute [local irreducible] Bk.held Bk.nums Bk.span Bk.endL
noncomputable def bfX (b : Bk) (es hs em : List (PV × PV)) (s : Option (List Int)) : List Box := [.loop (rcode Try.prog 38 1) [115] 136 [(11, .ptr (.par 2) 0), (12, .ptr (.par 5) 0), (19, .ptr (.par 1) 0)] none,
  .cells [.pv (bestP s)], .cells [.fn 65 [] [.ptr (.par 3) 0]], .cells [.mp (.par 4)], .map hs, .cells [.mp (.par 6)], .map em, capB (.par 8), .cells (wkC b (.par 9) (badZ [])), .map es]
def bfStep (b : Bk) (s : Option (List Int)) (c : Ct) : Option (List Int) := match (b.held []).contains c.num with
  | true => stepC s (b.endL c.num)
  | false => s
attribute [local simp] AS.exp expG Box.ren AV.map AV.mapL outsOk noRet Site.isRet Box.allS AV.allS AV.allSL retB dropL AS.adds renL outG outOk lentBx inG fnOf lookA List.findIdx?_cons
attribute [local simp] Box.purge Site.isLoc
attribute [local simp] badZ_has badZ_all badZ_purge badZ_map badZ_frz
section
set_option maxHeartbeats 16000000 in
noncomputable def bfC (b : Bk) (hb : b.ok) (es hs em : List (PV × PV)) (hH : HMap (fun n => (b.held []).contains n) hs) (hE : EMap b 1000 em) : Cons Try.prog where
  m := 10
  S := Option (List Int)
  X := bfX b es hs em
  step s x := (bfStep b s (ctOf x), true)
  good x := ∃ c : Ct, c.num < 1000 ∧ x = c.pv
  live := beLive
  m0 := by omega
  len _ := rfl
  cl c := by
    intro bx hb
    simp only [bfX, List.mem_cons, List.not_mem_nil, or_false] at hb
    rcases hb with rfl | rfl | rfl | rfl | rfl | rfl | rfl | rfl | rfl | rfl
    all_goals first | rfl | simp [wkC, Site.lt, badZ_all]
  goes s x hs hx _ := by
    obtain ⟨y, hy, rfl⟩ := hx
    rw [ctOf_pv]
    have hl := endL_len (b := b) (n := y.num)
    intro l hl'
    unfold bfStep at hl'
    split at hl'
    · rename_i hh
      have hne := (endL_some hb hh).2
      unfold stepC at hl'
      split at hl'
      · cases hl'
        exact ⟨hne, by omega⟩
      · split at hl'
        · cases hl'
          exact ⟨hne, by omega⟩
        · exact hs l hl'
    · exact hs l hl'
  yields s x hc hx := by
    obtain ⟨y, hy, rfl⟩ := hx
    rw [ctOf_pv]
    have hcok : COk Try.prog (tyOf tys) (.rng 136 (.t 114) (rcode Try.prog 38 1) Y38_1a Y38_1b [115]) := cok38.2.2.2.2.2.2.2.1.2
    have hf := hE.f y.num hy
    have hk := hE.k
    have hcall := best1_c _ hs hH y
    have hlen := endL_len (b := b) (n := y.num)
    have hnn := fun h : (b.held []).contains y.num = true => (endL_some hb h).2
    have hstep : bfStep b s y = match (b.held []).contains y.num with
      | true => stepC s (b.endL y.num)
      | false => s := rfl
    rw [hstep]
    clear hstep
    generalize b.endL y.num = E at *
    generalize hcv : (b.held []).contains y.num = v at *
    refine yields_of_awpS mixed hcok.1 hcok.2.1 rfl rfl (by simp) rfl ?_
    cases v
    · rw [if_neg (by simp)] at hf
      simp [-getElem?_pos, -List.getElem?_map, Y38_1a, Y38_1b, bfX, laid, putL, Ct.pv, capB, wkC, hk, hf]
      refine call_lent (as' := [.pv y.pv, .ptr (.par 0) 0]) (B := laid 0 (hdB hs 0)) (fs := []) (cs := [.ptr (.par 3) 0]) 122 [.par 3, .par 4] ?_ rfl rfl ?_ ?_ ?_ hcall ?_
      · rfl
      · simp [laid, hdB]
      · rfl
      · rfl
      rintro r0 B0 ⟨rfl, rfl⟩
      refine ⟨rfl, by simp [laid, hdB], ?_⟩
      simp [-getElem?_pos, -List.getElem?_map, laid, hdB, -retB]
      exact ⟨[], [.par 1, .par 2, .par 3, .par 4, .par 5, .par 6, .par 7, .par 8, .par 9], rfl, rfl, by simp [frzL], rfl, by simp [frzL, wkC]⟩
    · rw [if_pos rfl] at hf
      simp [-getElem?_pos, -List.getElem?_map, Y38_1a, Y38_1b, bfX, laid, putL, Ct.pv, capB, wkC, hk, hf]
      refine call_lent (as' := [.pv y.pv, .ptr (.par 0) 0]) (B := laid 0 (hdB hs 0)) (fs := []) (cs := [.ptr (.par 3) 0]) 122 [.par 3, .par 4] ?_ rfl rfl ?_ ?_ ?_ hcall ?_
      · rfl
      · simp [laid, hdB]
      · rfl
      · rfl
      rintro r0 B0 ⟨rfl, rfl⟩
      refine ⟨rfl, by simp [laid, hdB], ?_⟩
      cases s with
      | none =>
        simp [-getElem?_pos, -List.getElem?_map, laid, hdB, bestP, nilOf, -retB]
        exact ⟨[], [.par 1, .par 2, .par 3, .par 4, .par 5, .par 6, .par 7, .par 8, .par 9], rfl, rfl, by simp [frzL], rfl, by simp [frzL, wkC, stepC, intP]⟩
      | some l =>
        obtain ⟨hl0, hl1⟩ := hc l rfl
        have hnil : nilOf .sl (.pv (.lst false 1 (l.map intP))) = some false := by
          cases l with
          | nil => exact absurd rfl hl0
          | cons a r => rfl
        have hbf := before_c E l (by omega) (by omega)
        have hlt := befV_lt E l
        have hst : stepC (some l) E = if ltC E l = true then some E else some l := rfl
        rw [hst]
        simp [-getElem?_pos, -List.getElem?_map, laid, hdB, bestP, hnil, -retB]
        refine call_gives (k := 0) (fs := []) (xs := [.lst false 1 (E.map intP), .lst false 1 (l.map intP)]) (cs := []) rfl rfl hbf rfl ?_
        cases hd : ltC E l
        · rw [hd] at hlt
          simp [-getElem?_pos, -List.getElem?_map, -decide_eq_true_eq, -decide_eq_false_iff_not, hlt, -retB]
          exact ⟨[], [.par 1, .par 2, .par 3, .par 4, .par 5, .par 6, .par 7, .par 8, .par 9], rfl, rfl, by simp [frzL], rfl, by simp [frzL, wkC, intP]⟩
        · rw [hd] at hlt
          simp [-getElem?_pos, -List.getElem?_map, -decide_eq_true_eq, -decide_eq_false_iff_not, hlt, -retB]
          exact ⟨[], [.par 1, .par 2, .par 3, .par 4, .par 5, .par 6, .par 7, .par 8, .par 9], rfl, rfl, by simp [frzL], rfl, by simp [frzL, wkC, intP]⟩
end
theorem beC_run {b : Bk} {hb : b.ok} {es hs em : List (PV × PV)} {hH : HMap (fun n => (b.held []).contains n) hs} {n : Int} {hE : EMap b n em} : ∀ (l : List Ct) (s : Option (List Int)), (beC b hb es hs em hH n hE).run s (ctsV l) = ((((l.filter fun c => (b.held []).contains c.num).map fun c => b.endL c.num ++ [n])).foldl stepC s, true)
  | [], s => rfl
  | x :: l, s => by
    show (beC b hb es hs em hH n hE).run (beStep b n s x) (ctsV l) = _
    rw [beC_run l]
    unfold beStep
    cases h : (b.held []).contains x.num
    · simp only [List.filter_cons, h, Bool.false_eq_true, if_false]; rfl
    · simp only [List.filter_cons, h, if_true, List.map_cons, List.foldl_cons]; rfl
theorem bfC_run {b : Bk} {hb : b.ok} {es hs em : List (PV × PV)} {hH : HMap (fun n => (b.held []).contains n) hs} {hE : EMap b 1000 em} : ∀ (l : List Ct) (s : Option (List Int)), (bfC b hb es hs em hH hE).run s (ctsV l) = ((((l.filter fun c => (b.held []).contains c.num).map fun c => b.endL c.num)).foldl stepC s, true)
  | [], s => rfl
  | x :: l, s => by
    show (bfC b hb es hs em hH hE).run (bfStep b s x) (ctsV l) = _
    rw [bfC_run l]
    unfold bfStep
    cases h : (b.held []).contains x.num
    · simp only [List.filter_cons, h, Bool.false_eq_true, if_false]; rfl
    · simp only [List.filter_cons, h, if_true, List.map_cons, List.foldl_cons]; rfl
end Go.Proofs.Ytcgdopjmbadonaa
/-! Layer 2 (chain), plain: the ends that are known, and the best chain. -/
namespace Go.Proofs.Ytcgdopjmbadonaa
open Go.RowKit
set_option maxRecDepth 10000
set_option linter.unusedSimpArgs false
attribute [local irreducible] Bk.held Bk.nums Bk.span Bk.endL
def endP (b : Bk) (n : Int) : PV := .lst false 1 ((b.endL n).map intP)
def eEnt (b : Bk) (k : Nat) : List (PV × PV) := mapI id (endP b) ((b.nums.take k).filter fun n => (b.held []).contains n)
theorem eEnt_map {b : Bk} (hb : b.ok) {k : Nat} {n : Int} (h : b.nums[k]? = some n) : EMap b n (eEnt b k) := by
  refine ⟨keys_mapI, fun m hm => ?_⟩
  unfold eEnt
  rw [find_mapI, find_id]
  cases hc : (b.held []).contains m
  · rw [if_neg (by rw [List.mem_filter, hc]; simp), if_neg (by simp)]; rfl
  · rw [if_pos (by
      rw [List.mem_filter, take_mem h]
      exact ⟨⟨heldIn hb (List.contains_iff_mem.1 hc), hm⟩, hc⟩), if_pos rfl]; rfl
theorem eEnt_full {b : Bk} (hb : b.ok) : EMap b 1000 (eEnt b b.nums.length) := by
  refine ⟨keys_mapI, fun m hm => ?_⟩
  unfold eEnt
  rw [find_mapI, find_id, List.take_length]
  cases hc : (b.held []).contains m
  · rw [if_neg (by rw [List.mem_filter, hc]; simp), if_neg (by simp)]; rfl
  · rw [if_pos (by
      rw [List.mem_filter]
      exact ⟨heldIn hb (List.contains_iff_mem.1 hc), hc⟩), if_pos rfl]; rfl
theorem eEnt_skip {b : Bk} {k : Nat} {n : Int} (h : b.nums[k]? = some n) (hx : (b.held []).contains n = false) : eEnt b (k + 1) = eEnt b k := by
  unfold eEnt
  rw [List.take_add_one, h, List.filter_append]
  have : (Option.some n).toList.filter (fun n => (b.held []).contains n) = [] := by
    simp only [Option.toList, List.filter_cons, hx, List.filter_nil]; rfl
  rw [this, List.append_nil]
theorem eEnt_put {b : Bk} {k : Nat} {n : Int} (h : b.nums[k]? = some n) (hx : (b.held []).contains n = true) : putK (.int .i64 n) (endP b n) (eEnt b k) = eEnt b (k + 1) := by
  unfold eEnt
  rw [put_mapI (fun x hm => ?_), List.take_add_one, h, List.filter_append]
  · have : (Option.some n).toList.filter (fun n => (b.held []).contains n) = [n] := by
      simp only [Option.toList, List.filter_cons, hx, List.filter_nil]; rfl
    rw [this]
    unfold mapI; rw [List.map_append]; rfl
  · have := (take_mem h).1 (List.mem_filter.1 hm).1
    show x ≠ n
    omega
/-- The best chain that ends with a certificate that rests on others. -/
def endM (b : Bk) (n : Int) : Option (List Int) := (((b.ofL (b.get n).src (b.get n).day n).filter fun c => (b.held []).contains c.num).map fun c => b.endL c.num ++ [n]).foldl stepC none
theorem endM_is {b : Bk} (hb : b.ok) {n : Int} (hn : n ∈ b.nums) (hx : (b.held []).contains n = true) (hs : (b.item (b.get n).src).std = false) : endM b n = some (b.endL n) := by
  rw [← (endL_some hb hx).1]
  have hbn := nums_bd hb n hn
  obtain ⟨nn, rfl⟩ : ∃ nn : Nat, n = nn := ⟨n.toNat, by omega⟩
  rw [endC_is hb (held_nums hb) (by omega) hn, if_neg (by simp [hs])]
  obtain ⟨hcm, hcn⟩ := get_num hb hn
  refine minC_same fun x => ?_
  rw [List.mem_map, List.mem_filterMap]
  constructor
  · rintro ⟨c, hc, rfl⟩
    rw [List.mem_filter] at hc
    obtain ⟨h1, h2⟩ := (mem_ofL hb).1 hc.1
    refine ⟨c.num, ?_, ?_⟩
    · rw [List.mem_filter]
      refine ⟨List.contains_iff_mem.1 hc.2, ?_⟩
      rw [get_of hb h1, rests_of, hcn]
      exact h2
    · rw [(endL_some hb hc.2).1]; rfl
  · rintro ⟨m, hm, hx'⟩
    rw [List.mem_filter] at hm
    obtain ⟨hm1, hm2⟩ := hm
    have hmn := held_nums hb m hm1
    obtain ⟨g1, g2⟩ := get_num hb hmn
    have hmc : (b.held []).contains m = true := List.contains_iff_mem.2 hm1
    rw [(endL_some hb hmc).1] at hx'
    refine ⟨b.get m, ?_, ?_⟩
    · rw [List.mem_filter, mem_ofL hb, g2]
      refine ⟨⟨g1, ?_⟩, hmc⟩
      rw [rests_of, hcn] at hm2
      exact hm2
    · rw [g2]
      simpa using hx'
theorem endL_std {b : Bk} (hb : b.ok) {n : Int} (hn : n ∈ b.nums) (hs : (b.item (b.get n).src).std = true) : b.endL n = [n] := by
  have hbn := nums_bd hb n hn
  obtain ⟨nn, rfl⟩ : ∃ nn : Nat, n = nn := ⟨n.toNat, by omega⟩
  unfold Bk.endL
  rw [endC_is hb (held_nums hb) (by omega) hn, if_pos hs]; rfl
/-- What Best answers. -/
def Bk.bestL (b : Bk) (item day : Int) : List Int := (b.bestC (b.held []) item day).getD []
def Bk.bestM (b : Bk) (item day : Int) : List Int × Int := if b.askM item day = 0 then (if (b.item item).std = true then ([], 0) else (b.bestL item day, 0)) else ([], b.askM item day)
def bestF (b : Bk) (item day : Int) : Option (List Int) := (((b.ofL item day 1000).filter fun c => (b.held []).contains c.num).map fun c => b.endL c.num).foldl stepC none
theorem bestF_is {b : Bk} (hb : b.ok) {item day : Int} : bestF b item day = b.bestC (b.held []) item day := by
  rw [bestC_is]
  refine minC_same fun x => ?_
  rw [List.mem_map, List.mem_filterMap]
  constructor
  · rintro ⟨c, hc, rfl⟩
    rw [List.mem_filter] at hc
    obtain ⟨h1, h2⟩ := (mem_ofL hb).1 hc.1
    refine ⟨c.num, ?_, (endL_some hb hc.2).1⟩
    rw [List.mem_filter]
    refine ⟨List.contains_iff_mem.1 hc.2, ?_⟩
    rw [get_of hb h1]
    unfold Bk.ofB at h2
    rw [Bool.and_eq_true] at h2
    exact h2.2
  · rintro ⟨m, hm, hx'⟩
    rw [List.mem_filter] at hm
    obtain ⟨hm1, hm2⟩ := hm
    have hmn := held_nums hb m hm1
    have hbn := nums_bd hb m hmn
    obtain ⟨g1, g2⟩ := get_num hb hmn
    have hmc : (b.held []).contains m = true := List.contains_iff_mem.2 hm1
    rw [(endL_some hb hmc).1] at hx'
    refine ⟨b.get m, ?_, ?_⟩
    · rw [List.mem_filter, mem_ofL hb, g2]
      refine ⟨⟨g1, ?_⟩, hmc⟩
      unfold Bk.ofB
      rw [Bool.and_eq_true]
      exact ⟨by rw [g2]; simp; omega, hm2⟩
    · rw [g2]
      simpa using hx'
theorem bestF_some {b : Bk} (hb : b.ok) {item day : Int} (hs : (b.item item).std = false) (hh : b.isHeld item day = true) : bestF b item day = some (b.bestL item day) ∧ b.bestL item day ≠ [] ∧ (b.bestL item day).length ≤ 1000 := by
  have he : bestF b item day = b.bestC (b.held []) item day := bestF_is hb
  unfold Bk.isHeld at hh
  rw [hs, Bool.false_or, List.any_eq_true] at hh
  obtain ⟨c, hc1, hc2⟩ := hh
  have hne : (((b.ofL item day 1000).filter fun c => (b.held []).contains c.num).map fun c => b.endL c.num) ≠ [] := by
    intro e
    have : c ∈ (b.ofL item day 1000).filter fun c => (b.held []).contains c.num := List.mem_filter.2 ⟨hc1, hc2⟩
    rw [List.map_eq_nil_iff] at e
    rw [e] at this
    cases this
  unfold Bk.bestL
  rw [← he]
  cases hb2 : bestF b item day with
  | none =>
    exact absurd (minC_nil.1 hb2) hne
  | some l =>
    refine ⟨rfl, ?_⟩
    have hm := (minC_some hb2).1
    rw [List.mem_map] at hm
    obtain ⟨o, ho, rfl⟩ := hm
    exact ⟨(endL_some hb (List.mem_filter.1 ho).2).2, endL_len⟩
end Go.Proofs.Ytcgdopjmbadonaa
/-! Contracts of layer 2 (chain): Best. -/
namespace Go.Proofs.Ytcgdopjmbadonaa
open Go.RowKit
set_option maxRecDepth 10000
set_option linter.unusedSimpArgs false
attribute [local irreducible] Bk.held Bk.nums Bk.span Bk.endL Bk.bestL endM bestF
attribute [local simp] AS.exp expG Box.ren AV.map AV.mapL outsOk noRet Site.isRet Box.allS AV.allS AV.allSL retB dropL AS.adds renL outG outOk lentBx inG fnOf lookA List.findIdx?_cons
attribute [local simp] Box.purge Site.isLoc
attribute [local simp] badZ_has badZ_all badZ_purge badZ_map badZ_frz
attribute [local simp] retFz frzL AS.frz AV.frz AV.frzL Box.frz AS.tidy AS.frzC
def beK (b : Bk) (item day : Int) (es hs : List (PV × PV)) (k : Nat) : AS := ⟨[(1, .pv (.int .i64 item)), (2, .pv (.int .i64 day)), (8, .ptr (.loc 26 0) 0), (11, .ptr (.loc 11 0) 0), (12, .ptr (.loc 12 0) 0), (49, .pv (.lst false 1 (b.nums.map intP))), (50, .pv (.int .i64 b.nums.length)), (51, .pv (.int .i64 k))],
  [(.loc 45 0, .map (eEnt b k)), (.loc 12 0, .cells [.mp (.loc 45 0)]), (.loc 11 0, .cells [.fn 65 [] [.ptr (.loc 9 0) 0]]), (.loc 9 0, .cells [.mp (.loc 26 2)]), (.loc 26 0, .cells (wkC b (.loc 26 1) (badZ []))), (.loc 26 1, .map es), (.loc 26 2, .map hs)]⟩
set_option maxHeartbeats 32000000 in
theorem Best_c (b : Bk) (hi : b.items.length ≤ 1000) (hc : b.certs.length ≤ 1000) (item day : Int) : CallsA Try.prog 38 ([b.pv, .int .i64 item, .int .i64 day].map .pv) [] (fun r B => r = .pv (lstE (b.bestM item day)) ∧ B = []) := by
  have hask := asked_c b hi hc item day
  refine CallsA.weak2 ?_
  refine calls_of_awpF [.loc 135 0] mixed L38_ok (Nat.le_of_ble_eq_true rfl) ?_
  generalize hR : (fun (r : AV) (B : List (Site × Box)) => ∃ x, r = AV.pv x ∧ B = [] ∧ ∀ m v, RdP m v x → RdP m v (lstE (b.bestM item day))) = R
  simp [-getElem?_pos, L38, Bk.pv, -retB]
  refine call_lent (as' := [.pv b.pv, .pv (.int .i64 item), .pv (.int .i64 day)]) (B := []) (fs := []) (cs := []) 26 [] ?_ rfl rfl rfl ?_ ?_ hask ?_
  · rfl
  · rfl
  · rfl
  rintro r0 B0 (⟨h0, rfl, rfl⟩ | ⟨h0, hf0, hit, hdy, hih, es, hes, rfl, rfl⟩)
  · refine ⟨rfl, by simp, ?_⟩
    have hd : decide (b.askM item day = 0) = false := by simpa using h0
    simp [-getElem?_pos, -decide_eq_true_eq, -decide_eq_false_iff_not, hd]
    rw [← hR]
    exact ⟨_, rfl, rfl, lstE_wk (by unfold Bk.bestM; rw [if_neg h0])⟩
  have hb : b.ok := Bk.ok_iff.1 hf0
  have hH := hEnt_full hb []
  have hlen := nums_len (b := b)
  obtain ⟨si, rfl, hsi, z, hz, hbz, hgz⟩ := item_at (b := b) (i := item) (by unfold Bk.hasItem inB at hit; simp only [Bool.and_eq_true, decide_eq_true_eq] at hit; omega) (by unfold Bk.hasItem inB at hit; simp only [Bool.and_eq_true, decide_eq_true_eq] at hit; omega)
  refine ⟨rfl, by simp [wkC], ?_⟩
  generalize hEnt b [] b.nums.length = hs at *
  cases hstd : z.std
  case true =>
    rw [hstd] at hgz
    simp [-getElem?_pos, -List.getElem?_map, wkC, itsP, hgz, hsi]
    rw [← hR]
    exact ⟨_, rfl, rfl, lstE_wk (by unfold Bk.bestM; rw [if_pos h0, if_pos (by rw [hbz]; exact hstd)])⟩
  case false =>
  rw [hstd] at hgz
  simp [-getElem?_pos, -List.getElem?_map, wkC, itsP, hgz, hsi, -retB]
  refine awp_loopS (fun n τ => ∃ k : Nat, k ≤ b.nums.length ∧ n = b.nums.length - k ∧ τ = beK b si day es hs k) ⟨b.nums.length, beK b si day es hs 0, Sub.mk (by simp [beK]) (by simp [beK, wkC, itsP, eEnt, mapI]), 0, Nat.zero_le _, rfl, rfl⟩ ?_
  rintro J hJ n τ ⟨k, hk, rfl, rfl⟩
  by_cases hlt : k < b.nums.length
  · obtain ⟨x, hx⟩ : ∃ x, b.nums[k]? = some x := ⟨b.nums[k], List.getElem?_eq_getElem hlt⟩
    have hxm := List.mem_of_getElem? hx
    have hgx : (b.nums.map intP)[k]? = some (.int .i64 x) := by rw [List.getElem?_map, hx]; rfl
    have hw := wrapK (k := k) (by omega)
    have hmeas : b.nums.length - (k + 1) < b.nums.length - k := by omega
    obtain ⟨hcm, hcn⟩ := get_num hb hxm
    have hfx := hes.f x
    rw [if_pos hxm] at hfx
    have hko := hes.k
    have hbd := cert_bds hb hcm
    have hround := hJ _ _ ⟨k + 1, hlt, rfl, rfl⟩
    have hput := eEnt_put hx
    have hskip := eEnt_skip hx
    have hEM := eEnt_map hb hx
    have hek := hEM.k
    have hst0 := endL_std hb hxm
    have hst1 := endM_is hb hxm
    have hbest := best1_c _ hs hH (b.get x)
    have hit := iter_c (beC b hb es hs (eEnt b k) hH x hEM) b hb [] es hes 8 9 10 (fun c _ => ⟨rfl, rfl⟩) (fun c _ => rfl) (b.get x).src (b.get x).day x none (fun l h => by cases h) (fun c hc => ⟨c, by
      have := ((mem_ofL hb).1 hc).2
      unfold Bk.ofB at this
      simp only [Bool.and_eq_true, decide_eq_true_eq] at this
      exact this.1, rfl⟩)
    have hrun : (beC b hb es hs (eEnt b k) hH x hEM).run none (ctsV (b.ofL (b.get x).src (b.get x).day x)) = (endM b x, true) := by rw [beC_run]; unfold endM; rfl
    rw [hrun] at hit
    clear hJ hrun
    unfold beK at hround ⊢
    have hcl := fun s => (beC b hb es hs (eEnt b k) hH x hEM).cl s
    generalize eEnt b k = em at *
    generalize b.get x = y at *
    obtain ⟨yn, yi, ys, yd, yv, ⟨yl, yh⟩⟩ := y
    simp only at hcn hbd hit hst0 hst1 hbest
    subst hcn
    unfold Ct.pv at hfx
    obtain ⟨sj, rfl⟩ : ∃ sj : Nat, ys = sj := ⟨ys.toNat, by omega⟩
    obtain ⟨nn, rfl⟩ : ∃ nn : Nat, yn = nn := ⟨yn.toNat, by omega⟩
    have hsj : sj < b.items.length := by omega
    obtain ⟨u, hu⟩ : ∃ u, b.items[sj]? = some u := ⟨b.items[sj], List.getElem?_eq_getElem hsj⟩
    have hgu : (b.items.map It.pv)[sj]? = some (.agg [.int .i64 u.drift, .bool u.std, .int .i64 u.val.lo, .int .i64 u.val.hi]) := by rw [List.getElem?_map, hu]; rfl
    have hui : b.item (sj : Int) = u := by unfold Bk.item; rw [Int.toNat_natCast, hu]; rfl
    rw [hui] at hst0 hst1
    simp [-getElem?_pos, -List.getElem?_map, beK, wkC, hlt, hgx, hko, hfx, -retB]
    refine call_lent (as' := [.pv (Ct.pv ⟨nn, yi, sj, yd, yv, ⟨yl, yh⟩⟩), .ptr (.par 0) 0]) (B := laid 0 (hdB hs 0)) (fs := []) (cs := [.ptr (.loc 9 0) 0]) 63 [.loc 9 0, .loc 26 2] ?_ rfl rfl ?_ ?_ ?_ hbest ?_
    · rfl
    · simp [laid, hdB]
    · rfl
    · rfl
    rintro r0 B0 ⟨rfl, rfl⟩
    refine ⟨rfl, by simp [laid, hdB], ?_⟩
    generalize hcv : (b.held []).contains (nn : Int) = v at *
    cases v
    · rw [hskip rfl] at hround
      simp [-getElem?_pos, -List.getElem?_map, laid, hdB, hw, -retB]
      exact ⟨_, _, hmeas, Sub.mk (by simp [beK]) (by simp [beK, wkC]), hround⟩
    have hst1 := hst1 rfl
    rw [← hput rfl] at hround
    simp [-getElem?_pos, -List.getElem?_map, laid, hdB, -retB]
    refine call_lent (as' := [.ptr (.par 0) 0, .pv (.int .i64 sj), .pv (.int .i64 yd), .pv (.int .i64 nn)]) (B := laid 0 (wkB b [] es)) (fs := []) (cs := []) 71 [.loc 26 0, .loc 26 1] ?_ rfl rfl ?_ ?_ ?_ (of_c b [] es sj yd nn) ?_
    · rfl
    · simp [laid, wkB, wkC]
    · rfl
    · rfl
    rintro r0 B0 ⟨rfl, rfl⟩
    refine ⟨rfl, by simp [laid, wkB, wkC], ?_⟩
    simp [-getElem?_pos, -List.getElem?_map, laid, wkB, wkC, ofF, -retB]
    refine rng_lent [.loc 136 0, .loc 16 0, .loc 11 0, .loc 9 0, .loc 26 2, .loc 12 0, .loc 45 0, .loc 14 0, .loc 71 0, .loc 26 0, .loc 26 1] [(11, .ptr (.loc 11 0) 0), (12, .ptr (.loc 12 0) 0), (14, .ptr (.loc 14 0) 0), (16, .ptr (.loc 16 0) 0)] (gf := 90) (fs := []) (cs := [.ptr (.loc 71 0) 0, .pv (.ref [.int .i64 nn]), .pv (.ref [.int .i64 sj]), .pv (.ref [.int .i64 yd])]) ?_ ?_ rfl rfl ?_ ?_ ?_ hit ?_
    · rfl
    · simp
    · simp [beC, beX, bestP, laid, wkC, capB]
    · rfl
    · rfl
    rintro r B' ⟨rfl, rfl⟩
    refine ⟨rfl, ?_, ?_⟩
    · exact fun p hp => laid_ok (n := 11) (L := beX b es hs em nn (endM b nn)) (by simp [beX]) (hcl (endM b nn)) p hp
    refine ⟨_, _, _, _, _, rfl, ?_⟩
    clear hcl
    generalize endM b nn = M at *
    have hgu' := hgu
    cases hs2 : u.std
    · rw [hs2] at hgu
      have hM := hst1 hs2
      subst hM
      simp [-getElem?_pos, -List.getElem?_map, beC, beX, laid, jumpQ, wkC, capB, bestP, itsP, hgu, hsj, hek, hw, fnA, unpvs, -retB]
      exact ⟨_, _, hmeas, Sub.mk (by simp) (by simp [wkC, endP, itsP]), hround⟩
    · rw [hs2] at hgu
      have hE := hst0 hs2
      simp [-getElem?_pos, -List.getElem?_map, beC, beX, laid, jumpQ, wkC, capB, bestP, itsP, hgu, hsj, hek, hw, fnA, unpvs, -retB]
      exact ⟨_, _, hmeas, Sub.mk (by simp) (by simp [wkC, endP, hE, itsP, intP]), hround⟩
  have he : k = b.nums.length := by omega
  subst he
  clear hJ
  have hEM := eEnt_full hb
  have hzs : (b.item (si : Int)).std = false := by rw [hbz]; exact hstd
  obtain ⟨hF, hL0, hL1⟩ := bestF_some hb hzs hih
  have hM : b.bestM si day = (b.bestL si day, 0) := by unfold Bk.bestM; rw [if_pos h0, if_neg (by rw [hzs]; simp)]
  have hit := iter_c (bfC b hb es hs (eEnt b b.nums.length) hH hEM) b hb [] es hes 7 8 9 (fun c _ => ⟨rfl, rfl⟩) (fun c _ => rfl) si day 1000 none (fun l h => by cases h) (fun c hc => ⟨c, by
    have := ((mem_ofL hb).1 hc).2
    unfold Bk.ofB at this
    simp only [Bool.and_eq_true, decide_eq_true_eq] at this
    exact this.1, rfl⟩)
  have hrun : (bfC b hb es hs (eEnt b b.nums.length) hH hEM).run none (ctsV (b.ofL si day 1000)) = (some (b.bestL si day), true) := by rw [← hF, bfC_run]; unfold bestF; rfl
  rw [hrun] at hit
  have hcl := fun s => (bfC b hb es hs (eEnt b b.nums.length) hH hEM).cl s
  have hclone := clone_c (b.bestL si day) hL0 (by omega)
  rw [hM] at hR
  clear hrun hF hM
  unfold beK
  generalize eEnt b b.nums.length = em at *
  generalize b.bestL si day = L at *
  simp [-getElem?_pos, -List.getElem?_map, wkC, -retB]
  refine call_lent (as' := [.ptr (.par 0) 0, .pv (.int .i64 si), .pv (.int .i64 day), .pv (.int .i64 1000)]) (B := laid 0 (wkB b [] es)) (fs := []) (cs := []) 114 [.loc 26 0, .loc 26 1] ?_ rfl rfl ?_ ?_ ?_ (of_c b [] es si day 1000) ?_
  · rfl
  · simp [laid, wkB, wkC]
  · rfl
  · rfl
  rintro r0 B0 ⟨rfl, rfl⟩
  refine ⟨rfl, by simp [laid, wkB, wkC], ?_⟩
  simp [-getElem?_pos, -List.getElem?_map, laid, wkB, wkC, ofF, -retB]
  refine rng_lent [.loc 136 0, .loc 19 0, .loc 11 0, .loc 9 0, .loc 26 2, .loc 12 0, .loc 45 0, .loc 114 0, .loc 26 0, .loc 26 1] [(11, .ptr (.loc 11 0) 0), (12, .ptr (.loc 12 0) 0), (19, .ptr (.loc 19 0) 0)] (gf := 90) (fs := []) (cs := [.ptr (.loc 114 0) 0, .pv (.ref [.int .i64 1000]), .pv (.ref [.int .i64 si]), .pv (.ref [.int .i64 day])]) ?_ ?_ rfl rfl ?_ ?_ ?_ hit ?_
  · rfl
  · simp
  · simp [bfC, bfX, bestP, laid, wkC, capB]
  · rfl
  · rfl
  rintro r B' ⟨rfl, rfl⟩
  refine ⟨rfl, ?_, ?_⟩
  · exact fun p hp => laid_ok (n := 10) (L := bfX b es hs em (some L)) (by simp [bfX]) (hcl (some L)) p hp
  refine ⟨_, _, _, _, _, rfl, ?_⟩
  clear hcl
  simp [-getElem?_pos, -List.getElem?_map, bfC, bfX, laid, jumpQ, wkC, capB, bestP, -retB]
  refine call_lent (as' := [.pv (.lst false 1 (L.map intP))]) (B := []) (fs := []) (cs := []) 135 [] ?_ rfl rfl rfl ?_ ?_ hclone ?_
  · rfl
  · rfl
  · rfl
  rintro r0 B0 ⟨rfl, rfl⟩
  refine ⟨rfl, by simp, ?_⟩
  have hLm : (L.map intP).take L.length = L.map intP := List.take_of_length_le (by simp)
  simp [-getElem?_pos, -List.getElem?_map, hLm, -retB]
  rw [← hR]
  exact ⟨_, rfl, rfl, fun m v h => h⟩
end Go.Proofs.Ytcgdopjmbadonaa
