/- Contracts of layer 2 (chain): certificates left out by number. (Text printed by gen_delct.py.) (Several texts in one.) -/
import Derived.Test.YtcgdopjmbadonaaChE
import Derived.Test.YtcgdopjmbadonaaChG
set_option linter.unusedVariables false
set_option linter.unusedSimpArgs false
/-! Contracts of layer 2 (chain): certificates left out by number. (Text printed by gen_delct.py.) -/
namespace Go.Proofs.Ytcgdopjmbadonaa
open Go.RowKit
set_option maxRecDepth 10000
set_option linter.unusedSimpArgs false
section
attribute [local simp] Box.purge Site.isLoc
theorem cloneT_c (l : List Ct) (h0 : l ≠ []) (hl : l.length ≤ 1000000) : CallsA Try.prog 71 [.pv (ctsP l)] [] (fun r B => r = .vec (.ret 0) 7 0 l.length ∧ B = [(.ret 0, .arr 90 7 (l.map Ct.pv))]) := by
  refine calls_of_awpB [.loc 7 0] mixed L71_ok (Nat.le_of_ble_eq_true rfl) ?_
  cases l with
  | nil => exact absurd rfl h0
  | cons a l =>
    have h1 : l.length + 1 ≤ 1000000 := by simpa using hl
    have hm : (l.map Ct.pv).take l.length = l.map Ct.pv := List.take_of_length_le (by simp)
    simp [-getElem?_pos, L71, ctsP, nilOf, nble, h1, hm, retB, outsOk, AS.exp, expG, Box.ren, AV.map, AV.mapL, noRet, Site.isRet, Box.allS, AV.allS, AV.allSL, List.findIdx?_cons]
end
attribute [local simp] AS.exp expG Box.ren AV.map AV.mapL outsOk noRet Site.isRet Box.allS AV.allS AV.allSL retB dropL AS.adds renL outG outOk lentBx inG fnOf lookA List.findIdx?_cons
attribute [local simp] Box.purge Site.isLoc
theorem ctV_set {X : List Ct} {w : Nat} {r : Ct} : (X.map Ct.pv).set w (.agg [.int .i64 r.num, .int .i64 r.it, .int .i64 r.src, .int .i64 r.day, .int .i64 r.valid, .int .i64 r.diff.lo, .int .i64 r.diff.hi]) = (X.set w r).map Ct.pv := by rw [List.map_set]; rfl
theorem find_nextC {α : Type} {l : List α} {k : Nat} {x : α} {p : α → Bool} (h : l[k]? = some x) (hp : p x = true) (hinv : ∀ (j : Nat) (y : α), j < k → l[j]? = some y → p y = false) : l.findIdx? p = some k := by
  obtain ⟨hlt, e⟩ := List.getElem?_eq_some_iff.1 h
  rw [List.findIdx?_eq_some_iff_getElem]
  refine ⟨hlt, by rw [e]; exact hp, fun j hj => ?_⟩
  have := hinv j l[j] hj (List.getElem?_eq_getElem (by omega))
  simp [this]
theorem find_noC {α : Type} {l : List α} {p : α → Bool} (hinv : ∀ (j : Nat) (y : α), j < l.length → l[j]? = some y → p y = false) : l.findIdx? p = none := by
  rw [List.findIdx?_eq_none_iff]
  intro x hx
  obtain ⟨j, hj⟩ := List.mem_iff_getElem?.1 hx
  exact hinv j x (List.getElem?_eq_some_iff.1 hj).1 hj
theorem find_takeC {α : Type} {l : List α} {p : α → Bool} {i : Nat} (h : l.findIdx? p = some i) : i < l.length ∧ l.take i = (l.take (i + 1)).filter (fun n => !p n) := by
  obtain ⟨h1, h2, h3⟩ := List.findIdx?_eq_some_iff_getElem.1 h
  refine ⟨h1, ?_⟩
  rw [List.take_add_one, List.getElem?_eq_getElem h1, List.filter_append]
  have e : (Option.some l[i]).toList.filter (fun n => !p n) = [] := by simp [h2]
  rw [e, List.append_nil, List.filter_eq_self.2]
  intro x hx
  obtain ⟨j, hj⟩ := List.mem_iff_getElem?.1 hx
  rw [List.getElem?_take] at hj
  split at hj
  · rename_i hji
    obtain ⟨q1, q2⟩ := List.getElem?_eq_some_iff.1 hj
    have := h3 j hji
    rw [q2] at this
    simpa using this
  · cases hj
theorem filter_noneC {α : Type} {l : List α} {p : α → Bool} (h : l.findIdx? p = none) : l.filter (fun n => !p n) = l := by
  rw [List.filter_eq_self]
  intro x hx
  have := List.findIdx?_eq_none_iff.1 h x hx
  simp [this]
def deB (d : Int) (m : Nat) : List Box := [.cells [.pv (.int .i64 d)]]
theorem predT (d : Int) (c : Ct) (_ : True) : CallsA Try.prog 72 [.pv c.pv, .ptr (.par 0) 0] (laid 0 (deB d 0)) (fun r B => r = .pv (.bool (decide (c.num = d))) ∧ B = laid 0 (deB d 0)) := by
  refine calls_of_awpB [.par 0] mixed L72_ok (Nat.le_of_ble_eq_true rfl) ?_
  simp [-getElem?_pos, L72, deB, laid, Ct.pv]
section
variable (d : Int)
theorem ixT (l : List Ct) (hl : l.length ≤ 1000) (hin : ∀ c ∈ l, True) :
    CallsA Try.prog 98 [.vec (.par 0) 7 0 l.length, (.fn 72 [] [.ptr (.par 1) 0])] (laid 0 (.arr 90 7 (l.map Ct.pv) :: deB d 1)) (fun x B => x = .pv (.int .i64 (ixI (l.findIdx? (fun c : Ct => decide (c.num = d))))) ∧ B = laid 0 (.arr 90 7 (l.map Ct.pv) :: deB d 1)) := by
  refine calls_of_awpB [.par 0, .par 1] mixed L98_ok (Nat.le_of_ble_eq_true rfl) ?_
  generalize hR : (fun (x : AV) (B : List (Site × Box)) => x = .pv (.int .i64 (ixI (l.findIdx? (fun c : Ct => decide (c.num = d))))) ∧ B = laid 0 (.arr 90 7 (l.map Ct.pv) :: deB d 1)) = R
  simp [-getElem?_pos, L98, deB, laid]
  refine awp_loopS (fun n τ => ∃ k : Nat, k ≤ l.length ∧ n = l.length - k ∧ (∀ (j : Nat) (y : Ct), j < k → l[j]? = some y → (fun c : Ct => decide (c.num = d)) y = false) ∧ τ = ⟨[(0, .vec (.par 0) 7 0 l.length), (1, (.fn 72 [] [.ptr (.par 1) 0])), (7, .pv (.int .i64 l.length)), (8, .pv (.int .i64 k))], laid 0 (.arr 90 7 (l.map Ct.pv) :: deB d 1)⟩)
    ⟨l.length, ⟨[(0, .vec (.par 0) 7 0 l.length), (1, (.fn 72 [] [.ptr (.par 1) 0])), (7, .pv (.int .i64 l.length)), (8, .pv (.int .i64 0))], laid 0 (.arr 90 7 (l.map Ct.pv) :: deB d 1)⟩, Sub.mk (by simp) (by simp [deB, laid]), 0, Nat.zero_le _, rfl, (fun j y hj => by omega), rfl⟩ ?_
  rintro J hJ n τ ⟨k, hk, rfl, hinv, rfl⟩
  by_cases hlt : k < l.length
  · obtain ⟨r, hx⟩ : ∃ x, l[k]? = some x := ⟨l[k], List.getElem?_eq_getElem hlt⟩
    have hg : (l.map Ct.pv)[k]? = some (.agg [.int .i64 r.num, .int .i64 r.it, .int .i64 r.src, .int .i64 r.day, .int .i64 r.valid, .int .i64 r.diff.lo, .int .i64 r.diff.hi]) := by rw [List.getElem?_map, hx]; rfl
    have hw := wrapK (k := k) (by omega)
    have hmeas : l.length - (k + 1) < l.length - k := by omega
    have hC := predT d r (hin r (List.mem_of_getElem? hx))
    have hnext : (fun c : Ct => decide (c.num = d)) r = false → J (l.length - (k + 1)) _ := fun hn => hJ _ _ ⟨k + 1, hlt, rfl, (fun j y hj hy => by
      rcases Nat.lt_succ_iff_lt_or_eq.1 hj with h | h
      · exact hinv j y h hy
      · subst h; rw [hx] at hy; cases hy; exact hn), rfl⟩
    clear hJ
    simp [-getElem?_pos, -List.getElem?_map, deB, laid, hlt, hg, nblt, nble]
    refine call_lent (as' := [.pv r.pv, .ptr (.par 0) 0]) (B := laid 0 (deB d 0)) (fs := []) (cs := [.ptr (.par 1) 0]) 16 [.par 1] ?_ rfl rfl ?_ ?_ ?_ hC ?_
    · rfl
    · simp [deB, laid]
    · rfl
    · rfl
    rintro r0 B0 ⟨rfl, rfl⟩
    refine ⟨rfl, by simp [deB, laid], ?_⟩
    cases hgv : (fun c : Ct => decide (c.num = d)) r with
    | false =>
      have hround := hnext hgv
      have hgv' : (decide (r.num = d)) = false := hgv
      simp [-getElem?_pos, -List.getElem?_map, deB, laid, hw, hgv']
      refine ⟨_, _, hmeas, Sub.mk ?_ ?_, hround⟩
      · simp
      · simp [deB, laid]
    | true =>
      have hf := find_nextC hx hgv hinv
      have hgv' : (decide (r.num = d)) = true := hgv
      simp [-getElem?_pos, -List.getElem?_map, deB, laid, hgv']
      rw [← hR, hf]
      simp [deB, laid, ixI]
  · have he : k = l.length := by omega
    subst he
    have hf := find_noC hinv
    clear hJ
    simp [-getElem?_pos, -List.getElem?_map, deB, laid]
    rw [← hR, hf]
    simp [deB, laid, ixI]
set_option maxHeartbeats 8000000 in
theorem delT (l : List Ct) (hl : l.length ≤ 1000) (hin : ∀ c ∈ l, True) :
    CallsA Try.prog 70 [.vec (.par 0) 7 0 l.length, (.fn 72 [] [.ptr (.par 1) 0])] (laid 0 (.arr 90 7 (l.map Ct.pv) :: deB d 1)) (fun x B => x = .vec (.par 0) 7 0 (l.filter (fun n => !(fun c : Ct => decide (c.num = d)) n)).length ∧ ∃ X : List Ct, X.take (l.filter (fun n => !(fun c : Ct => decide (c.num = d)) n)).length = l.filter (fun n => !(fun c : Ct => decide (c.num = d)) n) ∧ B = laid 0 (.arr 90 7 (X.map Ct.pv) :: deB d 1)) := by
  have hC := ixT d l hl hin
  refine calls_of_awpB [.par 0, .par 1] mixed L70_ok (Nat.le_of_ble_eq_true rfl) ?_
  generalize hR : (fun (x : AV) (B : List (Site × Box)) => x = .vec (.par 0) 7 0 (l.filter (fun n => !(fun c : Ct => decide (c.num = d)) n)).length ∧ ∃ X : List Ct, X.take (l.filter (fun n => !(fun c : Ct => decide (c.num = d)) n)).length = l.filter (fun n => !(fun c : Ct => decide (c.num = d)) n) ∧ B = laid 0 (.arr 90 7 (X.map Ct.pv) :: deB d 1)) = R
  simp [-getElem?_pos, L70, deB, laid]
  refine call_lent (as' := [.vec (.par 0) 7 0 l.length, (.fn 72 [] [.ptr (.par 1) 0])]) (B := laid 0 (.arr 90 7 (l.map Ct.pv) :: deB d 1)) (fs := []) (cs := []) 10 [.par 0, .par 1] ?_ rfl rfl ?_ ?_ ?_ hC ?_
  · rfl
  · simp [deB, laid]
  · rfl
  · rfl
  rintro r0 B0 ⟨rfl, rfl⟩
  refine ⟨rfl, by simp [deB, laid], ?_⟩
  cases hx : l.findIdx? (fun c : Ct => decide (c.num = d)) with
  | none =>
    have hfl := filter_noneC hx
    simp [-getElem?_pos, deB, laid, ixI]
    rw [← hR, hfl]
    exact ⟨rfl, l, by simp, by simp [deB, laid]⟩
  | some i =>
    obtain ⟨hi, hti⟩ := find_takeC hx
    have hw1 := wrapK (k := i) (by omega)
    have hni : ¬ ((i : Int) = -1) := by omega
    clear hC
    simp [-getElem?_pos, deB, laid, ixI, hw1, hni]
    refine awp_loopS (fun n τ => ∃ (j : Nat) (X K : List Ct), j ≤ l.length ∧ n = l.length - j ∧ X.length = l.length ∧ K = (l.take j).filter (fun n => !(fun c : Ct => decide (c.num = d)) n) ∧ X.take K.length = K ∧ X.drop j = l.drop j ∧ K.length < j ∧ τ = ⟨[(0, .vec (.par 0) 7 0 l.length), (1, (.fn 72 [] [.ptr (.par 1) 0])), (5, .pv (.int .i64 K.length)), (6, .pv (.int .i64 j))], laid 0 (.arr 90 7 (X.map Ct.pv) :: deB d 1)⟩)
      ⟨l.length - (i + 1), ⟨[(0, .vec (.par 0) 7 0 l.length), (1, (.fn 72 [] [.ptr (.par 1) 0])), (5, .pv (.int .i64 i)), (6, .pv (.int .i64 (i + 1 : Nat)))], laid 0 (.arr 90 7 (l.map Ct.pv) :: deB d 1)⟩, Sub.mk (by simp) (by simp [deB, laid]), i + 1, l, l.take i, by omega, rfl, rfl, hti, by simp, rfl, by rw [List.length_take]; omega, by rw [List.length_take, Nat.min_eq_left (by omega)]⟩ ?_
    clear hx hw1 hni hti
    rintro J hJ n τ ⟨j, X, K, hj, rfl, hXl, hKe, hXt, hXd, hKj, rfl⟩
    by_cases hlt : j < l.length
    · obtain ⟨r, hxr⟩ : ∃ x, l[j]? = some x := ⟨l[j], List.getElem?_eq_getElem hlt⟩
      have hXr : X[j]? = some r := by
        have h1 : (X.drop j)[0]? = (l.drop j)[0]? := by rw [hXd]
        rw [List.getElem?_drop, List.getElem?_drop, Nat.add_zero] at h1
        rw [h1]; exact hxr
      have hg : (X.map Ct.pv)[j]? = some (.agg [.int .i64 r.num, .int .i64 r.it, .int .i64 r.src, .int .i64 r.day, .int .i64 r.valid, .int .i64 r.diff.lo, .int .i64 r.diff.hi]) := by rw [List.getElem?_map, hXr]; rfl
      have hw := wrapK (k := j) (by omega)
      have hw2 := wrapK (k := K.length) (by omega)
      have hmeas : l.length - (j + 1) < l.length - j := by omega
      have hC := predT d r (hin r (List.mem_of_getElem? hxr))
      have hdn : X.drop (j + 1) = l.drop (j + 1) := by
        have := congrArg List.tail hXd
        simpa [List.tail_drop] using this
      have hKl : K.length < X.length := by omega
      have htn : (l.take (j + 1)).filter (fun n => !(fun c : Ct => decide (c.num = d)) n) = K ++ (if (!(fun c : Ct => decide (c.num = d)) r) = true then [r] else []) := by
        rw [List.take_add_one, hxr, List.filter_append, ← hKe]
        congr 1
        simp only [Option.toList, List.filter_cons, List.filter_nil]
      have hset : ∀ Y, Y = X.set K.length r → (fun c : Ct => decide (c.num = d)) r = false → J (l.length - (j + 1)) ⟨[(0, .vec (.par 0) 7 0 l.length), (1, (.fn 72 [] [.ptr (.par 1) 0])), (5, .pv (.int .i64 (K.length + 1 : Nat))), (6, .pv (.int .i64 (j + 1 : Nat)))], laid 0 (.arr 90 7 (Y.map Ct.pv) :: deB d 1)⟩ := fun Y hY hn => hJ _ _ ⟨j + 1, Y, K ++ [r], hlt, rfl, by rw [hY, List.length_set]; exact hXl, by rw [htn, if_pos (by simp [hn])], by
        rw [hY, List.length_append]
        show List.take (K.length + 1) _ = _
        rw [List.take_add_one, List.getElem?_set_self hKl, List.take_set_of_le (Nat.le_refl _), hXt]; rfl, by rw [hY, List.drop_set_of_lt (by omega)]; exact hdn, by simp; omega, by simp⟩
      have hgot : (fun c : Ct => decide (c.num = d)) r = true → J (l.length - (j + 1)) ⟨[(0, .vec (.par 0) 7 0 l.length), (1, (.fn 72 [] [.ptr (.par 1) 0])), (5, .pv (.int .i64 K.length)), (6, .pv (.int .i64 (j + 1 : Nat)))], laid 0 (.arr 90 7 (X.map Ct.pv) :: deB d 1)⟩ := fun hn => hJ _ _ ⟨j + 1, X, K, hlt, rfl, hXl, by rw [htn, if_neg (by simp [hn]), List.append_nil], hXt, hdn, by omega, rfl⟩
      clear hJ
      have hKn : K.length < l.length := by omega
      have hlt2 : j < X.length := by omega
      obtain ⟨u, hu⟩ : ∃ u, X[K.length]? = some u := ⟨_, List.getElem?_eq_getElem hKl⟩
      have hKx : (X.map Ct.pv)[K.length]? = some (.agg [.int .i64 u.num, .int .i64 u.it, .int .i64 u.src, .int .i64 u.day, .int .i64 u.valid, .int .i64 u.diff.lo, .int .i64 u.diff.hi]) := by rw [List.getElem?_map, hu]; rfl
      have hst := ctV_set (X := X) (w := K.length) (r := r)
      simp [-getElem?_pos, -List.getElem?_map, deB, laid, hlt, hg, hXl, nblt, nble]
      refine call_lent (as' := [.pv r.pv, .ptr (.par 0) 0]) (B := laid 0 (deB d 0)) (fs := []) (cs := [.ptr (.par 1) 0]) 28 [.par 1] ?_ rfl rfl ?_ ?_ ?_ hC ?_
      · rfl
      · simp [deB, laid]
      · rfl
      · rfl
      rintro r0 B0 ⟨rfl, rfl⟩
      refine ⟨rfl, by simp [deB, laid], ?_⟩
      cases hgv : (fun c : Ct => decide (c.num = d)) r with
      | false =>
        have hround := hset _ rfl hgv
        have hgv' : (decide (r.num = d)) = false := hgv
        simp [-getElem?_pos, -List.getElem?_map, deB, laid, hgv', hw, hw2, hKn, hKx, hst, nblt, nble, setAt]
        refine ⟨_, _, hmeas, Sub.mk ?_ ?_, hround⟩
        all_goals simp [deB, laid, hw, hw2]
      | true =>
        have hround := hgot hgv
        have hgv' : (decide (r.num = d)) = true := hgv
        simp [-getElem?_pos, -List.getElem?_map, deB, laid, hgv', hw]
        refine ⟨_, _, hmeas, Sub.mk ?_ ?_, hround⟩
        all_goals simp [deB, laid, hw, hw2]
    · have he : j = l.length := by omega
      subst he
      rw [List.take_length] at hKe
      clear hJ
      have hK2 : K.length ≤ l.length := by omega
      have hKs : K.length + (l.length - K.length) = l.length := by omega
      have hsp : splice (X.map Ct.pv) K.length (List.replicate (l.length - K.length) (PV.agg [.int .i64 0, .int .i64 0, .int .i64 0, .int .i64 0, .int .i64 0, .int .i64 0, .int .i64 0])) = (K ++ List.replicate (l.length - K.length) ct0).map Ct.pv := by
        unfold splice
        rw [List.length_replicate, hKs, List.drop_eq_nil_of_le (by simp; omega), List.append_nil, ← List.map_take, hXt, List.map_append, List.map_replicate]
        rfl
      simp [-getElem?_pos, -List.getElem?_map, -splice, deB, laid, nblt, nble, hK2, hKs, hXl, hsp]
      rw [← hR, ← hKe]
      exact ⟨rfl, K ++ List.replicate (l.length - K.length) ct0, by simp, by simp [deB, laid]⟩
end
end Go.Proofs.Ytcgdopjmbadonaa
/-! Contracts of layer 2 (chain): Suspects. -/
namespace Go.Proofs.Ytcgdopjmbadonaa
open Go.RowKit
set_option maxRecDepth 10000
set_option linter.unusedSimpArgs false
section
variable {P : Program} {K : AV → AS → Prop} {σ : AS}
/-- A call of plain values, after what is handed in was frozen. -/
theorem call_fz (fz : List Site) {f : Opd} {args : List Opd} {d : Nat} {g : FuncId} {fs xs cs : List PV} {R : AV → List (Site × Box) → Prop} {X : Prop} (h1 : (frzsL fz σ).o f = .pv (.fn g fs cs)) (h2 : (frzsL fz σ).pvs args = some xs)
    (hc : CallsA P g ((fs ++ xs ++ cs).map .pv) [] R) (hK : ∀ r B, R r B → retOk r B ∧ K (r.map (toLoc d)) (((frzsL fz σ).purge d).adds (renB d B))) : callWp P f args d K σ ∨ X :=
  .inl (.inr ⟨fz, g, fs, xs, cs, h1, h2, hc.mono fun r B h => hK r B h⟩)
end
/-- A book without a certificate. -/
def Bk.wo (b : Bk) (n : Int) : Bk := ⟨b.items, b.certs.filter fun c => !decide (c.num = n)⟩
theorem wo_mem {b : Bk} {n : Int} {c : Ct} (h : c ∈ (b.wo n).certs) : c ∈ b.certs := (List.mem_filter.1 h).1
theorem wo_ok {b : Bk} (hb : b.ok) (n : Int) : (b.wo n).ok :=
  ⟨hb.i, Nat.le_trans (List.length_filter_le _ _) hb.c, hb.it, fun x hx => hb.ct x (wo_mem hx), fun x hx y hy e => hb.one x (wo_mem hx) y (wo_mem hy) e, fun x hx y hy e => hb.day x (wo_mem hx) y (wo_mem hy) e⟩
/-- What Suspects answers. -/
def Bk.suspB (b : Bk) (n : Int) : Bool := !(b.wo n).contra
def Bk.suspM (b : Bk) : List Int × Int := if b.fault = 0 then (if b.contra = true then (b.nums.filter b.suspB, 0) else ([], 7)) else ([], b.fault)
attribute [local irreducible] Bk.held Bk.nums Bk.span Bk.contra Bk.suspB
attribute [local simp] AS.exp expG Box.ren AV.map AV.mapL outsOk noRet Site.isRet Box.allS AV.allS AV.allSL retB dropL AS.adds renL outG outOk lentBx inG fnOf lookA List.findIdx?_cons
attribute [local simp] Box.purge Site.isLoc
attribute [local simp] badZ_has badZ_all badZ_purge badZ_map badZ_frz
attribute [local simp] retFz frzL AS.frz AV.frz AV.frzL Box.frz AS.tidy AS.frzC
def suK (b : Bk) (k : Nat) : AS := ⟨[(1, .ptr (.loc 1 0) 0), (6, .vec (.loc 54 0) 1 0 ((b.nums.take k).filter b.suspB).length), (29, .pv (.lst false 1 (b.nums.map intP))), (30, .pv (.int .i64 b.nums.length)), (31, .pv (.int .i64 k))],
  [(.loc 54 0, .arr 3 1 (((b.nums.take k).filter b.suspB).map intP)), (.loc 1 0, .cells b.cells)]⟩
set_option maxHeartbeats 32000000 in
theorem Suspects_c (b : Bk) (hi : b.items.length ≤ 1000) (hc : b.certs.length ≤ 1000) : CallsA Try.prog 41 ([b.pv].map .pv) [] (fun r B => r = .pv (lstE b.suspM) ∧ B = []) := by
  have hr := read_c b hi hc
  refine CallsA.weak2 ?_
  refine calls_of_awpF [.loc 54 0] mixed L41_ok (Nat.le_of_ble_eq_true rfl) ?_
  generalize hR : (fun (r : AV) (B : List (Site × Box)) => ∃ x, r = AV.pv x ∧ B = [] ∧ ∀ m v, RdP m v x → RdP m v (lstE b.suspM)) = R
  simp [-getElem?_pos, L41, Bk.pv, -retB]
  refine call_lent (as' := [.pv b.pv]) (B := []) (fs := []) (cs := []) 14 [] ?_ rfl rfl rfl ?_ ?_ hr ?_
  · rfl
  · rfl
  · rfl
  rintro r0 B0 (⟨h0, rfl, rfl⟩ | ⟨h0, es, hes, rfl, rfl⟩)
  · refine ⟨rfl, by simp, ?_⟩
    have hd : decide (b.fault = 0) = false := by simpa using h0
    simp [-getElem?_pos, -decide_eq_true_eq, -decide_eq_false_iff_not, hd]
    rw [← hR]
    exact ⟨_, rfl, rfl, lstE_wk (by unfold Bk.suspM; rw [if_neg h0])⟩
  have hb : b.ok := Bk.ok_iff.1 h0
  have hlen := nums_len (b := b)
  have hsp := spans_c b hb es hes
  have hH := hEnt_full hb []
  have hS := sEnt_full hb 1000
  have hct := contra_c b hb es (hEnt b [] b.nums.length) (sEnt b b.nums.length) hes hH hS
  refine ⟨rfl, by simp [wkC, badZ_nil], ?_⟩
  simp [-getElem?_pos, -List.getElem?_map, wkC, badZ_nil, -retB]
  refine call_lent (as' := [.ptr (.par 0) 0]) (B := laid 0 (wkB b [] es)) (fs := []) (cs := []) 23 [.loc 14 0, .loc 14 1] ?_ rfl rfl ?_ ?_ ?_ hsp ?_
  · rfl
  · simp [laid, wkB, wkC]
  · rfl
  · rfl
  rintro r0 B0 ⟨rfl, rfl⟩
  refine ⟨rfl, by simp [wkC], ?_⟩
  generalize hEnt b [] b.nums.length = hs at *
  generalize sEnt b b.nums.length = ss at *
  simp [-getElem?_pos, -List.getElem?_map, wkC, -retB]
  refine call_lent (as' := [.ptr (.par 0) 0]) (B := laid 0 (spB b es hs ss)) (fs := []) (cs := []) 24 [.loc 23 0, .loc 23 1, .loc 23 2, .loc 14 0, .loc 14 1] ?_ rfl rfl ?_ ?_ ?_ hct ?_
  · rfl
  · simp [laid, spB, wkC]
  · rfl
  · rfl
  rintro r0 B0 ⟨rfl, rfl⟩
  refine ⟨rfl, by simp [laid, spB, wkC], ?_⟩
  clear hsp hct hr
  cases hcn : b.contra
  · simp [-getElem?_pos, -List.getElem?_map, laid, spB, wkC]
    rw [← hR]
    exact ⟨_, rfl, rfl, lstE_wk (by unfold Bk.suspM; rw [if_pos h0, if_neg (by simp [hcn])])⟩
  have hM : b.suspM = (b.nums.filter b.suspB, 0) := by unfold Bk.suspM; rw [if_pos h0, if_pos hcn]
  rw [hM] at hR
  simp [-getElem?_pos, -List.getElem?_map, laid, spB, wkC, -retB]
  refine awp_loopS (fun m τ => ∃ k : Nat, k ≤ b.nums.length ∧ m = b.nums.length - k ∧ τ = suK b k) ⟨b.nums.length, suK b 0, Sub.trans' (Sub.mk (by simp [suK, AS.vecT]) (by simp [suK, AS.vecT, Bk.cells])) (vecT 54 3 1 6 rfl (by decide)), 0, by omega, rfl, rfl⟩ ?_
  rintro J hJ m τ ⟨k, hk, rfl, rfl⟩
  have hpl : ((b.nums.take k).filter b.suspB).length ≤ 1000 := Nat.le_trans (List.length_filter_le _ _) (by rw [List.length_take]; omega)
  by_cases hlt : k < b.nums.length
  · obtain ⟨n, hn⟩ : ∃ n, b.nums[k]? = some n := ⟨_, List.getElem?_eq_getElem hlt⟩
    have hgn : (b.nums.map intP)[k]? = some (.int .i64 n) := by rw [List.getElem?_map, hn]; rfl
    have hwk := wrapK (k := k) (by omega)
    have hround := hJ _ _ ⟨k + 1, hlt, rfl, rfl⟩
    have hmeas : b.nums.length - (k + 1) < b.nums.length - k := by omega
    have hnext : (b.nums.take (k + 1)).filter b.suspB = (b.nums.take k).filter b.suspB ++ (if b.suspB n = true then [n] else []) := by
      rw [List.take_add_one, hn, List.filter_append]
      congr 1
      simp only [Option.toList, List.filter_cons, List.filter_nil]
    have hne : b.certs ≠ [] := fun e => by
      obtain ⟨c, hc, _⟩ := (mem_nums hb).1 (List.mem_of_getElem? hn)
      rw [e] at hc; cases hc
    have hok := wo_ok hb n
    have hf0 : (b.wo n).fault = 0 := Bk.ok_iff.2 hok
    have hcl := hb.c
    have hr2 := read_c (b.wo n) (by have := hok.i; omega) (by have := hok.c; omega)
    have hclone := cloneT_c b.certs hne (by omega)
    have hdel := delT n b.certs (by omega) (fun _ _ => trivial)
    have hsu : b.suspB n = !(b.wo n).contra := by unfold Bk.suspB; rfl
    have hwp : (b.wo n).pv = .agg [itsP b.items, .lst false 7 ((b.certs.filter fun c => !decide (c.num = n)).map Ct.pv)] := rfl
    unfold suK at hround ⊢
    rw [hnext, hsu] at hround
    clear hJ hnext hsu hR
    generalize (b.nums.take k).filter b.suspB = Y at *
    have hY : (Y.map intP).take Y.length = Y.map intP := List.take_of_length_le (by simp)
    have hY6 : Y.length ≤ 999999 := by omega
    have hfl : (b.certs.filter fun c => !decide (c.num = n)).length ≤ 1000 := Nat.le_trans (List.length_filter_le _ _) hc
    simp [-getElem?_pos, -List.getElem?_map, hlt, hgn, Bk.cells, -retB]
    refine call_lent (as' := [.pv (ctsP b.certs)]) (B := []) (fs := []) (cs := []) 38 [] ?_ rfl rfl rfl ?_ ?_ hclone ?_
    · rfl
    · rfl
    · rfl
    rintro r0 B0 ⟨rfl, rfl⟩
    refine ⟨rfl, by simp, ?_⟩
    simp [-getElem?_pos, -List.getElem?_map, -retB]
    refine call_lent (as' := [.vec (.par 0) 7 0 b.certs.length, .fn 72 [] [.ptr (.par 1) 0]]) (B := laid 0 (.arr 90 7 (b.certs.map Ct.pv) :: deB n 1)) (fs := []) (cs := []) 40 [.loc 38 0, .loc 8 0] ?_ rfl rfl ?_ ?_ ?_ hdel ?_
    · rfl
    · simp [laid, deB]
    · rfl
    · rfl
    rintro r0 B0 ⟨rfl, X, hX, rfl⟩
    simp only at hX
    refine ⟨rfl, by simp [laid, deB], ?_⟩
    have hXm : (X.map Ct.pv).take (b.certs.filter fun c => !decide (c.num = n)).length = (b.certs.filter fun c => !decide (c.num = n)).map Ct.pv := by rw [← List.map_take, hX]
    have hXl : (b.certs.filter fun c => !decide (c.num = n)).length ≤ X.length := by
      have := congrArg List.length hX
      rw [List.length_take] at this; omega
    generalize (b.certs.filter fun c => !decide (c.num = n)) = Z at *
    simp [-getElem?_pos, -List.getElem?_map, laid, deB, -retB]
    refine call_fz [.loc 38 0] (fs := []) (xs := [(b.wo n).pv]) (cs := []) rfl ?_ hr2 ?_
    · simp [frzsL, hXm, hXl, hwp]
    rintro r0 B0 (⟨q0, rfl, rfl⟩ | ⟨q0, es2, hes2, rfl, rfl⟩)
    · exact absurd hf0 q0
    have hsp2 := spans_c (b.wo n) hok es2 hes2
    have hH2 := hEnt_full hok []
    have hS2 := sEnt_full hok 1000
    have hct2 := contra_c (b.wo n) hok es2 (hEnt (b.wo n) [] (b.wo n).nums.length) (sEnt (b.wo n) (b.wo n).nums.length) hes2 hH2 hS2
    generalize b.wo n = b2 at *
    refine ⟨by simp [retOk, wkC, badZ_nil, badZ_all], ?_⟩
    simp [-getElem?_pos, -List.getElem?_map, frzsL, wkC, badZ_nil, renB, toLoc, hXm, hXl, -retB]
    refine call_lent (as' := [.ptr (.par 0) 0]) (B := laid 0 (wkB b2 [] es2)) (fs := []) (cs := []) 48 [.loc 44 0, .loc 44 1] ?_ rfl rfl ?_ ?_ ?_ hsp2 ?_
    · rfl
    · simp [laid, wkB, wkC]
    · rfl
    · rfl
    rintro r0 B0 ⟨rfl, rfl⟩
    refine ⟨rfl, by simp [wkC], ?_⟩
    generalize hEnt b2 [] b2.nums.length = hs2 at *
    generalize sEnt b2 b2.nums.length = ss2 at *
    simp [-getElem?_pos, -List.getElem?_map, wkC, -retB]
    refine call_lent (as' := [.ptr (.par 0) 0]) (B := laid 0 (spB b2 es2 hs2 ss2)) (fs := []) (cs := []) 49 [.loc 48 0, .loc 48 1, .loc 48 2, .loc 44 0, .loc 44 1] ?_ rfl rfl ?_ ?_ ?_ hct2 ?_
    · rfl
    · simp [laid, spB, wkC]
    · rfl
    · rfl
    rintro r0 B0 ⟨rfl, rfl⟩
    refine ⟨rfl, by simp [laid, spB, wkC], ?_⟩
    cases hc2 : b2.contra
    case true =>
      rw [hc2, if_neg (by simp), List.append_nil] at hround
      simp [-getElem?_pos, -List.getElem?_map, laid, spB, wkC, hwk, -retB]
      exact ⟨_, _, hmeas, Sub.mk (by simp) (by simp [Bk.cells]), hround⟩
    case false =>
    rw [hc2, if_pos (by rfl)] at hround
    simp [-getElem?_pos, -List.getElem?_map, laid, spB, wkC, hwk, nble, nblt, hY, hY6, -retB]
    exact ⟨_, _, hmeas, Sub.mk (by simp) (by simp [Bk.cells, intP]), hround⟩
  have he : k = b.nums.length := by omega
  subst he
  clear hJ
  unfold suK
  rw [List.take_length] at hpl ⊢
  generalize b.nums.filter b.suspB = Y at *
  have hY : (Y.map intP).take Y.length = Y.map intP := List.take_of_length_le (by simp)
  simp [-getElem?_pos, -List.getElem?_map, hY, -retB]
  rw [← hR]
  exact ⟨_, rfl, rfl, fun m v h => h⟩
end Go.Proofs.Ytcgdopjmbadonaa
/-! Contracts of layer 2's reference (chain): Get, Without; the law ChainSuspects. -/
namespace Go.Proofs.Ytcgdopjmbadonaa
open Go.RowKit
set_option maxRecDepth 10000
set_option linter.unusedSimpArgs false
section
attribute [local simp] Box.purge Site.isLoc
attribute [local simp] retFz frzL AS.frz AV.frz AV.frzL Box.frz AS.tidy AS.frzC
end
end Go.Proofs.Ytcgdopjmbadonaa
