/- Contracts of the reference (tensileref04): Middle. (Several texts in one.) -/
import Derived.Test.YtpfogpkocdlloaaStC
set_option linter.unusedVariables false
set_option linter.unusedSimpArgs false
/-! Contracts of the reference (tensileref04): Middle. -/
namespace Go.Proofs.Ytpfogpkocdlloaa
open Go.RowKit
attribute [local simp] Box.purge Site.isLoc

set_option maxRecDepth 10000
set_option linter.unusedSimpArgs false

/-- Divided, rounded down. -/
theorem down_eq {n b : Int} (hb : 0 < b) (hn : n < 0) : -(Int.tdiv (b - 1 - n) b) = if Int.tdiv n b * b = n then Int.tdiv n b else Int.tdiv n b - 1 := by
  obtain ⟨m, rfl⟩ : ∃ m : Nat, n = -(m : Int) := ⟨n.natAbs, by omega⟩
  obtain ⟨c, rfl⟩ : ∃ c : Nat, b = (c : Int) := ⟨b.natAbs, by omega⟩
  have hc : 0 < c := by omega
  have e1 : Int.tdiv (-(m : Int)) c = -((m / c : Nat) : Int) := by rw [Int.neg_tdiv, ← Int.ofNat_tdiv]
  have e2 : ((c : Int) - 1 - -(m : Int)) = ((c - 1 + m : Nat) : Int) := by omega
  rw [e1, e2, ← Int.ofNat_tdiv]
  have hdm := Nat.div_add_mod m c
  have hml := Nat.mod_lt m hc
  by_cases hr : m % c = 0
  · have h3 : (c - 1 + m) / c = m / c := by
      rw [Nat.div_eq_iff (by omega)]
      rw [hr, Nat.add_zero, Nat.mul_comm] at hdm
      omega
    have h4 : -((m / c : Nat) : Int) * (c : Int) = -(m : Int) := by
      rw [Int.neg_mul, ← Int.natCast_mul, Nat.mul_comm]
      rw [hr, Nat.add_zero] at hdm
      rw [hdm]
    rw [if_pos h4, h3]
  · have h3 : (c - 1 + m) / c = m / c + 1 := by
      rw [Nat.div_eq_iff (by omega), Nat.add_mul]
      rw [Nat.mul_comm] at hdm
      omega
    have h4 : ¬ -((m / c : Nat) : Int) * (c : Int) = -(m : Int) := by
      rw [Int.neg_mul, ← Int.natCast_mul, Nat.mul_comm]
      omega
    rw [if_neg h4, h3]
    omega
theorem down_c (n b : Int) (hb : 0 < b ∧ b ≤ 1000) (hn : -1000000000 ≤ n ∧ n ≤ 1000000000) : Gives Try.prog 50 [.int .i64 n, .int .i64 b] (.int .i64 (if n < 0 then -(Int.tdiv (b - 1 - n) b) else Int.tdiv n b)) := by
  refine calls_of_awpS mixed L50_ok (Nat.le_of_ble_eq_true rfl) ?_
  have hb0 : ¬ b = 0 := by omega
  have hq := tdiv_bd (a := n) (b := b) (X := 1000000000) hn
  have w1 : IntKind.i64.wrap (n.tdiv b) = n.tdiv b := wrap64 (by omega)
  have w3 : IntKind.i64.wrap (n.tdiv b - 1) = n.tdiv b - 1 := wrap64 (by omega)
  cases h1 : decide (n < 0)
  · have h1' : ¬ n < 0 := by simpa using h1
    rw [if_neg h1']
    simp [-getElem?_pos, -decide_eq_true_eq, -decide_eq_false_iff_not, L50, hb0, w1, h1]
  · have h1' : n < 0 := by simpa using h1
    have hmul : -2000000000 ≤ n.tdiv b * b ∧ n.tdiv b * b ≤ 2000000000 := by
      have := Int.mul_tdiv_add_tmod n b
      have h2 := Int.tmod_lt_of_pos n hb.1
      have h3 : -b < n.tmod b := by
        have := Int.lt_tmod_of_pos n hb.1
        exact this
      rw [Int.mul_comm] at this
      omega
    have w2 : IntKind.i64.wrap (n.tdiv b * b) = n.tdiv b * b := wrap64 (by omega)
    rw [if_pos h1', down_eq hb.1 h1']
    by_cases h2 : n.tdiv b * b = n
    · rw [h2] at w2
      simp [-getElem?_pos, -decide_eq_true_eq, -decide_eq_false_iff_not, L50, hb0, w1, h1, w2, h2]
    · simp [-getElem?_pos, -decide_eq_true_eq, -decide_eq_false_iff_not, L50, hb0, w1, h1, w2, h2, w3]
end Go.Proofs.Ytpfogpkocdlloaa

/-! Contracts of the reference (tensileref04): the middle of a history. -/
namespace Go.Proofs.Ytpfogpkocdlloaa
open Go.RowKit
attribute [local simp] Box.purge Site.isLoc

set_option maxRecDepth 10000
set_option linter.unusedSimpArgs false

/-- As the reference adds up. -/
def Mid.addR (M : Mid) (d l : Int) : Mid := if d = 0 then { M with a0 := M.a0 + 1, b0 := M.b0 + (2 * l - 1) } else if d = 1 then { M with a1 := M.a1 + 1, b1 := M.b1 + (2 * l - 1 + 2) } else { M with a2 := M.a2 + 1, b2 := M.b2 + (2 * l - 1 + 4) }
def midR : List Int → List Int → Mid → Mid
  | d :: ds, l :: ls, M => midR ds ls (M.addR d l)
  | _, _, M => M
theorem midR_succ : ∀ {ds ls : List Int} {k : Nat} {d l : Int} {M : Mid}, ds[k]? = some d → ls[k]? = some l → midR (ds.take (k + 1)) (ls.take (k + 1)) M = (midR (ds.take k) (ls.take k) M).addR d l
  | x :: ds, y :: ls, 0, d, l, M, h1, h2 => by
    simp at h1 h2; subst h1 h2; simp [midR]
  | x :: ds, y :: ls, k + 1, d, l, M, h1, h2 => by
    simp only [List.take_succ_cons, midR]
    exact midR_succ (by simpa using h1) (by simpa using h2)
  | [], _, k, d, l, M, h1, h2 => by simp at h1
  | _ :: _, [], k, d, l, M, h1, h2 => by simp at h2
def Mid.like (M N : Mid) : Prop := M.a0 = N.a0 ∧ M.a1 = N.a1 ∧ M.b0 = N.b0 ∧ M.b1 = N.b1
theorem midR_like : ∀ (ds ls : List Int) (M N : Mid), M.like N → (midR ds ls M).like (midOf ds ls N)
  | [], _, _, _, h => h
  | _ :: _, [], _, _, h => h
  | d :: ds, l :: ls, M, N, h => by
    refine midR_like ds ls _ _ ?_
    obtain ⟨h1, h2, h3, h4⟩ := h
    unfold Mid.addR Mid.add
    split
    · refine ⟨?_, ?_, ?_, ?_⟩ <;> simp [h1, h2, h3, h4]; omega
    · split
      · refine ⟨?_, ?_, ?_, ?_⟩ <;> simp [h1, h2, h3, h4]; omega
      · exact ⟨h1, h2, h3, h4⟩
theorem Mid.mid_like {M N : Mid} (h : M.like N) : M.mid = N.mid := by
  obtain ⟨h1, h2, h3, h4⟩ := h
  unfold Mid.mid
  rw [h1, h2, h3, h4]
theorem Mid.small_addR {M : Mid} {k : Nat} {d l : Int} (h : M.small k) (hl : 0 ≤ l ∧ l ≤ 990) : (M.addR d l).small (k + 1) := by
  unfold Mid.small at *
  unfold Mid.addR
  split
  · simp only; omega
  · split
    · simp only; omega
    · simp only; omega
theorem midR_small {ds ls : List Int} (hlen : ds.length = ls.length) (hl : ∀ x ∈ ls, 0 ≤ x ∧ x ≤ 990) : ∀ k, k ≤ ds.length → (midR (ds.take k) (ls.take k) Mid.z).small k := by
  intro k
  induction k with
  | zero => intro _; simp [midR, Mid.small, Mid.z]
  | succ k ih =>
    intro hk
    have h1 : ds[k]? = some (ds[k]'(by omega)) := List.getElem?_eq_getElem _
    have h2 : ls[k]? = some (ls[k]'(by omega)) := List.getElem?_eq_getElem _
    rw [midR_succ h1 h2]
    exact Mid.small_addR (ih (by omega)) (hl _ (List.getElem_mem _))
set_option maxHeartbeats 8000000 in
theorem rmid_c (s : St) (hc : s.check = 0) (l : List Int) (hlen : l.length = s.runs.length) (hb : ∀ x ∈ l, 0 ≤ x ∧ x ≤ 2) (hlv : ∀ x ∈ s.lev s.start l, 0 ≤ x ∧ x ≤ 990) :
    Gives Try.prog 22 [s.pv, u8sP l] (match (midR l (s.lev s.start l) Mid.z).mid with
      | none => .tup [.int .i64 0, .bool false]
      | some n => .tup [.int .i64 n, .bool true]) := by
  obtain ⟨q1, q2, q3, q4⟩ := St.check0 hc
  refine calls_of_awpS mixed L22_ok (Nat.le_of_ble_eq_true rfl) ?_
  simp [-getElem?_pos, L22, St.pv, u8sP]
  refine .inl (call_pv [] (fs := []) (xs := [.int .i64 s.levels, .int .i64 s.start, u8sP l]) (cs := []) rfl rfl (levels_c s (by omega) (by omega) l (by omega)) ?_)
  simp [-getElem?_pos, frzsL]
  generalize hE : s.lev s.start l = E at *
  have hEl : E.length = l.length := by rw [← hE, St.lev_len]
  refine awp_loopS (fun n τ => ∃ (k : Nat) (M : Mid), k ≤ l.length ∧ n = l.length - k ∧ M = midR (l.take k) (E.take k) Mid.z ∧ τ = ⟨[(1, .pv (u8sP l)), (2, .ptr (.loc 2 0) 0), (6, .pv (intsP E)), (7, .ptr (.loc 7 0) 0), (8, .ptr (.loc 8 0) 0), (9, .pv (.int .i64 k))],
      [(.loc 8 0, .cells [.pv (.int .i64 M.b0), .pv (.int .i64 M.b1), .pv (.int .i64 M.b2)]), (.loc 7 0, .cells [.pv (.int .i64 M.a0), .pv (.int .i64 M.a1), .pv (.int .i64 M.a2)]), (.loc 2 0, .cells s.cells)]⟩)
    ⟨l.length, _, Sub.mk (by simp [u8sP]) (by simp [midR, Mid.z, St.cells]), 0, Mid.z, by omega, rfl, rfl, rfl⟩ ?_
  rintro J hJl n τ ⟨k, M, hk, rfl, hM, rfl⟩
  have hsm := midR_small (ds := l) (ls := E) (by omega) hlv k hk
  rw [← hM] at hsm
  obtain ⟨a0, a1, a2, b0, b1, b2⟩ := M
  unfold Mid.small at hsm
  simp only at hsm
  by_cases hlt : k < l.length
  · have hlk2 : k < E.length := by omega
    have hdk : l[k]? = some l[k] := List.getElem?_eq_getElem hlt
    have hlk : E[k]? = some E[k] := List.getElem?_eq_getElem hlk2
    generalize l[k] = x at hdk
    generalize E[k] = y at hlk
    have hmem := hb x (List.mem_of_getElem? hdk)
    have hlm := hlv _ (List.mem_of_getElem? hlk)
    have hnext := midR_succ (M := Mid.z) hdk hlk
    rw [← hM] at hnext
    have hg1 : (l.map u8P)[k]? = some (.int .u8 x) := by rw [List.getElem?_map, hdk]; rfl
    have hg2 : (E.map intP)[k]? = some (.int .i64 y) := by rw [List.getElem?_map, hlk]; rfl
    have hw : IntKind.i64.wrap ((k : Int) + 1) = ((k + 1 : Nat) : Int) := by rw [wrap64 (by omega)]; omega
    have hround := hJl _ _ ⟨k + 1, _, hlt, rfl, rfl, rfl⟩
    rw [hnext] at hround
    have : x = 0 ∨ x = 1 ∨ x = 2 := by omega
    have w2 : IntKind.i64.wrap (2 * y) = 2 * y := wrap64 (by omega)
    have w3 : IntKind.i64.wrap (2 * y - 1) = 2 * y - 1 := wrap64 (by omega)
    rcases this with rfl | rfl | rfl
    · have w1 : IntKind.i64.wrap (a0 + 1) = a0 + 1 := wrap64 (by omega)
      have w0 : IntKind.i64.wrap 0 = 0 := rfl
      have w5 : IntKind.i64.wrap (b0 + (2 * y - 1)) = b0 + (2 * y - 1) := wrap64 (by omega)
      simp [-getElem?_pos, -List.getElem?_map, u8sP, intsP_eq, hlt, hlk2, nblt, hg1, hg2, w0, w1, w2, w3, w5, hw]
      exact ⟨_, _, (by omega : l.length - (k + 1) < l.length - k), Sub.mk (by simp [u8sP, intsP_eq]) (by simp [Mid.addR]), hround⟩
    · have w1 : IntKind.i64.wrap (a1 + 1) = a1 + 1 := wrap64 (by omega)
      have w0 : IntKind.i64.wrap 1 = 1 := rfl
      have w01 : IntKind.i64.wrap 2 = 2 := rfl
      have w4 : IntKind.i64.wrap (2 * y - 1 + 2) = 2 * y - 1 + 2 := wrap64 (by omega)
      have w5 : IntKind.i64.wrap (b1 + (2 * y - 1 + 2)) = b1 + (2 * y - 1 + 2) := wrap64 (by omega)
      simp [-getElem?_pos, -List.getElem?_map, u8sP, intsP_eq, hlt, hlk2, nblt, hg1, hg2, w0, w01, w1, w2, w3, w4, w5, hw]
      exact ⟨_, _, (by omega : l.length - (k + 1) < l.length - k), Sub.mk (by simp [u8sP, intsP_eq]) (by simp [Mid.addR]), hround⟩
    · have w1 : IntKind.i64.wrap (a2 + 1) = a2 + 1 := wrap64 (by omega)
      have w0 : IntKind.i64.wrap 2 = 2 := rfl
      have w01 : IntKind.i64.wrap 4 = 4 := rfl
      have w4 : IntKind.i64.wrap (2 * y - 1 + 4) = 2 * y - 1 + 4 := wrap64 (by omega)
      have w5 : IntKind.i64.wrap (b2 + (2 * y - 1 + 4)) = b2 + (2 * y - 1 + 4) := wrap64 (by omega)
      simp [-getElem?_pos, -List.getElem?_map, u8sP, intsP_eq, hlt, hlk2, nblt, hg1, hg2, w0, w01, w1, w2, w3, w4, w5, hw]
      exact ⟨_, _, (by omega : l.length - (k + 1) < l.length - k), Sub.mk (by simp [u8sP, intsP_eq]) (by simp [Mid.addR]), hround⟩
  · have he : k = l.length := by omega
    subst he
    rw [List.take_length, List.take_of_length_le (by omega)] at hM
    rw [← hM]
    cases hc2 : decide (a1 < a0)
    · have hc' : ¬ a1 < a0 := by simpa using hc2
      cases hz : decide (a0 = 0)
      · have hz' : ¬ a0 = 0 := by simpa using hz
        have w1 : IntKind.i64.wrap (500 * b0) = 500 * b0 := wrap64 (by omega)
        have hd := down_c (500 * b0) a0 (by omega) (by omega)
        simp [-getElem?_pos, -decide_eq_true_eq, -decide_eq_false_iff_not, u8sP, nblt, hc2, hz, w1, hz']
        refine call_gives (k := 0) (fs := []) (cs := []) rfl rfl hd rfl ?_
        simp [-getElem?_pos, Mid.mid, hc', hz']
        split <;> rfl
      · have hz' : a0 = 0 := by simpa using hz
        simp [-getElem?_pos, -decide_eq_true_eq, -decide_eq_false_iff_not, u8sP, nblt, hc2, hz]
        unfold Mid.mid
        dsimp only
        rw [if_neg hc', if_pos hz']
    · have hc' : a1 < a0 := by simpa using hc2
      cases hz : decide (a1 = 0)
      · have hz' : ¬ a1 = 0 := by simpa using hz
        have w1 : IntKind.i64.wrap (500 * b1) = 500 * b1 := wrap64 (by omega)
        have hd := down_c (500 * b1) a1 (by omega) (by omega)
        simp [-getElem?_pos, -decide_eq_true_eq, -decide_eq_false_iff_not, u8sP, nblt, hc2, hz, w1, hz']
        refine call_gives (k := 0) (fs := []) (cs := []) rfl rfl hd rfl ?_
        simp [-getElem?_pos, Mid.mid, hc', hz']
        split <;> rfl
      · have hz' : a1 = 0 := by simpa using hz
        simp [-getElem?_pos, -decide_eq_true_eq, -decide_eq_false_iff_not, u8sP, nblt, hc2, hz]
        unfold Mid.mid
        dsimp only
        rw [if_pos hc', if_pos hz']
end Go.Proofs.Ytpfogpkocdlloaa

/-! The statement StairMiddles answers true. -/
namespace Go.Proofs.Ytpfogpkocdlloaa
open Go.RowKit
attribute [local simp] Box.purge Site.isLoc

set_option maxRecDepth 10000
set_option linter.unusedSimpArgs false

theorem St.next8 {s : St} (hs : 1 ≤ s.levels) {v : Int} (hv : 0 ≤ v ∧ v ≤ s.levels - 1) (k : Int) : 0 ≤ s.next v k ∧ s.next v k ≤ s.levels - 1 := by
  unfold St.next
  split <;> omega
theorem St.paths8 {s : St} (hs : 1 ≤ s.levels) : ∀ (rest : List Rn) (v : Int) (p : List Int × List Int), 0 ≤ v ∧ v ≤ s.levels - 1 → p ∈ s.paths rest v → p.2 = s.lev v p.1 ∧ ∀ y ∈ p.2, 0 ≤ y ∧ y ≤ s.levels - 1
  | [], v, p, _, h => by
    simp [St.paths] at h
    subst h
    exact ⟨rfl, fun y hy => by simp at hy⟩
  | r :: rest, v, p, hv, h => by
    unfold St.paths at h
    obtain ⟨k, hk, h⟩ := List.mem_flatMap.1 h
    split at h
    · obtain ⟨q, hq, rfl⟩ := List.mem_map.1 h
      obtain ⟨h1, h2⟩ := St.paths8 hs rest (s.next v k) q (St.next8 hs hv k) hq
      refine ⟨by simp only [St.lev]; rw [← h1], fun y hy => ?_⟩
      rcases List.mem_cons.1 hy with rfl | hy
      · exact hv
      · exact h2 y hy
    · cases h
theorem St.all8 {s : St} (hc : s.check = 0) {p : List Int × List Int} (hp : p ∈ s.all) : p.2 = s.lev s.start p.1 ∧ ∀ y ∈ p.2, 0 ≤ y ∧ y ≤ s.levels - 1 := by
  obtain ⟨q1, q2, q3, _⟩ := St.check0 hc
  exact St.paths8 q1.1 s.runs s.start p q2 hp
theorem St.rmid_all {s : St} (hc : s.check = 0) {p : List Int × List Int} (hp : p ∈ s.all) : Gives Try.prog 22 [s.pv, u8sP p.1] (match midP p with
      | none => .tup [.int .i64 0, .bool false]
      | some n => .tup [.int .i64 n, .bool true]) := by
  obtain ⟨h1, h2, h3, h4⟩ := St.all_ok hc hp
  obtain ⟨h5, h6⟩ := St.all8 hc hp
  obtain ⟨q1, q2, q3, _⟩ := St.check0 hc
  have h := rmid_c s hc p.1 h1 h3 (fun x hx => by rw [← h5] at hx; have := h6 x hx; omega)
  have e : (midR p.1 (s.lev s.start p.1) Mid.z).mid = midP p := by
    unfold midP
    rw [← h5]
    exact Mid.mid_like (midR_like _ _ _ _ ⟨rfl, rfl, rfl, rfl⟩)
  rw [e] at h
  exact h
theorem MidS.unfound : ∀ (l : List (Option Int)) (c : MidS), (c.found = false → c.lo = 0 ∧ c.hi = 0) → (l.foldl MidS.step c).found = false → (l.foldl MidS.step c).lo = 0 ∧ (l.foldl MidS.step c).hi = 0
  | [], c, h, hf => h hf
  | o :: l, c, h, hf => by
    refine MidS.unfound l _ ?_ hf
    cases o with
    | none => exact h
    | some n =>
      unfold MidS.step
      dsimp only
      split
      · intro h; cases h
      · intro h; cases h
def rhP (s : St) : PV := .lst false 1 ((s.all.map (·.1)).map u8sP)
set_option maxHeartbeats 16000000 in
theorem middles_law (s : St) : Gives Try.prog 3 [s.pv] (.bool true) := by
  refine calls_of_awpS mixed L3_ok (Nat.le_of_ble_eq_true rfl) ?_
  simp [-getElem?_pos, L3, St.pv]
  refine call_gives (k := 0) (fs := []) (xs := [s.pv]) (cs := []) rfl rfl (thin_c s) rfl ?_
  by_cases hn : s.runs.length ≤ 20
  · have hn' : decide ((s.runs.length : Int) ≤ 20) = true := by simp; omega
    simp [-getElem?_pos, -decide_eq_true_eq, -decide_eq_false_iff_not, hn']
    refine .inl (call_pv [] (fs := []) (xs := [s.pv]) (cs := []) rfl rfl (stairs_c s (by omega)) ?_)
    simp [-getElem?_pos, frzsL]
    refine call_gives (k := 0) (fs := []) (xs := [s.pv]) (cs := []) rfl rfl (middle_c s (by omega)) rfl ?_
    simp [-getElem?_pos, rangeP]
    refine call_gives (k := 0) (fs := []) (xs := [s.pv]) (cs := []) rfl rfl (askedL_c s (by omega)) rfl ?_
    by_cases hpo : s.possible = 0
    · have hc := St.possible0 hpo
      obtain ⟨q1, q2, q3, _⟩ := St.check0 hc
      have hlen : s.all.length ≤ 4782969 := by have := St.items_len q3; rw [St.items_all, List.length_map] at this; exact this
      simp [-getElem?_pos, hpo]
      refine .inl (call_pv [] (fs := []) (xs := [s.pv, .emp (some true)]) (cs := []) rfl rfl (rhist_nil s hc) ?_)
      simp only [frzsL]
      simp [-getElem?_pos, -List.map_map]
      refine awp_loopS (fun n τ => ∃ (k : Nat) (c : MidS), k ≤ s.all.length ∧ n = s.all.length - k ∧ c = ((s.all.take k).map midP).foldl MidS.step ⟨0, 0, false⟩ ∧
          τ = ⟨[(1, .ptr (.loc 1 0) 0), (3, .ptr (.loc 3 0) 0), (4, .pv (.int .i64 s.middle.2)), (5, .pv (.int .i64 (if c.found = true then 0 else 7))), (6, .ptr (.loc 6 0) 0), (7, .pv (rhP s)), (8, .pv (.int .i64 k))],
            [(.loc 6 0, .cells [.pv (.int .i64 c.lo), .pv (.int .i64 c.hi)]), (.loc 3 0, .cells [.pv (.int .i64 s.middle.1.1), .pv (.int .i64 s.middle.1.2)]), (.loc 1 0, .cells s.cells)]⟩)
        ⟨s.all.length, _, Sub.mk (by simp [rhP]) (by simp [St.cells]), 0, ⟨0, 0, false⟩, by omega, rfl, rfl, rfl⟩ ?_
      rintro J hJ n τ ⟨k, c, hk, rfl, hcc, rfl⟩
      by_cases hlt : k < s.all.length
      · have hx : s.all[k]? = some s.all[k] := List.getElem?_eq_getElem hlt
        have hmem : s.all[k] ∈ s.all := List.getElem_mem hlt
        have hts : s.all.take (k + 1) = s.all.take k ++ [s.all[k]] := by rw [List.take_add_one, hx]; rfl
        generalize s.all[k] = p at hx hmem hts
        have hr := St.rmid_all hc hmem
        have hw : IntKind.i64.wrap ((k : Int) + 1) = ((k + 1 : Nat) : Int) := by rw [wrap64 (by omega)]; omega
        have hg : ((s.all.map (·.1)).map u8sP)[k]? = some (u8sP p.1) := by rw [List.getElem?_map, List.getElem?_map, hx]; rfl
        have hround := hJ _ _ ⟨k + 1, c.step (midP p), hlt, rfl, by rw [hts, List.map_append, List.foldl_append, ← hcc]; rfl, rfl⟩
        obtain ⟨lo, hi, f⟩ := c
        cases hm : midP p with
        | none =>
          rw [hm] at hr hround
          have hst : MidS.step ⟨lo, hi, f⟩ none = ⟨lo, hi, f⟩ := rfl
          rw [hst] at hround
          simp [-getElem?_pos, -List.getElem?_map, -List.map_map, rhP, St.cells, hlt, nblt, hg, u8sP, PV.cells]
          refine call_gives (k := 0) (fs := []) (xs := [s.pv, u8sP p.1]) (cs := []) rfl rfl hr rfl ?_
          simp [-getElem?_pos, hw]
          exact ⟨_, _, (by omega : s.all.length - (k + 1) < s.all.length - k), Sub.mk (by simp [rhP]) (by simp [St.cells]), hround⟩
        | some m =>
          rw [hm] at hr hround
          simp [-getElem?_pos, -List.getElem?_map, -List.map_map, rhP, St.cells, hlt, nblt, hg, u8sP, PV.cells]
          refine call_gives (k := 0) (fs := []) (xs := [s.pv, u8sP p.1]) (cs := []) rfl rfl hr rfl ?_
          cases f with
          | false =>
            have hst : MidS.step ⟨lo, hi, false⟩ (some m) = ⟨m, m, true⟩ := rfl
            rw [hst] at hround
            simp [-getElem?_pos, hw]
            exact ⟨_, _, (by omega : s.all.length - (k + 1) < s.all.length - k), Sub.mk (by simp [rhP]) (by simp [St.cells]), hround⟩
          | true =>
            have hst : MidS.step ⟨lo, hi, true⟩ (some m) = ⟨if m < lo then m else lo, if m > hi then m else hi, true⟩ := by
              simp only [MidS.step]
              congr 1
              · split <;> omega
              · split <;> omega
            rw [hst] at hround
            simp [-getElem?_pos, hw]
            exact ⟨_, _, (by omega : s.all.length - (k + 1) < s.all.length - k), Sub.mk (by simp [rhP]) (by simp [St.cells]), hround⟩
      · have he : k = s.all.length := by omega
        subst he
        rw [List.take_length] at hcc
        have hcc' : c = s.midS := hcc
        have hun := MidS.unfound (s.all.map midP) ⟨0, 0, false⟩ (fun _ => ⟨rfl, rfl⟩)
        have hfold : (s.all.map midP).foldl MidS.step ⟨0, 0, false⟩ = s.midS := rfl
        rw [hfold, ← hcc'] at hun
        have hmid : s.middle = if c.found = true then ((c.lo, c.hi), 0) else ((0, 0), 7) := by unfold St.middle; rw [if_pos hpo, hcc']
        cases hf : c.found with
        | true =>
          rw [hf] at hmid
          simp at hmid
          simp [-getElem?_pos, -List.map_map, rhP, St.cells, hf, hmid]
          refine call_gives (k := 0) (fs := []) (xs := []) (cs := []) rfl rfl awake_c rfl ?_
          simp [-getElem?_pos]
        | false =>
          rw [hf] at hmid
          simp at hmid
          obtain ⟨e1, e2⟩ := hun hf
          simp [-getElem?_pos, -List.map_map, rhP, St.cells, hf, hmid, e1, e2]
          refine call_gives (k := 0) (fs := []) (xs := []) (cs := []) rfl rfl awake_c rfl ?_
          simp [-getElem?_pos]
    · have hmid : s.middle = ((0, 0), s.possible) := by unfold St.middle; rw [if_neg hpo]
      simp [-getElem?_pos, hpo, hmid]
      refine call_gives (k := 0) (fs := []) (xs := []) (cs := []) rfl rfl awake_c rfl ?_
      simp [-getElem?_pos]
  · have hn' : decide ((s.runs.length : Int) ≤ 20) = false := by simp; omega
    simp [-getElem?_pos, -decide_eq_true_eq, -decide_eq_false_iff_not, hn']
    refine call_gives (k := 0) (fs := []) (xs := []) (cs := []) rfl rfl awake_c rfl ?_
    simp [-getElem?_pos]
end Go.Proofs.Ytpfogpkocdlloaa

/-! Plain laws of layer 4 (stair): lists in rising order; least and greatest ends; what is looser has more histories. -/
namespace Go.Proofs.Ytpfogpkocdlloaa
open Go.RowKit

/-! ### Rising order -/
theorem sorted_le_iff : ∀ (L : List Int) (k : Nat) (y x : Int), L.Pairwise (· ≤ ·) → L[k]? = some y → (y ≤ x ↔ k < L.countP fun z => decide (z ≤ x))
  | [], k, y, x, _, h => by simp at h
  | a :: L, 0, y, x, hs, h => by
    simp at h; subst h
    constructor
    · intro h1
      rw [List.countP_cons]
      simp [h1]
    · intro h1
      rcases Int.lt_or_le x a with h2 | h2
      · exfalso
        have h0 : (a :: L).countP (fun z => decide (z ≤ x)) = 0 := by
          rw [List.countP_eq_zero]
          intro z hz
          rcases List.mem_cons.1 hz with rfl | hz
          · simp; omega
          · have := (List.pairwise_cons.1 hs).1 z hz
            simp; omega
        omega
      · exact h2
  | a :: L, k + 1, y, x, hs, h => by
    have hL := (List.pairwise_cons.1 hs).2
    have h' : L[k]? = some y := by simpa using h
    have ih := sorted_le_iff L k y x hL h'
    have hay := (List.pairwise_cons.1 hs).1 y (List.mem_of_getElem? h')
    rw [List.countP_cons, ih]
    constructor
    · intro h1
      have hy : y ≤ x := ih.2 h1
      have : a ≤ x := by omega
      simp [this]; omega
    · intro h1
      by_cases ha : a ≤ x
      · simp [ha] at h1; omega
      · exfalso
        have h0 : L.countP (fun z => decide (z ≤ x)) = 0 := by
          rw [List.countP_eq_zero]
          intro z hz
          have := (List.pairwise_cons.1 hs).1 z hz
          simp; omega
        simp [ha] at h1; omega
theorem countP_mono : ∀ {l l' : List Int} (x : Int), l.length = l'.length → (∀ (j : Nat) (a b : Int), l[j]? = some a → l'[j]? = some b → a ≤ b) → l'.countP (fun z => decide (z ≤ x)) ≤ l.countP (fun z => decide (z ≤ x))
  | [], [], x, _, _ => Nat.le_refl _
  | [], _ :: _, x, h, _ => by simp at h
  | _ :: _, [], x, h, _ => by simp at h
  | a :: l, b :: l', x, h, hle => by
    have ih := countP_mono (l := l) (l' := l') x (by simpa using h) (fun j a b h1 h2 => hle (j + 1) a b (by simpa using h1) (by simpa using h2))
    have h0 := hle 0 a b rfl rfl
    rw [List.countP_cons, List.countP_cons]
    by_cases hb : b ≤ x
    · have ha : a ≤ x := by omega
      simp [ha, hb]; exact ih
    · simp [hb]; omega
theorem sortI_mono {l l' : List Int} (hl : l.length = l'.length) (hle : ∀ (j : Nat) (a b : Int), l[j]? = some a → l'[j]? = some b → a ≤ b) {k : Nat} {a b : Int} (ha : (sortI l)[k]? = some a) (hb : (sortI l')[k]? = some b) : a ≤ b := by
  rw [sorted_le_iff _ k a b (sortI_sorted l) ha, (sortI_perm l).countP_eq]
  have h1 := (sorted_le_iff _ k b b (sortI_sorted l') hb).1 (Int.le_refl b)
  rw [(sortI_perm l').countP_eq] at h1
  exact Nat.lt_of_lt_of_le h1 (countP_mono b hl hle)
theorem sortI_step {l : List Int} {k : Nat} {a b : Int} (ha : (sortI l)[k]? = some a) (hb : (sortI l)[k + 1]? = some b) : a ≤ b := by
  have hs := sortI_sorted l
  obtain ⟨h1, e1⟩ := List.getElem?_eq_some_iff.1 ha
  obtain ⟨h2, e2⟩ := List.getElem?_eq_some_iff.1 hb
  have := List.pairwise_iff_getElem.1 hs k (k + 1) h1 h2 (by omega)
  rw [e1, e2] at this
  exact this
/-! ### The ends of a rank's span -/
theorem EndS.fold_false {s : St} {rank : Nat} : ∀ (l : List (List Int × List Int)) (c : EndS) (P : Int → Prop), (∀ p ∈ l, P (s.rk rank false p)) → (c.best.isSome = true → P c.lim) → (l ≠ [] ∨ c.best.isSome = true) →
    P (l.foldl (fun c p => c.step false (s.rk rank false p) p) c).lim ∧ (∀ p ∈ l, (l.foldl (fun c p => c.step false (s.rk rank false p) p) c).lim ≤ s.rk rank false p) ∧ (c.best.isSome = true → (l.foldl (fun c p => c.step false (s.rk rank false p) p) c).lim ≤ c.lim)
  | [], c, P, h1, h2, h3 => by
    rcases h3 with h3 | h3
    · exact absurd rfl h3
    · exact ⟨h2 h3, fun p hp => by simp at hp, fun _ => Int.le_refl _⟩
  | p :: l, c, P, h1, h2, h3 => by
    rw [List.foldl_cons]
    obtain ⟨best, lim⟩ := c
    have h0 := h1 p (by simp)
    cases best with
    | none =>
      have e : EndS.step false ⟨none, lim⟩ (s.rk rank false p) p = ⟨some p, s.rk rank false p⟩ := rfl
      rw [e]
      obtain ⟨k1, k2, k3⟩ := EndS.fold_false l ⟨some p, s.rk rank false p⟩ P (fun q hq => h1 q (by simp [hq])) (fun _ => h0) (.inr rfl)
      refine ⟨k1, fun q hq => ?_, fun h => by cases h⟩
      rcases List.mem_cons.1 hq with rfl | hq
      · exact k3 rfl
      · exact k2 q hq
    | some b =>
      by_cases hlt : s.rk rank false p < lim
      · have e : EndS.step false ⟨some b, lim⟩ (s.rk rank false p) p = ⟨some p, s.rk rank false p⟩ := by simp only [EndS.step]; rw [if_pos hlt]
        rw [e]
        obtain ⟨k1, k2, k3⟩ := EndS.fold_false l ⟨some p, s.rk rank false p⟩ P (fun q hq => h1 q (by simp [hq])) (fun _ => h0) (.inr rfl)
        have k3 := k3 rfl
        simp only at k3
        refine ⟨k1, fun q hq => ?_, fun _ => ?_⟩
        · rcases List.mem_cons.1 hq with rfl | hq
          · exact k3
          · exact k2 q hq
        · show _ ≤ lim
          omega
      · have e : EndS.step false ⟨some b, lim⟩ (s.rk rank false p) p = ⟨some b, lim⟩ := by simp only [EndS.step]; rw [if_neg hlt]
        rw [e]
        obtain ⟨k1, k2, k3⟩ := EndS.fold_false l ⟨some b, lim⟩ P (fun q hq => h1 q (by simp [hq])) (fun _ => h2 rfl) (.inr rfl)
        have k3 := k3 rfl
        simp only at k3
        refine ⟨k1, fun q hq => ?_, fun _ => k3⟩
        rcases List.mem_cons.1 hq with rfl | hq
        · omega
        · exact k2 q hq
theorem EndS.fold_true {s : St} {rank : Nat} : ∀ (l : List (List Int × List Int)) (c : EndS) (P : Int → Prop), (∀ p ∈ l, P (s.rk rank true p)) → (c.best.isSome = true → P c.lim) → (l ≠ [] ∨ c.best.isSome = true) →
    P (l.foldl (fun c p => c.step true (s.rk rank true p) p) c).lim ∧ (∀ p ∈ l, s.rk rank true p ≤ (l.foldl (fun c p => c.step true (s.rk rank true p) p) c).lim) ∧ (c.best.isSome = true → c.lim ≤ (l.foldl (fun c p => c.step true (s.rk rank true p) p) c).lim)
  | [], c, P, h1, h2, h3 => by
    rcases h3 with h3 | h3
    · exact absurd rfl h3
    · exact ⟨h2 h3, fun p hp => by simp at hp, fun _ => Int.le_refl _⟩
  | p :: l, c, P, h1, h2, h3 => by
    rw [List.foldl_cons]
    obtain ⟨best, lim⟩ := c
    have h0 := h1 p (by simp)
    cases best with
    | none =>
      have e : EndS.step true ⟨none, lim⟩ (s.rk rank true p) p = ⟨some p, s.rk rank true p⟩ := rfl
      rw [e]
      obtain ⟨k1, k2, k3⟩ := EndS.fold_true l ⟨some p, s.rk rank true p⟩ P (fun q hq => h1 q (by simp [hq])) (fun _ => h0) (.inr rfl)
      refine ⟨k1, fun q hq => ?_, fun h => by cases h⟩
      rcases List.mem_cons.1 hq with rfl | hq
      · exact k3 rfl
      · exact k2 q hq
    | some b =>
      by_cases hlt : s.rk rank true p > lim
      · have e : EndS.step true ⟨some b, lim⟩ (s.rk rank true p) p = ⟨some p, s.rk rank true p⟩ := by simp only [EndS.step]; rw [if_pos hlt]
        rw [e]
        obtain ⟨k1, k2, k3⟩ := EndS.fold_true l ⟨some p, s.rk rank true p⟩ P (fun q hq => h1 q (by simp [hq])) (fun _ => h0) (.inr rfl)
        have k3 := k3 rfl
        simp only at k3
        refine ⟨k1, fun q hq => ?_, fun _ => ?_⟩
        · rcases List.mem_cons.1 hq with rfl | hq
          · exact k3
          · exact k2 q hq
        · show lim ≤ _
          omega
      · have e : EndS.step true ⟨some b, lim⟩ (s.rk rank true p) p = ⟨some b, lim⟩ := by simp only [EndS.step]; rw [if_neg hlt]
        rw [e]
        obtain ⟨k1, k2, k3⟩ := EndS.fold_true l ⟨some b, lim⟩ P (fun q hq => h1 q (by simp [hq])) (fun _ => h2 rfl) (.inr rfl)
        have k3 := k3 rfl
        simp only at k3
        refine ⟨k1, fun q hq => ?_, fun _ => k3⟩
        rcases List.mem_cons.1 hq with rfl | hq
        · omega
        · exact k2 q hq
theorem St.lo_spec {s : St} (h : s.possible = 0) (rank : Nat) : (∃ p ∈ s.all, (s.endS rank false).lim = s.rk rank false p) ∧ ∀ p ∈ s.all, (s.endS rank false).lim ≤ s.rk rank false p := by
  obtain ⟨k1, k2, _⟩ := EndS.fold_false (s := s) (rank := rank) s.all ⟨none, 0⟩ (fun n => ∃ p ∈ s.all, n = s.rk rank false p) (fun p hp => ⟨p, hp, rfl⟩) (fun h => by cases h) (.inl (St.all_ne h))
  exact ⟨k1, k2⟩
theorem St.hi_spec {s : St} (h : s.possible = 0) (rank : Nat) : (∃ p ∈ s.all, (s.endS rank true).lim = s.rk rank true p) ∧ ∀ p ∈ s.all, s.rk rank true p ≤ (s.endS rank true).lim := by
  obtain ⟨k1, k2, _⟩ := EndS.fold_true (s := s) (rank := rank) s.all ⟨none, 0⟩ (fun n => ∃ p ∈ s.all, n = s.rk rank true p) (fun p hp => ⟨p, hp, rfl⟩) (fun h => by cases h) (.inl (St.all_ne h))
  exact ⟨k1, k2⟩
/-! ### What is looser -/
theorem St.paths_sub {s x : St} (hl : x.levels = s.levels) : ∀ (l l' : List Rn) (v : Int), l.length = l'.length → (∀ (j : Nat) (r r' : Rn), l[j]? = some r → l'[j]? = some r' → ∀ u k, r.may u k = true → r'.may u k = true) → (s.paths l v).Sublist (x.paths l' v)
  | [], [], v, _, _ => List.Sublist.refl _
  | [], _ :: _, v, h, _ => by simp at h
  | _ :: _, [], v, h, _ => by simp at h
  | r :: l, r' :: l', v, h, hm => by
    have hn : ∀ k, x.next v k = s.next v k := fun k => by unfold St.next; rw [hl]
    have h1 : ∀ k : Int, List.Sublist (if r.may v k = true then (s.paths l (s.next v k)).map (fun p => (k :: p.1, v :: p.2)) else []) (if r'.may v k = true then (x.paths l' (x.next v k)).map (fun p => (k :: p.1, v :: p.2)) else []) := fun k => by
      have ih := St.paths_sub (s := s) (x := x) hl l l' (s.next v k) (by simpa using h) (fun j a b e1 e2 => hm (j + 1) a b (by simpa using e1) (by simpa using e2))
      by_cases ha : r.may v k = true
      · have hb := hm 0 r r' rfl rfl v k ha
        rw [if_pos ha, if_pos hb, hn]
        exact ih.map _
      · rw [if_neg ha]
        exact List.nil_sublist _
    simp only [St.paths, List.flatMap_cons, List.flatMap_nil, List.append_nil]
    exact (h1 0).append ((h1 1).append (h1 2))
theorem St.paths_lost (s : St) : ∀ (rest : List Rn) (v : Int), (s.paths rest v).length ≤ 3 ^ lostN rest
  | [], v => by simp [St.paths, lostN]
  | r :: rest, v => by
    have h : ∀ k : Int, (if r.may v k = true then (s.paths rest (s.next v k)).map (fun p => (k :: p.1, v :: p.2)) else []).length ≤ 3 ^ lostN rest := fun k => by
      split
      · rw [List.length_map]; exact St.paths_lost s rest _
      · simp
    have hz : ∀ k : Int, ¬ r.res = 3 → ¬ r.res = k → (if r.may v k = true then (s.paths rest (s.next v k)).map (fun p => (k :: p.1, v :: p.2)) else []).length = 0 := fun k h1 h2 => by
      have : r.may v k = false := by unfold Rn.may; simp [h1, h2]
      rw [this]; rfl
    simp only [St.paths, List.flatMap_cons, List.flatMap_nil, List.append_nil, List.length_append]
    rw [lostN_cons]
    have h0 := h 0
    have h1 := h 1
    have h2 := h 2
    by_cases e : r.res = 3
    · rw [if_pos e, Nat.pow_succ]; omega
    · rw [if_neg e, Nat.add_zero]
      by_cases e0 : r.res = 0
      · rw [hz 1 e (by omega), hz 2 e (by omega)]; omega
      · by_cases e1 : r.res = 1
        · rw [hz 0 e e0, hz 2 e (by omega)]; omega
        · by_cases e2 : r.res = 2
          · rw [hz 0 e e0, hz 1 e e1]; omega
          · rw [hz 0 e e0, hz 1 e e1, hz 2 e e2]; omega
/-- A free run behind all others. -/
theorem St.paths_more {s x : St} (hl : x.levels = s.levels) : ∀ (l : List Rn) (v : Int), (x.paths (l ++ [⟨-1, 3⟩]) v).length = 3 * (s.paths l v).length
  | [], v => by
    simp [St.paths, Rn.may]
  | r :: l, v => by
    have hn : ∀ k, x.next v k = s.next v k := fun k => by unfold St.next; rw [hl]
    have h1 : ∀ k : Int, (if r.may v k = true then (x.paths (l ++ [⟨-1, 3⟩]) (x.next v k)).map (fun p => (k :: p.1, v :: p.2)) else []).length = 3 * (if r.may v k = true then (s.paths l (s.next v k)).map (fun p => (k :: p.1, v :: p.2)) else []).length := fun k => by
      split
      · rw [List.length_map, List.length_map, hn, St.paths_more hl l]
      · rfl
    simp only [List.cons_append, St.paths, List.flatMap_cons, List.flatMap_nil, List.append_nil, List.length_append, h1]
    omega
/-! ### The span of the middle -/
theorem MidS.fold_spec : ∀ (l : List (Option Int)) (c : MidS), ((l.foldl MidS.step c).found = true ↔ c.found = true ∨ ∃ n, some n ∈ l) ∧
    (∀ n, some n ∈ l → (l.foldl MidS.step c).lo ≤ n ∧ n ≤ (l.foldl MidS.step c).hi) ∧ (c.found = true → (l.foldl MidS.step c).lo ≤ c.lo ∧ c.hi ≤ (l.foldl MidS.step c).hi) ∧
    ((l.foldl MidS.step c).found = true → (some (l.foldl MidS.step c).lo ∈ l ∨ c.found = true ∧ (l.foldl MidS.step c).lo = c.lo) ∧ (some (l.foldl MidS.step c).hi ∈ l ∨ c.found = true ∧ (l.foldl MidS.step c).hi = c.hi))
  | [], c => by
    refine ⟨by simp, fun n h => by simp at h, fun _ => ⟨Int.le_refl _, Int.le_refl _⟩, fun h => ⟨.inr ⟨h, rfl⟩, .inr ⟨h, rfl⟩⟩⟩
  | none :: l, c => by
    obtain ⟨h1, h2, h3, h4⟩ := MidS.fold_spec l c
    have e : (none :: l).foldl MidS.step c = l.foldl MidS.step c := rfl
    rw [e]
    refine ⟨by rw [h1]; simp, fun n h => h2 n (by simpa using h), h3, fun h => ?_⟩
    obtain ⟨a, b⟩ := h4 h
    exact ⟨a.imp (fun h => by simp [h]) id, b.imp (fun h => by simp [h]) id⟩
  | some m :: l, c => by
    obtain ⟨lo, hi, f⟩ := c
    cases f with
    | false =>
      have e : (some m :: l).foldl MidS.step ⟨lo, hi, false⟩ = l.foldl MidS.step ⟨m, m, true⟩ := rfl
      obtain ⟨h1, h2, h3, h4⟩ := MidS.fold_spec l ⟨m, m, true⟩
      rw [e]
      have h3 := h3 rfl
      simp only at h3
      refine ⟨?_, fun n h => ?_, (fun h => by cases h), fun h => ?_⟩
      · rw [h1]; simp
      · rcases List.mem_cons.1 h with h | h
        · cases h; exact h3
        · exact h2 n h
      · obtain ⟨a, b⟩ := h4 h
        exact ⟨.inl (by rcases a with a | ⟨_, a⟩ <;> simp [a]), .inl (by rcases b with b | ⟨_, b⟩ <;> simp [b])⟩
    | true =>
      have e : (some m :: l).foldl MidS.step ⟨lo, hi, true⟩ = l.foldl MidS.step ⟨min lo m, max hi m, true⟩ := rfl
      obtain ⟨h1, h2, h3, h4⟩ := MidS.fold_spec l ⟨min lo m, max hi m, true⟩
      rw [e]
      have h3 := h3 rfl
      simp only at h3
      refine ⟨?_, fun n h => ?_, fun _ => ?_, fun h => ?_⟩
      · rw [h1]; simp
      · rcases List.mem_cons.1 h with h | h
        · cases h; omega
        · exact h2 n h
      · simp only; omega
      · obtain ⟨a, b⟩ := h4 h
        simp only at a b
        refine ⟨?_, ?_⟩
        · rcases a with a | ⟨_, a⟩
          · exact .inl (by simp [a])
          · rcases Int.le_total lo m with q | q
            · exact .inr ⟨rfl, by simp only; omega⟩
            · exact .inl (by rw [a]; simp; left; omega)
        · rcases b with b | ⟨_, b⟩
          · exact .inl (by simp [b])
          · rcases Int.le_total m hi with q | q
            · exact .inr ⟨rfl, by simp only; omega⟩
            · exact .inl (by rw [b]; simp; left; omega)
end Go.Proofs.Ytpfogpkocdlloaa

/-! Plain laws of layer 4 (stair): ranks. -/
namespace Go.Proofs.Ytpfogpkocdlloaa
open Go.RowKit

theorem St.lims_get {s : St} {high : Bool} : ∀ {ds ls : List Int} {j : Nat} {d l : Int}, ds[j]? = some d → ls[j]? = some l → (s.lims high ds ls)[j]? = some (s.lim high d l)
  | x :: ds, y :: ls, 0, d, l, h1, h2 => by
    simp at h1 h2; subst h1 h2; rfl
  | x :: ds, y :: ls, j + 1, d, l, h1, h2 => by
    simp only [St.lims, List.getElem?_cons_succ]
    exact St.lims_get (by simpa using h1) (by simpa using h2)
  | [], _, j, d, l, h1, h2 => by simp at h1
  | _ :: _, [], j, d, l, h1, h2 => by simp at h2
theorem St.rk_get {s : St} (hc : s.check = 0) {p : List Int × List Int} (hp : p ∈ s.all) {k : Nat} (hk : k < s.runs.length) (high : Bool) : (sortI (s.lims high p.1 p.2))[k]? = some (s.rk k high p) := by
  obtain ⟨h1, h2, _, _⟩ := St.all_ok hc hp
  unfold St.rk
  rw [List.getElem?_eq_getElem (by rw [sortI_len, St.lims_len (by omega)]; omega)]
  rfl
theorem St.rk_mem {s : St} (hc : s.check = 0) {p : List Int × List Int} (hp : p ∈ s.all) {k : Nat} (hk : k < s.runs.length) (high : Bool) : s.rk k high p ∈ s.lims high p.1 p.2 :=
  (sortI_perm _).mem_iff.1 (List.mem_of_getElem? (St.rk_get hc hp hk high))
theorem St.lims_mem {s : St} {high : Bool} {ds ls : List Int} {x : Int} (h : x ∈ s.lims high ds ls) : ∃ (j : Nat) (d l : Int), ds[j]? = some d ∧ ls[j]? = some l ∧ x = s.lim high d l := by
  induction ds generalizing ls with
  | nil => simp [St.lims] at h
  | cons d ds ih =>
    cases ls with
    | nil => simp [St.lims] at h
    | cons l ls =>
      rcases List.mem_cons.1 h with rfl | h
      · exact ⟨0, d, l, rfl, rfl, rfl⟩
      · obtain ⟨j, a, b, h1, h2, h3⟩ := ih h
        exact ⟨j + 1, a, b, by simpa using h1, by simpa using h2, h3⟩
theorem St.lim_bounds {s : St} {d v : Int} (hv : 0 ≤ v ∧ v ≤ s.levels - 1) : (0 ≤ s.lim false d v ∧ s.lim false d v ≤ s.lim true d v) ∧ s.lim true d v ≤ s.levels := by
  unfold St.lim St.bnd
  simp only [Bool.false_eq_true, if_false, if_true]
  split
  · simp only; omega
  · split
    · simp only; omega
    · simp only; omega
theorem St.rk_bounds {s : St} (hc : s.check = 0) {p : List Int × List Int} (hp : p ∈ s.all) {k : Nat} (hk : k < s.runs.length) : (0 ≤ s.rk k false p ∧ s.rk k false p ≤ s.rk k true p) ∧ s.rk k true p ≤ s.levels := by
  obtain ⟨h1, h2, _, _⟩ := St.all_ok hc hp
  obtain ⟨_, h6⟩ := St.all8 hc hp
  refine ⟨⟨?_, ?_⟩, ?_⟩
  · obtain ⟨j, d, l, _, e2, e3⟩ := St.lims_mem (St.rk_mem hc hp hk false)
    rw [e3]
    exact (St.lim_bounds (h6 l (List.mem_of_getElem? e2))).1.1
  · refine sortI_mono (l := s.lims false p.1 p.2) (l' := s.lims true p.1 p.2) (by rw [St.lims_len (by omega), St.lims_len (by omega)]) (fun j a b ha hb => ?_) (St.rk_get hc hp hk false) (St.rk_get hc hp hk true)
    have hj : j < p.1.length := by have := (List.getElem?_eq_some_iff.1 ha).1; rw [St.lims_len (by omega)] at this; exact this
    have e1 : p.1[j]? = some p.1[j] := List.getElem?_eq_getElem hj
    have e2 : p.2[j]? = some (p.2[j]'(by omega)) := List.getElem?_eq_getElem _
    rw [St.lims_get e1 e2] at ha hb
    cases ha; cases hb
    exact (St.lim_bounds (h6 _ (List.mem_of_getElem? e2))).1.2
  · obtain ⟨j, d, l, _, e2, e3⟩ := St.lims_mem (St.rk_mem hc hp hk true)
    rw [e3]
    exact (St.lim_bounds (h6 l (List.mem_of_getElem? e2))).2
theorem St.rk_step {s : St} (hc : s.check = 0) {p : List Int × List Int} (hp : p ∈ s.all) {k : Nat} (hk : k + 1 < s.runs.length) (high : Bool) : s.rk k high p ≤ s.rk (k + 1) high p :=
  sortI_step (St.rk_get hc hp (by omega) high) (St.rk_get hc hp hk high)
theorem St.rank_at {s : St} (h : s.possible = 0) {k : Nat} (hk : k < s.runs.length) : s.rank (k : Int) = (((s.endS k false).lim, (s.endS k true).lim), 0) := by
  have ha : s.asked (k : Int) = 0 := by unfold St.asked; rw [if_pos h, if_pos (by omega)]
  unfold St.rank
  rw [if_pos ha]; rfl
theorem St.rank_no {s : St} (h : ¬ s.possible = 0) (k : Int) : s.rank k = ((0, 0), s.possible) := by
  have ha : s.asked k = s.possible := by unfold St.asked; rw [if_neg h]
  unfold St.rank
  rw [ha, if_neg h]
theorem St.span_ok {s : St} (h : s.possible = 0) {k : Nat} (hk : k < s.runs.length) : (0 ≤ (s.endS k false).lim ∧ (s.endS k false).lim ≤ (s.endS k true).lim) ∧ (s.endS k true).lim ≤ s.levels := by
  have hc := St.possible0 h
  obtain ⟨⟨p, hp, e1⟩, _⟩ := St.lo_spec h k
  obtain ⟨⟨q, hq, e2⟩, h2⟩ := St.hi_spec h k
  have b1 := St.rk_bounds hc hp hk
  have b2 := St.rk_bounds hc hq hk
  have := h2 p hp
  omega
theorem St.span_step {s : St} (h : s.possible = 0) {k : Nat} (hk : k + 1 < s.runs.length) : (s.endS k false).lim ≤ (s.endS (k + 1) false).lim ∧ (s.endS k true).lim ≤ (s.endS (k + 1) true).lim := by
  have hc := St.possible0 h
  obtain ⟨_, h1⟩ := St.lo_spec h k
  obtain ⟨⟨p, hp, e1⟩, _⟩ := St.lo_spec h (k + 1)
  obtain ⟨⟨q, hq, e2⟩, _⟩ := St.hi_spec h k
  obtain ⟨_, h2⟩ := St.hi_spec h (k + 1)
  have := h1 p hp
  have := h2 q hq
  have := St.rk_step hc hp hk false
  have := St.rk_step hc hq hk true
  omega
/-- All runs stopped. -/
def St.still (s : St) : St := ⟨s.levels, s.start, s.runs.map fun _ => ⟨s.start, 2⟩⟩
theorem St.still_check {s : St} (hc : s.check = 0) : s.still.check = 0 := by
  obtain ⟨q1, q2, q3, q4⟩ := St.check0 hc
  have hl : lostN s.still.runs = 0 := by
    unfold lostN St.still
    rw [List.countP_eq_zero]
    intro r hr
    obtain ⟨_, _, rfl⟩ := List.mem_map.1 hr
    simp
  have hlen : s.still.runs.length = s.runs.length := by simp [St.still]
  unfold St.check
  rw [hl, hlen, if_neg (by omega), if_pos]
  refine ⟨?_, ?_⟩
  · unfold St.placed St.still; simp; omega
  · rw [List.all_eq_true]
    intro r hr
    obtain ⟨_, _, rfl⟩ := List.mem_map.1 hr
    unfold St.isRun St.still
    simp; omega
theorem St.still_paths (s : St) : ∀ l : List Rn, s.still.paths (l.map fun _ => ⟨s.start, 2⟩) s.start = [(List.replicate l.length 2, List.replicate l.length s.start)]
  | [] => rfl
  | r :: l => by
    have ih := St.still_paths s l
    have hn : s.still.next s.start 2 = s.start := rfl
    have m0 : (⟨s.start, 2⟩ : Rn).may s.start 0 = false := by simp [Rn.may]
    have m1 : (⟨s.start, 2⟩ : Rn).may s.start 1 = false := by simp [Rn.may]
    have m2 : (⟨s.start, 2⟩ : Rn).may s.start 2 = true := by simp [Rn.may]
    simp only [List.map_cons, St.paths, List.flatMap_cons, List.flatMap_nil, List.append_nil, m0, m1, m2, hn, ih, if_true, Bool.false_eq_true, if_false, List.nil_append, List.map_nil, List.length_cons, List.replicate_succ]
theorem St.still_all (s : St) : s.still.all = [(List.replicate s.runs.length 2, List.replicate s.runs.length s.start)] := St.still_paths s s.runs
theorem St.still_pos {s : St} (hc : s.check = 0) : s.still.possible = 0 := by
  rw [St.possible_all (St.still_check hc), St.still_all, if_neg (by simp)]
theorem St.still_rk {s : St} (hc : s.check = 0) {k : Nat} (hk : k < s.runs.length) (high : Bool) {p : List Int × List Int} (hp : p ∈ s.still.all) : s.still.rk k high p = if high = true then s.levels else 0 := by
  have hlen : s.still.runs.length = s.runs.length := by simp [St.still]
  have hm := St.rk_mem (St.still_check hc) hp (by rw [hlen]; exact hk) high
  obtain ⟨j, d, l, e1, e2, e3⟩ := St.lims_mem hm
  rw [St.still_all] at hp
  have hp' : p = (List.replicate s.runs.length 2, List.replicate s.runs.length s.start) := by simpa using hp
  subst hp'
  have hd : d = 2 := List.eq_of_mem_replicate (List.mem_of_getElem? e1)
  rw [e3, hd]
  unfold St.lim St.bnd
  cases high <;> rfl
theorem St.still_rank {s : St} (hc : s.check = 0) {k : Nat} (hk : k < s.runs.length) : s.still.rank (k : Int) = ((0, s.levels), 0) := by
  have hlen : s.still.runs.length = s.runs.length := by simp [St.still]
  rw [St.rank_at (St.still_pos hc) (by rw [hlen]; exact hk)]
  obtain ⟨⟨p, hp, e1⟩, _⟩ := St.lo_spec (St.still_pos hc) k
  obtain ⟨⟨q, hq, e2⟩, _⟩ := St.hi_spec (St.still_pos hc) k
  rw [e1, e2, St.still_rk hc hk false hp, St.still_rk hc hk true hq]
  rfl
end Go.Proofs.Ytpfogpkocdlloaa

/-! Plain laws of layer 4 (stair): a level or a result that becomes lost. -/
namespace Go.Proofs.Ytpfogpkocdlloaa
open Go.RowKit

/-- A level, or a result, of a run becomes lost. -/
def Rn.loose (level : Bool) (r : Rn) : Rn := if level = true then ⟨-1, r.res⟩ else ⟨r.level, 3⟩
def St.loose (s : St) (level : Bool) (k : Nat) : St := ⟨s.levels, s.start, s.runs.set k ((s.runs[k]?.getD ⟨0, 0⟩).loose level)⟩
theorem Rn.loose_may {level : Bool} {r : Rn} {u k : Int} (h : r.may u k = true) : (r.loose level).may u k = true := by
  unfold Rn.may at h
  simp only [Bool.and_eq_true, Bool.or_eq_true, decide_eq_true_eq] at h
  unfold Rn.may Rn.loose
  cases level <;> simp <;> omega
theorem St.loose_len {s : St} {level : Bool} {k : Nat} : (s.loose level k).runs.length = s.runs.length := by simp [St.loose]
theorem St.loose_may {s : St} {level : Bool} {k : Nat} : ∀ (j : Nat) (r r' : Rn), s.runs[j]? = some r → (s.loose level k).runs[j]? = some r' → ∀ u m, r.may u m = true → r'.may u m = true := by
  intro j r r' h1 h2 u m h
  unfold St.loose at h2
  simp only at h2
  by_cases e : k = j
  · subst e
    have hlt := (List.getElem?_eq_some_iff.1 h1).1
    rw [List.getElem?_set_self hlt, h1] at h2
    simp at h2
    subst h2
    exact Rn.loose_may h
  · rw [List.getElem?_set_ne e, h1] at h2
    cases h2; exact h
theorem St.loose_sub (s : St) (level : Bool) (k : Nat) : s.all.Sublist (s.loose level k).all :=
  St.paths_sub (s := s) (x := s.loose level k) rfl s.runs (s.loose level k).runs s.start St.loose_len.symm St.loose_may
theorem St.loose_pos {s : St} {level : Bool} {k : Nat} (h : s.possible = 0) (hx : (s.loose level k).check = 0) : (s.loose level k).possible = 0 := by
  rw [St.possible_all hx, if_neg]
  intro e
  have := St.loose_sub s level k
  rw [e] at this
  exact St.all_ne h (List.sublist_nil.1 this)
theorem St.many_all' (s : St) : s.many = if s.possible = 0 then s.all.length else 0 := by
  unfold St.many
  rw [St.items_all, List.length_map]
theorem St.loose_many {s : St} {level : Bool} {k : Nat} (h : s.possible = 0) (hx : (s.loose level k).check = 0) : s.many ≤ (s.loose level k).many := by
  rw [St.many_all', St.many_all', if_pos h, if_pos (St.loose_pos h hx)]
  exact (St.loose_sub s level k).length_le
theorem St.lims_levels {s x : St} (h : x.levels = s.levels) (high : Bool) : ∀ (ds ls : List Int), x.lims high ds ls = s.lims high ds ls
  | [], _ => rfl
  | _ :: _, [] => rfl
  | d :: ds, l :: ls => by
    have e : x.lim high d l = s.lim high d l := by unfold St.lim St.bnd; rw [h]
    simp only [St.lims]
    rw [e, St.lims_levels h high ds ls]
theorem St.loose_rk {s : St} {level : Bool} {k : Nat} (n : Nat) (high : Bool) (p : List Int × List Int) : (s.loose level k).rk n high p = s.rk n high p := by
  unfold St.rk
  rw [St.lims_levels (s := s) (x := s.loose level k) rfl high]
theorem St.loose_span {s : St} {level : Bool} {k : Nat} (h : s.possible = 0) (hx : (s.loose level k).check = 0) (n : Nat) : ((s.loose level k).endS n false).lim ≤ (s.endS n false).lim ∧ (s.endS n true).lim ≤ ((s.loose level k).endS n true).lim := by
  have hp := St.loose_pos h hx
  obtain ⟨⟨p, hp1, e1⟩, _⟩ := St.lo_spec h n
  obtain ⟨⟨q, hq1, e2⟩, _⟩ := St.hi_spec h n
  obtain ⟨_, g1⟩ := St.lo_spec hp n
  obtain ⟨_, g2⟩ := St.hi_spec hp n
  have h1 := g1 p ((St.loose_sub s level k).subset hp1)
  have h2 := g2 q ((St.loose_sub s level k).subset hq1)
  rw [St.loose_rk] at h1 h2
  omega
theorem St.mid_of {s : St} (h : s.possible = 0) : s.middle = if s.midS.found = true then ((s.midS.lo, s.midS.hi), 0) else ((0, 0), 7) := by
  unfold St.middle; rw [if_pos h]
theorem St.loose_mid {s : St} {level : Bool} {k : Nat} (h : s.possible = 0) (hx : (s.loose level k).check = 0) : s.middle.2 = 0 → (s.loose level k).middle.2 = 0 ∧ (s.loose level k).middle.1.1 ≤ s.middle.1.1 ∧ s.middle.1.2 ≤ (s.loose level k).middle.1.2 := by
  have hp := St.loose_pos h hx
  rw [St.mid_of h, St.mid_of hp]
  obtain ⟨a1, a2, a3, a4⟩ := MidS.fold_spec (s.all.map midP) ⟨0, 0, false⟩
  obtain ⟨b1, b2, b3, b4⟩ := MidS.fold_spec ((s.loose level k).all.map midP) ⟨0, 0, false⟩
  have e1 : (s.all.map midP).foldl MidS.step ⟨0, 0, false⟩ = s.midS := rfl
  have e2 : ((s.loose level k).all.map midP).foldl MidS.step ⟨0, 0, false⟩ = (s.loose level k).midS := rfl
  rw [e1] at a1 a2 a4
  rw [e2] at b1 b2
  have hsub : ∀ n, some n ∈ s.all.map midP → some n ∈ (s.loose level k).all.map midP := fun n hn => ((St.loose_sub s level k).map midP).subset hn
  intro hz
  cases hf : s.midS.found with
  | false => rw [hf] at hz; simp at hz
  | true =>
    obtain ⟨c1, c2⟩ := a4 hf
    simp at c1 c2
    have hfx : (s.loose level k).midS.found = true := b1.2 (.inr ⟨s.midS.lo, hsub _ (by simpa using c1)⟩)
    have d1 := b2 _ (hsub _ (by simpa using c1))
    have d2 := b2 _ (hsub _ (by simpa using c2))
    simp [hfx]
    omega
theorem St.many_lost {s : St} (h : lostN s.runs = 0) : s.all.length ≤ 1 := by
  have := St.paths_lost s s.runs s.start
  rw [h] at this
  exact this
theorem lostN_zero {l : List Rn} (h : l.any (fun r => decide (r.res = 3)) = false) : lostN l = 0 := by
  unfold lostN
  rw [List.countP_eq_zero]
  intro r hr
  have := List.any_eq_false.1 h r hr
  simpa using this
end Go.Proofs.Ytpfogpkocdlloaa
