/- Contracts of the reference (tensileref04): Middle. (Several texts in one.) -/
import Derived.Test.YtpfogpkocdlloaaStC
import Derived.Test.YtpfogpkocdlloaaRows
import Derived.WalkKit
import Derived.ProofKit
import Derived.OpenShut
set_option linter.unusedVariables false
set_option linter.unusedSimpArgs false
/-! Contracts of the reference (tensileref04): Middle. -/
namespace Go.Proofs.Ytpfogpkocdlloaa
open Go.RowKit
attribute [local simp] Box.purge Site.isLoc

set_option maxRecDepth 10000
set_option linter.unusedSimpArgs false

/-- Divided, rounded down. -/
theorem down_eq {n b : Int} (hb : 0 < b) (hn : n < 0) : -(Int.tdiv (b - 1 - n) b) = if Int.tdiv n b * b = n then Int.tdiv n b else Int.tdiv n b - 1 := by
  obtain ⟨m, rfl⟩ : ∃ m : Nat, n = -(m : Int) := ⟨n.natAbs, by omega⟩
  obtain ⟨c, rfl⟩ : ∃ c : Nat, b = (c : Int) := ⟨b.natAbs, by omega⟩
  have hc : 0 < c := by omega
  have e1 : Int.tdiv (-(m : Int)) c = -((m / c : Nat) : Int) := by rw [Int.neg_tdiv, ← Int.ofNat_tdiv]
  have e2 : ((c : Int) - 1 - -(m : Int)) = ((c - 1 + m : Nat) : Int) := by omega
  rw [e1, e2, ← Int.ofNat_tdiv]
  have hdm := Nat.div_add_mod m c
  have hml := Nat.mod_lt m hc
  by_cases hr : m % c = 0
  · have h3 : (c - 1 + m) / c = m / c := by
      rw [Nat.div_eq_iff (by omega)]
      rw [hr, Nat.add_zero, Nat.mul_comm] at hdm
      omega
    have h4 : -((m / c : Nat) : Int) * (c : Int) = -(m : Int) := by
      rw [Int.neg_mul, ← Int.natCast_mul, Nat.mul_comm]
      rw [hr, Nat.add_zero] at hdm
      rw [hdm]
    rw [if_pos h4, h3]
  · have h3 : (c - 1 + m) / c = m / c + 1 := by
      rw [Nat.div_eq_iff (by omega), Nat.add_mul]
      rw [Nat.mul_comm] at hdm
      omega
    have h4 : ¬ -((m / c : Nat) : Int) * (c : Int) = -(m : Int) := by
      rw [Int.neg_mul, ← Int.natCast_mul, Nat.mul_comm]
      omega
    rw [if_neg h4, h3]
    omega
theorem down_c (n b : Int) (hb : 0 < b ∧ b ≤ 1000) (hn : -1000000000 ≤ n ∧ n ≤ 1000000000) : Gives Try.prog 50 [.int .i64 n, .int .i64 b] (.int .i64 (if n < 0 then -(Int.tdiv (b - 1 - n) b) else Int.tdiv n b)) := by
  refine calls_of_awpS mixed L50_ok (Nat.le_of_ble_eq_true rfl) ?_
  have hb0 : ¬ b = 0 := by omega
  have hq := tdiv_bd (a := n) (b := b) (X := 1000000000) hn
  have w1 : IntKind.i64.wrap (n.tdiv b) = n.tdiv b := wrap64 (by omega)
  have w3 : IntKind.i64.wrap (n.tdiv b - 1) = n.tdiv b - 1 := wrap64 (by omega)
  cases h1 : decide (n < 0)
  · have h1' : ¬ n < 0 := by simpa using h1
    rw [if_neg h1']
    simp [-getElem?_pos, -decide_eq_true_eq, -decide_eq_false_iff_not, L50, hb0, w1, h1]
  · have h1' : n < 0 := by simpa using h1
    have hmul : -2000000000 ≤ n.tdiv b * b ∧ n.tdiv b * b ≤ 2000000000 := by
      have := Int.mul_tdiv_add_tmod n b
      have h2 := Int.tmod_lt_of_pos n hb.1
      have h3 : -b < n.tmod b := by
        have := Int.lt_tmod_of_pos n hb.1
        exact this
      rw [Int.mul_comm] at this
      omega
    have w2 : IntKind.i64.wrap (n.tdiv b * b) = n.tdiv b * b := wrap64 (by omega)
    rw [if_pos h1', down_eq hb.1 h1']
    by_cases h2 : n.tdiv b * b = n
    · rw [h2] at w2
      simp [-getElem?_pos, -decide_eq_true_eq, -decide_eq_false_iff_not, L50, hb0, w1, h1, w2, h2]
    · simp [-getElem?_pos, -decide_eq_true_eq, -decide_eq_false_iff_not, L50, hb0, w1, h1, w2, h2, w3]
end Go.Proofs.Ytpfogpkocdlloaa

/-! Contracts of the reference (tensileref04): the middle of a history. -/
namespace Go.Proofs.Ytpfogpkocdlloaa
open Go.RowKit
attribute [local simp] Box.purge Site.isLoc

set_option maxRecDepth 10000
set_option linter.unusedSimpArgs false

/-- As the reference adds up. -/
def Mid.addR (M : Mid) (d l : Int) : Mid := if d = 0 then { M with a0 := M.a0 + 1, b0 := M.b0 + (2 * l - 1) } else if d = 1 then { M with a1 := M.a1 + 1, b1 := M.b1 + (2 * l - 1 + 2) } else { M with a2 := M.a2 + 1, b2 := M.b2 + (2 * l - 1 + 4) }
def midR : List Int → List Int → Mid → Mid
  | d :: ds, l :: ls, M => midR ds ls (M.addR d l)
  | _, _, M => M
theorem midR_succ : ∀ {ds ls : List Int} {k : Nat} {d l : Int} {M : Mid}, ds[k]? = some d → ls[k]? = some l → midR (ds.take (k + 1)) (ls.take (k + 1)) M = (midR (ds.take k) (ls.take k) M).addR d l
  | x :: ds, y :: ls, 0, d, l, M, h1, h2 => by
    simp at h1 h2; subst h1 h2; simp [midR]
  | x :: ds, y :: ls, k + 1, d, l, M, h1, h2 => by
    simp only [List.take_succ_cons, midR]
    exact midR_succ (by simpa using h1) (by simpa using h2)
  | [], _, k, d, l, M, h1, h2 => by simp at h1
  | _ :: _, [], k, d, l, M, h1, h2 => by simp at h2
def Mid.like (M N : Mid) : Prop := M.a0 = N.a0 ∧ M.a1 = N.a1 ∧ M.b0 = N.b0 ∧ M.b1 = N.b1
theorem midR_like : ∀ (ds ls : List Int) (M N : Mid), M.like N → (midR ds ls M).like (midOf ds ls N)
  | [], _, _, _, h => h
  | _ :: _, [], _, _, h => h
  | d :: ds, l :: ls, M, N, h => by
    refine midR_like ds ls _ _ ?_
    obtain ⟨h1, h2, h3, h4⟩ := h
    unfold Mid.addR Mid.add
    split
    · refine ⟨?_, ?_, ?_, ?_⟩ <;> simp [h1, h2, h3, h4]; omega
    · split
      · refine ⟨?_, ?_, ?_, ?_⟩ <;> simp [h1, h2, h3, h4]; omega
      · exact ⟨h1, h2, h3, h4⟩
theorem Mid.mid_like {M N : Mid} (h : M.like N) : M.mid = N.mid := by
  obtain ⟨h1, h2, h3, h4⟩ := h
  unfold Mid.mid
  rw [h1, h2, h3, h4]
theorem Mid.small_addR {M : Mid} {k : Nat} {d l : Int} (h : M.small k) (hl : 0 ≤ l ∧ l ≤ 990) : (M.addR d l).small (k + 1) := by
  unfold Mid.small at *
  unfold Mid.addR
  split
  · simp only; omega
  · split
    · simp only; omega
    · simp only; omega
theorem midR_small {ds ls : List Int} (hlen : ds.length = ls.length) (hl : ∀ x ∈ ls, 0 ≤ x ∧ x ≤ 990) : ∀ k, k ≤ ds.length → (midR (ds.take k) (ls.take k) Mid.z).small k := by
  intro k
  induction k with
  | zero => intro _; simp [midR, Mid.small, Mid.z]
  | succ k ih =>
    intro hk
    have h1 : ds[k]? = some (ds[k]'(by omega)) := List.getElem?_eq_getElem _
    have h2 : ls[k]? = some (ls[k]'(by omega)) := List.getElem?_eq_getElem _
    rw [midR_succ h1 h2]
    exact Mid.small_addR (ih (by omega)) (hl _ (List.getElem_mem _))
set_option maxHeartbeats 8000000 in
theorem rmid_c (s : St) (hc : s.check = 0) (l : List Int) (hlen : l.length = s.runs.length) (hb : ∀ x ∈ l, 0 ≤ x ∧ x ≤ 2) (hlv : ∀ x ∈ s.lev s.start l, 0 ≤ x ∧ x ≤ 990) :
    Gives Try.prog 22 [s.pv, u8sP l] (match (midR l (s.lev s.start l) Mid.z).mid with
      | none => .tup [.int .i64 0, .bool false]
      | some n => .tup [.int .i64 n, .bool true]) := by
  obtain ⟨q1, q2, q3, q4⟩ := St.check0 hc
  refine calls_of_awpS mixed L22_ok (Nat.le_of_ble_eq_true rfl) ?_
  simp [-getElem?_pos, L22, St.pv, u8sP]
  refine .inl (call_pv [] (fs := []) (xs := [.int .i64 s.levels, .int .i64 s.start, u8sP l]) (cs := []) rfl rfl (levels_c s (by omega) (by omega) l (by omega)) ?_)
  simp [-getElem?_pos, frzsL]
  generalize hE : s.lev s.start l = E at *
  have hEl : E.length = l.length := by rw [← hE, St.lev_len]
  refine awp_loopS (fun n τ => ∃ (k : Nat) (M : Mid), k ≤ l.length ∧ n = l.length - k ∧ M = midR (l.take k) (E.take k) Mid.z ∧ τ = ⟨[(1, .pv (u8sP l)), (2, .ptr (.loc 2 0) 0), (6, .pv (intsP E)), (7, .ptr (.loc 7 0) 0), (8, .ptr (.loc 8 0) 0), (9, .pv (.int .i64 k))],
      [(.loc 8 0, .cells [.pv (.int .i64 M.b0), .pv (.int .i64 M.b1), .pv (.int .i64 M.b2)]), (.loc 7 0, .cells [.pv (.int .i64 M.a0), .pv (.int .i64 M.a1), .pv (.int .i64 M.a2)]), (.loc 2 0, .cells s.cells)]⟩)
    ⟨l.length, _, Sub.mk (by simp [u8sP]) (by simp [midR, Mid.z, St.cells]), 0, Mid.z, by omega, rfl, rfl, rfl⟩ ?_
  rintro J hJl n τ ⟨k, M, hk, rfl, hM, rfl⟩
  have hsm := midR_small (ds := l) (ls := E) (by omega) hlv k hk
  rw [← hM] at hsm
  obtain ⟨a0, a1, a2, b0, b1, b2⟩ := M
  unfold Mid.small at hsm
  simp only at hsm
  by_cases hlt : k < l.length
  · have hlk2 : k < E.length := by omega
    have hdk : l[k]? = some l[k] := List.getElem?_eq_getElem hlt
    have hlk : E[k]? = some E[k] := List.getElem?_eq_getElem hlk2
    generalize l[k] = x at hdk
    generalize E[k] = y at hlk
    have hmem := hb x (List.mem_of_getElem? hdk)
    have hlm := hlv _ (List.mem_of_getElem? hlk)
    have hnext := midR_succ (M := Mid.z) hdk hlk
    rw [← hM] at hnext
    have hg1 : (l.map u8P)[k]? = some (.int .u8 x) := by rw [List.getElem?_map, hdk]; rfl
    have hg2 : (E.map intP)[k]? = some (.int .i64 y) := by rw [List.getElem?_map, hlk]; rfl
    have hw : IntKind.i64.wrap ((k : Int) + 1) = ((k + 1 : Nat) : Int) := by rw [wrap64 (by omega)]; omega
    have hround := hJl _ _ ⟨k + 1, _, hlt, rfl, rfl, rfl⟩
    rw [hnext] at hround
    have : x = 0 ∨ x = 1 ∨ x = 2 := by omega
    have w2 : IntKind.i64.wrap (2 * y) = 2 * y := wrap64 (by omega)
    have w3 : IntKind.i64.wrap (2 * y - 1) = 2 * y - 1 := wrap64 (by omega)
    rcases this with rfl | rfl | rfl
    · have w1 : IntKind.i64.wrap (a0 + 1) = a0 + 1 := wrap64 (by omega)
      have w0 : IntKind.i64.wrap 0 = 0 := rfl
      have w5 : IntKind.i64.wrap (b0 + (2 * y - 1)) = b0 + (2 * y - 1) := wrap64 (by omega)
      simp [-getElem?_pos, -List.getElem?_map, u8sP, intsP_eq, hlt, hlk2, nblt, hg1, hg2, w0, w1, w2, w3, w5, hw]
      exact ⟨_, _, (by omega : l.length - (k + 1) < l.length - k), Sub.mk (by simp [u8sP, intsP_eq]) (by simp [Mid.addR]), hround⟩
    · have w1 : IntKind.i64.wrap (a1 + 1) = a1 + 1 := wrap64 (by omega)
      have w0 : IntKind.i64.wrap 1 = 1 := rfl
      have w01 : IntKind.i64.wrap 2 = 2 := rfl
      have w4 : IntKind.i64.wrap (2 * y - 1 + 2) = 2 * y - 1 + 2 := wrap64 (by omega)
      have w5 : IntKind.i64.wrap (b1 + (2 * y - 1 + 2)) = b1 + (2 * y - 1 + 2) := wrap64 (by omega)
      simp [-getElem?_pos, -List.getElem?_map, u8sP, intsP_eq, hlt, hlk2, nblt, hg1, hg2, w0, w01, w1, w2, w3, w4, w5, hw]
      exact ⟨_, _, (by omega : l.length - (k + 1) < l.length - k), Sub.mk (by simp [u8sP, intsP_eq]) (by simp [Mid.addR]), hround⟩
    · have w1 : IntKind.i64.wrap (a2 + 1) = a2 + 1 := wrap64 (by omega)
      have w0 : IntKind.i64.wrap 2 = 2 := rfl
      have w01 : IntKind.i64.wrap 4 = 4 := rfl
      have w4 : IntKind.i64.wrap (2 * y - 1 + 4) = 2 * y - 1 + 4 := wrap64 (by omega)
      have w5 : IntKind.i64.wrap (b2 + (2 * y - 1 + 4)) = b2 + (2 * y - 1 + 4) := wrap64 (by omega)
      simp [-getElem?_pos, -List.getElem?_map, u8sP, intsP_eq, hlt, hlk2, nblt, hg1, hg2, w0, w01, w1, w2, w3, w4, w5, hw]
      exact ⟨_, _, (by omega : l.length - (k + 1) < l.length - k), Sub.mk (by simp [u8sP, intsP_eq]) (by simp [Mid.addR]), hround⟩
  · have he : k = l.length := by omega
    subst he
    rw [List.take_length, List.take_of_length_le (by omega)] at hM
    rw [← hM]
    cases hc2 : decide (a1 < a0)
    · have hc' : ¬ a1 < a0 := by simpa using hc2
      cases hz : decide (a0 = 0)
      · have hz' : ¬ a0 = 0 := by simpa using hz
        have w1 : IntKind.i64.wrap (500 * b0) = 500 * b0 := wrap64 (by omega)
        have hd := down_c (500 * b0) a0 (by omega) (by omega)
        simp [-getElem?_pos, -decide_eq_true_eq, -decide_eq_false_iff_not, u8sP, nblt, hc2, hz, w1, hz']
        refine call_gives (k := 0) (fs := []) (cs := []) rfl rfl hd rfl ?_
        simp [-getElem?_pos, Mid.mid, hc', hz']
        split <;> rfl
      · have hz' : a0 = 0 := by simpa using hz
        simp [-getElem?_pos, -decide_eq_true_eq, -decide_eq_false_iff_not, u8sP, nblt, hc2, hz]
        unfold Mid.mid
        dsimp only
        rw [if_neg hc', if_pos hz']
    · have hc' : a1 < a0 := by simpa using hc2
      cases hz : decide (a1 = 0)
      · have hz' : ¬ a1 = 0 := by simpa using hz
        have w1 : IntKind.i64.wrap (500 * b1) = 500 * b1 := wrap64 (by omega)
        have hd := down_c (500 * b1) a1 (by omega) (by omega)
        simp [-getElem?_pos, -decide_eq_true_eq, -decide_eq_false_iff_not, u8sP, nblt, hc2, hz, w1, hz']
        refine call_gives (k := 0) (fs := []) (cs := []) rfl rfl hd rfl ?_
        simp [-getElem?_pos, Mid.mid, hc', hz']
        split <;> rfl
      · have hz' : a1 = 0 := by simpa using hz
        simp [-getElem?_pos, -decide_eq_true_eq, -decide_eq_false_iff_not, u8sP, nblt, hc2, hz]
        unfold Mid.mid
        dsimp only
        rw [if_pos hc', if_pos hz']
end Go.Proofs.Ytpfogpkocdlloaa

/-! The statement StairMiddles answers true. -/
namespace Go.Proofs.Ytpfogpkocdlloaa
open Go.RowKit
attribute [local simp] Box.purge Site.isLoc

set_option maxRecDepth 10000
set_option linter.unusedSimpArgs false

theorem St.next8 {s : St} (hs : 1 ≤ s.levels) {v : Int} (hv : 0 ≤ v ∧ v ≤ s.levels - 1) (k : Int) : 0 ≤ s.next v k ∧ s.next v k ≤ s.levels - 1 := by
  unfold St.next
  split <;> omega
theorem St.paths8 {s : St} (hs : 1 ≤ s.levels) : ∀ (rest : List Rn) (v : Int) (p : List Int × List Int), 0 ≤ v ∧ v ≤ s.levels - 1 → p ∈ s.paths rest v → p.2 = s.lev v p.1 ∧ ∀ y ∈ p.2, 0 ≤ y ∧ y ≤ s.levels - 1
  | [], v, p, _, h => by
    simp [St.paths] at h
    subst h
    exact ⟨rfl, fun y hy => by simp at hy⟩
  | r :: rest, v, p, hv, h => by
    unfold St.paths at h
    obtain ⟨k, hk, h⟩ := List.mem_flatMap.1 h
    split at h
    · obtain ⟨q, hq, rfl⟩ := List.mem_map.1 h
      obtain ⟨h1, h2⟩ := St.paths8 hs rest (s.next v k) q (St.next8 hs hv k) hq
      refine ⟨by simp only [St.lev]; rw [← h1], fun y hy => ?_⟩
      rcases List.mem_cons.1 hy with rfl | hy
      · exact hv
      · exact h2 y hy
    · cases h
theorem St.all8 {s : St} (hc : s.check = 0) {p : List Int × List Int} (hp : p ∈ s.all) : p.2 = s.lev s.start p.1 ∧ ∀ y ∈ p.2, 0 ≤ y ∧ y ≤ s.levels - 1 := by
  obtain ⟨q1, q2, q3, _⟩ := St.check0 hc
  exact St.paths8 q1.1 s.runs s.start p q2 hp
theorem St.rmid_all {s : St} (hc : s.check = 0) {p : List Int × List Int} (hp : p ∈ s.all) : Gives Try.prog 22 [s.pv, u8sP p.1] (match midP p with
      | none => .tup [.int .i64 0, .bool false]
      | some n => .tup [.int .i64 n, .bool true]) := by
  obtain ⟨h1, h2, h3, h4⟩ := St.all_ok hc hp
  obtain ⟨h5, h6⟩ := St.all8 hc hp
  obtain ⟨q1, q2, q3, _⟩ := St.check0 hc
  have h := rmid_c s hc p.1 h1 h3 (fun x hx => by rw [← h5] at hx; have := h6 x hx; omega)
  have e : (midR p.1 (s.lev s.start p.1) Mid.z).mid = midP p := by
    unfold midP
    rw [← h5]
    exact Mid.mid_like (midR_like _ _ _ _ ⟨rfl, rfl, rfl, rfl⟩)
  rw [e] at h
  exact h
theorem MidS.unfound : ∀ (l : List (Option Int)) (c : MidS), (c.found = false → c.lo = 0 ∧ c.hi = 0) → (l.foldl MidS.step c).found = false → (l.foldl MidS.step c).lo = 0 ∧ (l.foldl MidS.step c).hi = 0
  | [], c, h, hf => h hf
  | o :: l, c, h, hf => by
    refine MidS.unfound l _ ?_ hf
    cases o with
    | none => exact h
    | some n =>
      unfold MidS.step
      dsimp only
      split
      · intro h; cases h
      · intro h; cases h
def rhP (s : St) : PV := .lst false 1 ((s.all.map (·.1)).map u8sP)
set_option maxHeartbeats 16000000 in
theorem middles_law (s : St) : Gives Try.prog 3 [s.pv] (.bool true) := by
  refine calls_of_awpS mixed L3_ok (Nat.le_of_ble_eq_true rfl) ?_
  simp [-getElem?_pos, L3, St.pv]
  refine call_gives (k := 0) (fs := []) (xs := [s.pv]) (cs := []) rfl rfl (thin_c s) rfl ?_
  by_cases hn : s.runs.length ≤ 20
  · have hn' : decide ((s.runs.length : Int) ≤ 20) = true := by simp; omega
    simp [-getElem?_pos, -decide_eq_true_eq, -decide_eq_false_iff_not, hn']
    refine .inl (call_pv [] (fs := []) (xs := [s.pv]) (cs := []) rfl rfl (stairs_c s (by omega)) ?_)
    simp [-getElem?_pos, frzsL]
    refine call_gives (k := 0) (fs := []) (xs := [s.pv]) (cs := []) rfl rfl (middle_c s (by omega)) rfl ?_
    simp [-getElem?_pos, rangeP]
    refine call_gives (k := 0) (fs := []) (xs := [s.pv]) (cs := []) rfl rfl (askedL_c s (by omega)) rfl ?_
    by_cases hpo : s.possible = 0
    · have hc := St.possible0 hpo
      obtain ⟨q1, q2, q3, _⟩ := St.check0 hc
      have hlen : s.all.length ≤ 4782969 := by have := St.items_len q3; rw [St.items_all, List.length_map] at this; exact this
      simp [-getElem?_pos, hpo]
      refine .inl (call_pv [] (fs := []) (xs := [s.pv, .emp (some true)]) (cs := []) rfl rfl (rhist_nil s hc) ?_)
      simp only [frzsL]
      simp [-getElem?_pos, -List.map_map]
      refine awp_loopS (fun n τ => ∃ (k : Nat) (c : MidS), k ≤ s.all.length ∧ n = s.all.length - k ∧ c = ((s.all.take k).map midP).foldl MidS.step ⟨0, 0, false⟩ ∧
          τ = ⟨[(1, .ptr (.loc 1 0) 0), (3, .ptr (.loc 3 0) 0), (4, .pv (.int .i64 s.middle.2)), (5, .pv (.int .i64 (if c.found = true then 0 else 7))), (6, .ptr (.loc 6 0) 0), (7, .pv (rhP s)), (8, .pv (.int .i64 k))],
            [(.loc 6 0, .cells [.pv (.int .i64 c.lo), .pv (.int .i64 c.hi)]), (.loc 3 0, .cells [.pv (.int .i64 s.middle.1.1), .pv (.int .i64 s.middle.1.2)]), (.loc 1 0, .cells s.cells)]⟩)
        ⟨s.all.length, _, Sub.mk (by simp [rhP]) (by simp [St.cells]), 0, ⟨0, 0, false⟩, by omega, rfl, rfl, rfl⟩ ?_
      rintro J hJ n τ ⟨k, c, hk, rfl, hcc, rfl⟩
      by_cases hlt : k < s.all.length
      · have hx : s.all[k]? = some s.all[k] := List.getElem?_eq_getElem hlt
        have hmem : s.all[k] ∈ s.all := List.getElem_mem hlt
        have hts : s.all.take (k + 1) = s.all.take k ++ [s.all[k]] := by rw [List.take_add_one, hx]; rfl
        generalize s.all[k] = p at hx hmem hts
        have hr := St.rmid_all hc hmem
        have hw : IntKind.i64.wrap ((k : Int) + 1) = ((k + 1 : Nat) : Int) := by rw [wrap64 (by omega)]; omega
        have hg : ((s.all.map (·.1)).map u8sP)[k]? = some (u8sP p.1) := by rw [List.getElem?_map, List.getElem?_map, hx]; rfl
        have hround := hJ _ _ ⟨k + 1, c.step (midP p), hlt, rfl, by rw [hts, List.map_append, List.foldl_append, ← hcc]; rfl, rfl⟩
        obtain ⟨lo, hi, f⟩ := c
        cases hm : midP p with
        | none =>
          rw [hm] at hr hround
          have hst : MidS.step ⟨lo, hi, f⟩ none = ⟨lo, hi, f⟩ := rfl
          rw [hst] at hround
          simp [-getElem?_pos, -List.getElem?_map, -List.map_map, rhP, St.cells, hlt, nblt, hg, u8sP, PV.cells]
          refine call_gives (k := 0) (fs := []) (xs := [s.pv, u8sP p.1]) (cs := []) rfl rfl hr rfl ?_
          simp [-getElem?_pos, hw]
          exact ⟨_, _, (by omega : s.all.length - (k + 1) < s.all.length - k), Sub.mk (by simp [rhP]) (by simp [St.cells]), hround⟩
        | some m =>
          rw [hm] at hr hround
          simp [-getElem?_pos, -List.getElem?_map, -List.map_map, rhP, St.cells, hlt, nblt, hg, u8sP, PV.cells]
          refine call_gives (k := 0) (fs := []) (xs := [s.pv, u8sP p.1]) (cs := []) rfl rfl hr rfl ?_
          cases f with
          | false =>
            have hst : MidS.step ⟨lo, hi, false⟩ (some m) = ⟨m, m, true⟩ := rfl
            rw [hst] at hround
            simp [-getElem?_pos, hw]
            exact ⟨_, _, (by omega : s.all.length - (k + 1) < s.all.length - k), Sub.mk (by simp [rhP]) (by simp [St.cells]), hround⟩
          | true =>
            have hst : MidS.step ⟨lo, hi, true⟩ (some m) = ⟨if m < lo then m else lo, if m > hi then m else hi, true⟩ := by
              simp only [MidS.step]
              congr 1
              · split <;> omega
              · split <;> omega
            rw [hst] at hround
            simp [-getElem?_pos, hw]
            exact ⟨_, _, (by omega : s.all.length - (k + 1) < s.all.length - k), Sub.mk (by simp [rhP]) (by simp [St.cells]), hround⟩
      · have he : k = s.all.length := by omega
        subst he
        rw [List.take_length] at hcc
        have hcc' : c = s.midS := hcc
        have hun := MidS.unfound (s.all.map midP) ⟨0, 0, false⟩ (fun _ => ⟨rfl, rfl⟩)
        have hfold : (s.all.map midP).foldl MidS.step ⟨0, 0, false⟩ = s.midS := rfl
        rw [hfold, ← hcc'] at hun
        have hmid : s.middle = if c.found = true then ((c.lo, c.hi), 0) else ((0, 0), 7) := by unfold St.middle; rw [if_pos hpo, hcc']
        cases hf : c.found with
        | true =>
          rw [hf] at hmid
          simp at hmid
          simp [-getElem?_pos, -List.map_map, rhP, St.cells, hf, hmid]
          refine call_gives (k := 0) (fs := []) (xs := []) (cs := []) rfl rfl awake_c rfl ?_
          simp [-getElem?_pos]
        | false =>
          rw [hf] at hmid
          simp at hmid
          obtain ⟨e1, e2⟩ := hun hf
          simp [-getElem?_pos, -List.map_map, rhP, St.cells, hf, hmid, e1, e2]
          refine call_gives (k := 0) (fs := []) (xs := []) (cs := []) rfl rfl awake_c rfl ?_
          simp [-getElem?_pos]
    · have hmid : s.middle = ((0, 0), s.possible) := by unfold St.middle; rw [if_neg hpo]
      simp [-getElem?_pos, hpo, hmid]
      refine call_gives (k := 0) (fs := []) (xs := []) (cs := []) rfl rfl awake_c rfl ?_
      simp [-getElem?_pos]
  · have hn' : decide ((s.runs.length : Int) ≤ 20) = false := by simp; omega
    simp [-getElem?_pos, -decide_eq_true_eq, -decide_eq_false_iff_not, hn']
    refine call_gives (k := 0) (fs := []) (xs := []) (cs := []) rfl rfl awake_c rfl ?_
    simp [-getElem?_pos]
end Go.Proofs.Ytpfogpkocdlloaa

/-! The statement StairMiddles holds: for every input the law answers true, and its argument reads behind the call as before. No conditions. -/
namespace Go.Proofs.Ytpfogpkocdlloaa
open Go.ChangeShapes Go.WideShapes Go.ChangeAt Go.RowKit

set_option maxRecDepth 100000 in
theorem walkStairMiddles (v0 : Value) (W : World) {H : Type} {enc : TypeId × Value → H} {base : Nat} {sp : Nat → Bool} {hd : Bool} {d0 : DataW H} {p0 : List MemPlace}
    (k0 : Value.okWide Try.prog W .any base 24 v0) (h0 : DataW.Trod enc Try.prog W 0 sp hd 24 v0 d0 p0) :
    Calls Try.prog 3 #[v0] W fun e w' => e = .returned (.bool true) ∧ Keep [] W w' := by
  obtain ⟨n0, h0⟩ := h0
  obtain ⟨s0, w0, l0, r0⟩ := rd_stairs k0 h0
  refine calls_bool (xs := [s0.pv]) (b := true) ((middles_law s0).mono (fun _ _ h => h.1)) rfl (fun j v x e1 e2 => ?_)
  match j with
  | 0 => simp at e1 e2; subst e1 e2; exact r0
  | j + 1 => simp at e1
set_option maxRecDepth 100000 in
theorem liftedStairMiddles (os : Os) (started : os.Started) (H : Type) (enc : TypeId × Value → H) :
    ReturnsInHanded {} Try.checked os 3 .any (Rows.stairMiddlesSpec.pre6 enc Try.prog Try.f3 Rows.stairMiddlesRow.domain false) (Rows.stairMiddlesSpec.post enc Try.prog Try.f3 false true false false) := by
  refine returnsInHanded_of_change (C := Try.checked) own started (by kernel_rfl) Try.func3
    (ChangeSpec.witness6 (enc := enc) (C := Try.checked) false ⟨#[], #[.agg #[.int .i64 0, .int .i64 0, .slice none 0 0]], []⟩ 8 (by kernel_rfl) (by kernel_rfl) (by kernel_rfl) (by kernel_rfl)) ?_
  intro W base args ds gs before hval0 hW hcnd _
  have hval : ∀ (j : Nat) t v, Try.f3.params[j]? = some t → args[j]? = some v → Value.okWide Try.prog W .any base t v := hval0
  have hW' := hW
  obtain ⟨p, q, hA0, hV, rfl, hfz, hnd⟩ := hW
  have hA : DataW.TrodAll enc Try.prog W 0 (fun _ => true) true Try.f3.params.toList args.toList ds p := hA0
  rw [Try.params3] at hA hval
  obtain ⟨v0, vs0, d0, ds0, p0, q0, hargs, rfl, rfl, h0, r0⟩ := trodAll_cons hA
  obtain ⟨rfl, rfl, rfl⟩ := trodAll_nil r0
  have hargs' : args = #[v0] := by
    apply Array.ext'
    exact hargs
  subst hargs'
  have k0 := hval 0 _ v0 rfl rfl
  obtain ⟨rfl, rfl⟩ := trodVars_none hV
  refine (walkStairMiddles v0 W k0 h0).mono fun e W' ⟨he, hk⟩ => ?_
  subst he
  exact ⟨_, rfl, post_law (tb := 4) laidP rowedP fullP (by decide +kernel) rfl rfl rfl Try.underlying4 hW' hk⟩
theorem overStairMiddles : Rows.stairMiddlesRow.holds Try.pinned (OpenSpec.ofChange Rows.stairMiddlesSpec) :=
  OpenClaim.holds_of_wide 3 Try.f3 rfl rfl rfl rfl rfl rfl rfl ⟨rfl, rfl, rfl, rfl, rfl⟩ rfl rfl rfl rfl rfl (by kernel_rfl) Try.func3 (by kernel_rfl)
    (of_decide_eq_true (by kernel_rfl)) (by unfold Func.isWrapper; first | (rw [if_pos (by decide +kernel)]; kernel_rfl) | (rw [if_neg (by decide +kernel)]; exact ⟨rfl, rfl⟩))
    (fun os started H enc _ => liftedStairMiddles os started H enc)
theorem provedStairMiddles : Rows.StairMiddlesSaid := overStairMiddles
end Go.Proofs.Ytpfogpkocdlloaa
